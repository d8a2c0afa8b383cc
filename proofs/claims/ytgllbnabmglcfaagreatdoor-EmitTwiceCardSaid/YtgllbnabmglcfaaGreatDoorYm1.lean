/-
  The texts YM.C, YM.O, YM.E0, YM.TA, YM.GT, YM.S1, YM.TB, YM.TC, one behind another. No conditions.
-/
import Derived.Test.YtgllbnabmglcfaaGreatDoorIm1
import Derived.Test.YtgllbnabmglcfaaGreatDoorIm2
import Derived.Test.YtgllbnabmglcfaaGreatDoorVt1
set_option linter.unusedVariables false
set_option linter.unusedSimpArgs false
set_option linter.all false
open List renaming length → aa8
namespace Go.Proofs.YtgllbnabmglcfaaGreatDoor
section
open Go Hk
theorem Op.pF (x:Op):x.cells=[.int .i64 x.kind,.int .i64 x.dst,.int .i64 x.a,.int .i64 x.b,.int .i64 x.c,.int .i64 x.imm]:=(rfl)
theorem Term.pF (x:Term):x.cells=[.int .i64 x.kind,.int .i64 x.a,.int .i64 x.yes,.int .i64 x.no]:=(rfl)
theorem mV.pF (x:mV):x.cells=[.int .i64 x.elem,.int .i64 x.len,.int .i64 x.kind,.int .i64 x.off]:=(rfl)
theorem mF.pF (x:mF):x.cells=[.slice (Rw Op.cells x.ops) .no,.int .i64 x.term.kind,.int .i64 x.term.a,.int .i64 x.term.yes,.int .i64 x.term.no]:=(rfl)
attribute [simp] Op.pF Term.pF mV.pF mF.pF
structure Span where
 first:Int
 last:Int
 deriving DecidableEq
def Span.cells (x:Span):List lC:=[.int .i64 x.first,.int .i64 x.last]
theorem Span.pF (x:Span):x.cells=[.int .i64 x.first,.int .i64 x.last]:=(rfl)
structure mG where
 slots:List Int
 most:Int
 bad:Bool
attribute [simp] Span.pF
def IF (o:Op):Option Bool:=some (nK o.kind).dst
theorem aj6 (o:Op) (h:lD):KK 73 [.agg [.int .i64 o.kind,.int .i64 o.dst,.int .i64 o.a,.int .i64 o.b,.int .i64 o.c,.int .i64 o.imm]] h=tm (IF o) fun r=>(.ret (.bool r),h):=c73 o h
def Jq (o:Op):Option (List Int):=some (oO o)
theorem aqE (o:Op) (h:lD):KK 36 [.agg [.int .i64 o.kind,.int .i64 o.dst,.int .i64 o.a,.int .i64 o.b,.int .i64 o.c,.int .i64 o.imm]] h=tm (Jq o) fun r=>(.ret (.slice (Rw (ci .i64) r) .no),h):=c36 o h
theorem aqF (a b c d e f:Int) (h:lD):KK 36 [.agg [.int .i64 a,.int .i64 b,.int .i64 c,.int .i64 d,.int .i64 e,.int .i64 f]] h=tm (Jq ⟨a,b,c,d,e,f⟩) fun r=>(.ret (.slice (Rw (ci .i64) r) .no),h):=c36 ⟨a,b,c,d,e,f⟩ h
def Yi (p:IR):Option Int:=some (oR p)
theorem rt9 (p:IR) (h:lD):KK 9 [.agg [.int .i64 p.temps,.slice (Rw mV.cells p.arrays) .no,.slice (Rw mF.cells p.blocks) .no,.int .i64 p.inn,.int .i64 p.out]] h=tm (Yi p) fun r=>(.ret (.int .i64 r),h):=c9 p h
end
end Go.Proofs.YtgllbnabmglcfaaGreatDoor
namespace Hk
section
open Go
def fO (rows:List (List lC)) (j:Nat) (h:lD) (b:Option mC):Option (nB×lD):=match b with
 | some (.front a c)=>some (.ret (.slice rows (.own 0)),[.front a c])
 | _=>Je 0 (.slice rows (.own j)) h
@[simp] theorem aoX {rows:List (List lC)}{j:Nat}{h:lD}:Je 0 (.slice rows (.own j)) h=fO rows j h h[j]?:=by
 unfold fO
 split
 ·rename_i b a c hj
  have e:HO 0 (.slice rows (.own j)) h=[j]:=by
   simp [HO,reach,KS,KF,lC.refs,lC.x_,uA,hj]
  unfold Je
  rw [e]
  have hd:h.getD j .free=.front a c:=by simp [List.getD,hj]
  simp [Vw,Sv,xQ,sU,lC.ok,lC.IS,lC.uQ,lC.zR,uA,Ai,hj,hd]
 ·rfl
@[simp] theorem auR {rows:List (List lC)}{j sz n:Nat}{h:lD}:fO rows j h (some (oK sz n))=some (.ret (.slice rows (.own 0)),[oK sz n]):=(rfl)
@[simp] theorem aoT {rows:List (List lC)}{j a c:Nat}{h:lD}:fO rows j h (some (.front a c))=some (.ret (.slice rows (.own 0)),[.front a c]):=(rfl)
theorem wN {rows:List (List lC)}{sz n:Nat}{h:lD}:tA true h (.ret (.slice rows (.own 0)),[oK sz n])=some (.ret (.slice rows (.own h.length)),h++[oK sz n]):=by
 simp [tA,lC.ok,lC.IS,lC.uQ,lC.zR,uA,nB.uQ,nB.ok]
end
end Hk
namespace Go.Proofs.YtgllbnabmglcfaaGreatDoor
section
open Go Hk
structure Sz where
 inn:Int
 outt:Int
 rail:Int
 deriving DecidableEq
def Sz.cells (x:Sz):List lC:=[.int .i64 x.inn,.int .i64 x.outt,.int .i64 x.rail]
@[simp] theorem Sz.pF (x:Sz):x.cells=[.int .i64 x.inn,.int .i64 x.outt,.int .i64 x.rail]:=(rfl)
structure Ins where
 op:Int
 rd:Int
 rn:Int
 rm:Int
 ra:Int
 imm:Int
 cond:Int
 wide:Bool
 deriving DecidableEq
def Ins.cells (x:Ins):List lC:=[.int .i64 x.op,.int .i64 x.rd,.int .i64 x.rn,.int .i64 x.rm,.int .i64 x.ra,.int .i64 x.imm,.int .i64 x.cond,.bool x.wide]
@[simp] theorem Ins.pF (x:Ins):x.cells=[.int .i64 x.op,.int .i64 x.rd,.int .i64 x.rn,.int .i64 x.rm,.int .i64 x.ra,.int .i64 x.imm,.int .i64 x.cond,.bool x.wide]:=(rfl)
structure mT where
 kind:Int
 label:Int
 ins:Ins
 deriving DecidableEq
def mT.cells (x:mT):List lC:=[.int .i64 x.kind,.int .i64 x.label,.int .i64 x.ins.op,.int .i64 x.ins.rd,.int .i64 x.ins.rn,.int .i64 x.ins.rm,.int .i64 x.ins.ra,.int .i64 x.ins.imm,.int .i64 x.ins.cond,.bool x.ins.wide]
@[simp] theorem mT.pF (x:mT):x.cells=[.int .i64 x.kind,.int .i64 x.label,.int .i64 x.ins.op,.int .i64 x.ins.rd,.int .i64 x.ins.rn,.int .i64 x.ins.rm,.int .i64 x.ins.ra,.int .i64 x.ins.imm,.int .i64 x.ins.cond,.bool x.ins.wide]:=(rfl)
structure u5 where
 image:Int
 arrays:List Int
 size:Int
 deriving DecidableEq
def u5.cells (x:u5):List lC:=[.int .i64 x.image,.slice (Rw (ci .i64) x.arrays) .no,.int .i64 x.size]
@[simp] theorem u5.pF (x:u5):x.cells=[.int .i64 x.image,.slice (Rw (ci .i64) x.arrays) .no,.int .i64 x.size]:=(rfl)
structure oE where
 elem:Int
 off:Int
 inp:Bool
 deriving DecidableEq
def oE.cells (x:oE):List lC:=[.int .i64 x.elem,.int .i64 x.off,.bool x.inp]
@[simp] theorem oE.pF (x:oE):x.cells=[.int .i64 x.elem,.int .i64 x.off,.bool x.inp]:=(rfl)
structure Fm where
 rd:Int
 rn:Int
 rm:Int
 ra:Int
 least:Int
 most:Int
 deriving DecidableEq
def Fm.cells (x:Fm):List lC:=[.int .i64 x.rd,.int .i64 x.rn,.int .i64 x.rm,.int .i64 x.ra,.int .i64 x.least,.int .i64 x.most]
@[simp] theorem Fm.pF (x:Fm):x.cells=[.int .i64 x.rd,.int .i64 x.rn,.int .i64 x.rm,.int .i64 x.ra,.int .i64 x.least,.int .i64 x.most]:=(rfl)
structure Lay where
 n:Int
 deriving DecidableEq
def Lay.cells (x:Lay):List lC:=[.int .i64 x.n]
@[simp] theorem Lay.pF (x:Lay):x.cells=[.int .i64 x.n]:=(rfl)
structure AO where
 lay:Lay
 deriving DecidableEq
def AO.cells (x:AO):List lC:=[.int .i64 x.lay.n]
@[simp] theorem AO.pF (x:AO):x.cells=[.int .i64 x.lay.n]:=(rfl)
abbrev t36:=Jq
abbrev t73:=IF
abbrev t9:=Yi
theorem Xd (o:Op) (h:lD):KK 36 [.agg [.int .i64 o.kind,.int .i64 o.dst,.int .i64 o.a,.int .i64 o.b,.int .i64 o.c,.int .i64 o.imm]] h=tm (t36 o) fun r=>(.ret (.slice (Rw (ci .i64) r) .no),h):=aqE o h
theorem r73 (o:Op) (h:lD):KK 73 [.agg [.int .i64 o.kind,.int .i64 o.dst,.int .i64 o.a,.int .i64 o.b,.int .i64 o.c,.int .i64 o.imm]] h=tm (t73 o) fun r=>(.ret (.bool r),h):=aj6 o h
theorem r9 (p:IR) (h:lD):KK 9 [.agg [.int .i64 p.temps,.slice (Rw mV.cells p.arrays) .no,.slice (Rw mF.cells p.blocks) .no,.int .i64 p.inn,.int .i64 p.out]] h=tm (t9 p) fun r=>(.ret (.int .i64 r),h):=rt9 p h
end
noncomputable section
open Go Hk
def R7 (mm:Nat) (JU:R):Option (nB×lD) :=
 (fun aA aB=>Ex.nR JU.1 (nJ mm aA aB)) (gd JU.2.1 0) JU.2.2
def Qh (K:lN) (t28:lC) (aA:lD):Option R :=
 some (.ret,[t28],aA)
def BI (aA:Bool):Option (Bool) :=
 some aA
set_option maxHeartbeats 4000000 in
theorem ajO (w31:Bool):((Qh KK (.bool w31) ([]:lD))).bind (R7 0)=tm (BI w31) fun r=>(.ret (.bool r),[]):=by
 cases w31 <;> simp +contextual -implicitDefEqProofs (maxSteps:=2000000) [-lM,-lF,-lE,-lG,-lK,-lI,-lH,Qh,BI,R7]
def m31 (K:lN) (a0 a1 a2:lC) (h0:lD):Option (nB×lD) :=
 (bo .geq a0 a1 fun aA=>gS true aA (lV a0 h0) h0 fun aE aB=>gS true aA (lV a2 aB) aB fun t23 aC=>gS true aA (bo .leq aE t23 fun aF=>lV aF aC) aC fun t26 aD=>(mJ aA t26 (.bool false)).bind fun t28=>Qh K t28 aD).bind (R7 (aa8 h0))
theorem ah0 (K:lN) (a0 a1 a2:lC) (h0:lD):qG Tryz.prog mY mX K 31 [a0,a1,a2] h0=m31 (mH mY K) a0 a1 a2 h0:=by kernel_rfl
def t31 (p0:Int) (p1:Int) (p2:Int):Option (Bool) :=
 tc (decide (p1≤p0)) (BI (decide (p0≤p2))) (BI false)
set_option maxHeartbeats 4000000 in
theorem b31 (p0:Int) (p1:Int) (p2:Int):m31 KK (.int .i64 p0) (.int .i64 p1) (.int .i64 p2) []=tm (t31 p0 p1 p2) fun r=>(.ret (.bool r),[]):=by
 simp +contextual -implicitDefEqProofs (maxSteps:=2000000) [-lM,-lF,-lE,-lG,-lK,-lI,-lH,m31,t31,R7,ajO]
theorem C_ (p0:Int) (p1:Int) (p2:Int) (h:lD):KK 31 [(.int .i64 p0),(.int .i64 p1),(.int .i64 p2)] h=tm (t31 p0 p1 p2) fun r=>(.ret (.bool r),h):=nZ rfl rfl (ah0 ..) (b31 p0 p1 p2)
def adQ (mm:Nat) (aA:R):Option (nB×lD) :=
 (fun aB aC aD=>Ex.nR aA.1 ((lP true 6 aD aB).bind fun aE=>nJ mm (.tuple [aE,aC]) aD)) (gd aA.2.1 0) (gd aA.2.1 1) aA.2.2
def P8 (K:lN) (m:Nat) (t28:lC) (aB:lC) (a0:lC) (aA:lD):Option R :=
 lS t28 (lX m .normal [aB,(.bool false),a0,t28] aA) (bo .eql a0 (.int .i64 4) fun t32=>lX m .normal [aB,(.bool false),a0,t32] aA)
def C5 (aA:Bool) (p0:Int):Option (Bool) :=
 tc aA (some aA) (some (decide (p0=4)))
set_option maxHeartbeats 4000000 in
theorem ajE (w31:Bool) (p0:Int):(P8 KK 1 (.bool w31) (.ptr 0 0) (.int .i64 p0) ([.cells [(.int .i64 0),(.int .i64 0),(.int .i64 0),(.int .i64 0),(.int .i64 0),(.int .i64 0)]]:lD))=tm (C5 w31 p0) fun r=>(.normal,[(.ptr 0 0),(.bool false),(.int .i64 p0),(.bool r)],([.cells [(.int .i64 0),(.int .i64 0),(.int .i64 0),(.int .i64 0),(.int .i64 0),(.int .i64 0)]]:lD)):=by
 cases w31 <;> simp +contextual -implicitDefEqProofs (maxSteps:=2000000) [-lM,-lF,-lE,-lG,-lK,-lI,-lH,P8,C5]
def P_ (K:lN) (m:Nat) (aE:lC) (aB:lC) (aC:lC) (aA:lC) (aD:lD):Option R :=
 lS aE (lX m .normal [aB,aC,aA,aE] aD) (bo .eql aA (.int .i64 8) fun aF=>lX m .normal [aB,aC,aA,aF] aD)
def MB (aA:Bool) (p0:Int):Option (Bool) :=
 tc aA (some aA) (some (decide (p0=8)))
set_option maxHeartbeats 4000000 in
theorem ajG (w48:Bool) (p0:Int):(P_ KK 1 (.bool w48) (.ptr 0 0) (.bool false) (.int .i64 p0) ([.cells [(.int .i64 0),(.int .i64 0),(.int .i64 0),(.int .i64 0),(.int .i64 0),(.int .i64 0)]]:lD))=tm (MB w48 p0) fun r=>(.normal,[(.ptr 0 0),(.bool false),(.int .i64 p0),(.bool r)],([.cells [(.int .i64 0),(.int .i64 0),(.int .i64 0),(.int .i64 0),(.int .i64 0),(.int .i64 0)]]:lD)):=by
 cases w48 <;> simp +contextual -implicitDefEqProofs (maxSteps:=2000000) [-lM,-lF,-lE,-lG,-lK,-lI,-lH,P_,MB]
def P9 (K:lN) (m:Nat) (aJ:lC) (aB:lC) (aC:lC) (aA:lC) (aI:lD):Option R :=
 lS aJ (lX m .normal [aB,aC,aA,aJ] aI) (bo .eql aA (.int .i64 7) fun aL=>(P_ K (aa8 aI) aL aB aC aA aI).bind fun aE=>(fun aF aG aH aD aK=>Ex.qZ aE.1 (lX m .normal [aF,aG,aH,aD] aK)) (gd aE.2.1 0) (gd aE.2.1 1) (gd aE.2.1 2) (gd aE.2.1 3) aE.2.2)
def My (aA:Bool) (p0:Int):Option (Bool) :=
 tc aA (some aA) (tb (MB (decide (p0=7)) p0) fun aB=>some aB)
set_option maxHeartbeats 4000000 in
theorem ajF (w46:Bool) (p0:Int):(P9 KK 1 (.bool w46) (.ptr 0 0) (.bool false) (.int .i64 p0) ([.cells [(.int .i64 0),(.int .i64 0),(.int .i64 0),(.int .i64 0),(.int .i64 0),(.int .i64 0)]]:lD))=tm (My w46 p0) fun r=>(.normal,[(.ptr 0 0),(.bool false),(.int .i64 p0),(.bool r)],([.cells [(.int .i64 0),(.int .i64 0),(.int .i64 0),(.int .i64 0),(.int .i64 0),(.int .i64 0)]]:lD)):=by
 cases w46 <;> simp +contextual -implicitDefEqProofs (maxSteps:=2000000) [-lM,-lF,-lE,-lG,-lK,-lI,-lH,P9,My,ajG]
def Qf (K:lN) (m:Nat) (aE:lC) (aB:lC) (aC:lC) (aA:lC) (aD:lD):Option R :=
 lS aE (lX m .normal [aB,aC,aA,aE] aD) (bo .eql aA (.int .i64 16) fun aF=>lX m .normal [aB,aC,aA,aF] aD)
def Q9 (aA:Bool) (p0:Int):Option (Bool) :=
 tc aA (some aA) (some (decide (p0=16)))
set_option maxHeartbeats 4000000 in
theorem ajM (w79:Bool) (p0:Int):(Qf KK 1 (.bool w79) (.ptr 0 0) (.bool false) (.int .i64 p0) ([.cells [(.int .i64 0),(.int .i64 0),(.int .i64 0),(.int .i64 0),(.int .i64 0),(.int .i64 0)]]:lD))=tm (Q9 w79 p0) fun r=>(.normal,[(.ptr 0 0),(.bool false),(.int .i64 p0),(.bool r)],([.cells [(.int .i64 0),(.int .i64 0),(.int .i64 0),(.int .i64 0),(.int .i64 0),(.int .i64 0)]]:lD)):=by
 cases w79 <;> simp +contextual -implicitDefEqProofs (maxSteps:=2000000) [-lM,-lF,-lE,-lG,-lK,-lI,-lH,Qf,Q9]
def Qe (K:lN) (m:Nat) (aJ:lC) (aB:lC) (aC:lC) (aA:lC) (aI:lD):Option R :=
 lS aJ (lX m .normal [aB,aC,aA,aJ] aI) (bo .eql aA (.int .i64 15) fun aL=>(Qf K (aa8 aI) aL aB aC aA aI).bind fun aE=>(fun aF aG aH aD aK=>Ex.qZ aE.1 (lX m .normal [aF,aG,aH,aD] aK)) (gd aE.2.1 0) (gd aE.2.1 1) (gd aE.2.1 2) (gd aE.2.1 3) aE.2.2)
def Q8 (aA:Bool) (p0:Int):Option (Bool) :=
 tc aA (some aA) (tb (Q9 (decide (p0=15)) p0) fun aB=>some aB)
set_option maxHeartbeats 4000000 in
theorem ajL (w77:Bool) (p0:Int):(Qe KK 1 (.bool w77) (.ptr 0 0) (.bool false) (.int .i64 p0) ([.cells [(.int .i64 0),(.int .i64 0),(.int .i64 0),(.int .i64 0),(.int .i64 0),(.int .i64 0)]]:lD))=tm (Q8 w77 p0) fun r=>(.normal,[(.ptr 0 0),(.bool false),(.int .i64 p0),(.bool r)],([.cells [(.int .i64 0),(.int .i64 0),(.int .i64 0),(.int .i64 0),(.int .i64 0),(.int .i64 0)]]:lD)):=by
 cases w77 <;> simp +contextual -implicitDefEqProofs (maxSteps:=2000000) [-lM,-lF,-lE,-lG,-lK,-lI,-lH,Qe,Q8,ajM]
def Qd (K:lN) (m:Nat) (aJ:lC) (aB:lC) (aC:lC) (aA:lC) (aI:lD):Option R :=
 lS aJ (lX m .normal [aB,aC,aA,aJ] aI) (bo .eql aA (.int .i64 14) fun aL=>(Qe K (aa8 aI) aL aB aC aA aI).bind fun aE=>(fun aF aG aH aD aK=>Ex.qZ aE.1 (lX m .normal [aF,aG,aH,aD] aK)) (gd aE.2.1 0) (gd aE.2.1 1) (gd aE.2.1 2) (gd aE.2.1 3) aE.2.2)
def Q7 (aA:Bool) (p0:Int):Option (Bool) :=
 tc aA (some aA) (tb (Q8 (decide (p0=14)) p0) fun aB=>some aB)
set_option maxHeartbeats 4000000 in
theorem ajK (w75:Bool) (p0:Int):(Qd KK 1 (.bool w75) (.ptr 0 0) (.bool false) (.int .i64 p0) ([.cells [(.int .i64 0),(.int .i64 0),(.int .i64 0),(.int .i64 0),(.int .i64 0),(.int .i64 0)]]:lD))=tm (Q7 w75 p0) fun r=>(.normal,[(.ptr 0 0),(.bool false),(.int .i64 p0),(.bool r)],([.cells [(.int .i64 0),(.int .i64 0),(.int .i64 0),(.int .i64 0),(.int .i64 0),(.int .i64 0)]]:lD)):=by
 cases w75 <;> simp +contextual -implicitDefEqProofs (maxSteps:=2000000) [-lM,-lF,-lE,-lG,-lK,-lI,-lH,Qd,Q7,ajL]
def Qc (K:lN) (m:Nat) (aJ:lC) (aB:lC) (aC:lC) (aA:lC) (aI:lD):Option R :=
 lS aJ (lX m .normal [aB,aC,aA,aJ] aI) (bo .eql aA (.int .i64 13) fun aL=>(Qd K (aa8 aI) aL aB aC aA aI).bind fun aE=>(fun aF aG aH aD aK=>Ex.qZ aE.1 (lX m .normal [aF,aG,aH,aD] aK)) (gd aE.2.1 0) (gd aE.2.1 1) (gd aE.2.1 2) (gd aE.2.1 3) aE.2.2)
def Q6 (aA:Bool) (p0:Int):Option (Bool) :=
 tc aA (some aA) (tb (Q7 (decide (p0=13)) p0) fun aB=>some aB)
set_option maxHeartbeats 4000000 in
theorem ajJ (w73:Bool) (p0:Int):(Qc KK 1 (.bool w73) (.ptr 0 0) (.bool false) (.int .i64 p0) ([.cells [(.int .i64 0),(.int .i64 0),(.int .i64 0),(.int .i64 0),(.int .i64 0),(.int .i64 0)]]:lD))=tm (Q6 w73 p0) fun r=>(.normal,[(.ptr 0 0),(.bool false),(.int .i64 p0),(.bool r)],([.cells [(.int .i64 0),(.int .i64 0),(.int .i64 0),(.int .i64 0),(.int .i64 0),(.int .i64 0)]]:lD)):=by
 cases w73 <;> simp +contextual -implicitDefEqProofs (maxSteps:=2000000) [-lM,-lF,-lE,-lG,-lK,-lI,-lH,Qc,Q6,ajK]
def Qb (K:lN) (m:Nat) (t70:lC) (aC:lC) (aD:lC) (aA:lC) (aJ:lD):Option R :=
 lS t70 (lX m .normal [aC,aD,aA,t70] aJ) (bo .eql aA (.int .i64 12) fun aK=>(Qc K (aa8 aJ) aK aC aD aA aJ).bind fun aH=>(fun aE aF aG aB aI=>Ex.qZ aH.1 (lX m .normal [aE,aF,aG,aB] aI)) (gd aH.2.1 0) (gd aH.2.1 1) (gd aH.2.1 2) (gd aH.2.1 3) aH.2.2)
def Q5 (aA:Bool) (p0:Int):Option (Bool) :=
 tc aA (some aA) (tb (Q6 (decide (p0=12)) p0) fun aB=>some aB)
set_option maxHeartbeats 4000000 in
theorem ajI (w71:Bool) (p0:Int):(Qb KK 1 (.bool w71) (.ptr 0 0) (.bool false) (.int .i64 p0) ([.cells [(.int .i64 0),(.int .i64 0),(.int .i64 0),(.int .i64 0),(.int .i64 0),(.int .i64 0)]]:lD))=tm (Q5 w71 p0) fun r=>(.normal,[(.ptr 0 0),(.bool false),(.int .i64 p0),(.bool r)],([.cells [(.int .i64 0),(.int .i64 0),(.int .i64 0),(.int .i64 0),(.int .i64 0),(.int .i64 0)]]:lD)):=by
 cases w71 <;> simp +contextual -implicitDefEqProofs (maxSteps:=2000000) [-lM,-lF,-lE,-lG,-lK,-lI,-lH,Qb,Q5,ajJ]
def Qa (K:lN) (m:Nat) (aK:lC) (aD:lC) (aE:lC) (aB:lC) (aJ:lD):Option R :=
 lS aK (lX m .normal [aD,aE,aB,aK] aJ) (bo .eql aB (.int .i64 11) fun t70=>(Qb K (aa8 aJ) t70 aD aE aB aJ).bind fun aA=>(fun aF aG aH aC aI=>Ex.qZ aA.1 (lX m .normal [aF,aG,aH,aC] aI)) (gd aA.2.1 0) (gd aA.2.1 1) (gd aA.2.1 2) (gd aA.2.1 3) aA.2.2)
def Q4 (aB:Bool) (p0:Int):Option (Bool) :=
 tc aB (some aB) (tb (Q5 (decide (p0=11)) p0) fun aA=>some aA)
set_option maxHeartbeats 4000000 in
theorem ajH (w69:Bool) (p0:Int):(Qa KK 1 (.bool w69) (.ptr 0 0) (.bool false) (.int .i64 p0) ([.cells [(.int .i64 0),(.int .i64 0),(.int .i64 0),(.int .i64 0),(.int .i64 0),(.int .i64 0)]]:lD))=tm (Q4 w69 p0) fun r=>(.normal,[(.ptr 0 0),(.bool false),(.int .i64 p0),(.bool r)],([.cells [(.int .i64 0),(.int .i64 0),(.int .i64 0),(.int .i64 0),(.int .i64 0),(.int .i64 0)]]:lD)):=by
 cases w69 <;> simp +contextual -implicitDefEqProofs (maxSteps:=2000000) [-lM,-lF,-lE,-lG,-lK,-lI,-lH,Qa,Q4,ajI]
def LP (K:lN) (m:Nat) (t131:lC) (aB:lC) (aC:lC) (aA:lC) (aD:lD):Option R :=
 lS t131 (lX m .normal [aB,aC,aA,t131] aD) (bo .eql aA (.int .i64 22) fun t133=>lX m .normal [aB,aC,aA,t133] aD)
def MA (aA:Bool) (p0:Int):Option (Bool) :=
 tc aA (some aA) (some (decide (p0=22)))
set_option maxHeartbeats 4000000 in
theorem aa6 (w132:Bool) (p0:Int):(LP KK 1 (.bool w132) (.ptr 0 0) (.bool false) (.int .i64 p0) ([.cells [(.int .i64 0),(.int .i64 0),(.int .i64 0),(.int .i64 0),(.int .i64 0),(.int .i64 0)]]:lD))=tm (MA w132 p0) fun r=>(.normal,[(.ptr 0 0),(.bool false),(.int .i64 p0),(.bool r)],([.cells [(.int .i64 0),(.int .i64 0),(.int .i64 0),(.int .i64 0),(.int .i64 0),(.int .i64 0)]]:lD)):=by
 cases w132 <;> simp +contextual -implicitDefEqProofs (maxSteps:=2000000) [-lM,-lF,-lE,-lG,-lK,-lI,-lH,LP,MA]
def LN (K:lN) (m:Nat) (t129:lC) (aB:lC) (aC:lC) (aA:lC) (aE:lD):Option R :=
 lS t129 (lX m .normal [aB,aC,aA,t129] aE) (bo .eql aA (.int .i64 21) fun t131=>(LP K (aa8 aE) t131 aB aC aA aE).bind fun vM=>(fun aF aG aH aD aI=>Ex.qZ vM.1 (lX m .normal [aF,aG,aH,aD] aI)) (gd vM.2.1 0) (gd vM.2.1 1) (gd vM.2.1 2) (gd vM.2.1 3) vM.2.2)
def Mz (aA:Bool) (p0:Int):Option (Bool) :=
 tc aA (some aA) (tb (MA (decide (p0=21)) p0) fun vM=>some vM)
set_option maxHeartbeats 4000000 in
theorem aa5 (w130:Bool) (p0:Int):(LN KK 1 (.bool w130) (.ptr 0 0) (.bool false) (.int .i64 p0) ([.cells [(.int .i64 0),(.int .i64 0),(.int .i64 0),(.int .i64 0),(.int .i64 0),(.int .i64 0)]]:lD))=tm (Mz w130 p0) fun r=>(.normal,[(.ptr 0 0),(.bool false),(.int .i64 p0),(.bool r)],([.cells [(.int .i64 0),(.int .i64 0),(.int .i64 0),(.int .i64 0),(.int .i64 0),(.int .i64 0)]]:lD)):=by
 cases w130 <;> simp +contextual -implicitDefEqProofs (maxSteps:=2000000) [-lM,-lF,-lE,-lG,-lK,-lI,-lH,LN,Mz,aa6]
def Qg (K:lN) (m:Nat) (t125:lC) (aB:lC) (aC:lC) (aA:lC) (aE:lD):Option R :=
 lS t125 (lX m .normal [aB,aC,aA,t125] aE) (bo .eql aA (.int .i64 20) fun t129=>(LN K (aa8 aE) t129 aB aC aA aE).bind fun CY=>(fun aF aG aH aD aI=>Ex.qZ CY.1 (lX m .normal [aF,aG,aH,aD] aI)) (gd CY.2.1 0) (gd CY.2.1 1) (gd CY.2.1 2) (gd CY.2.1 3) CY.2.2)
def Q_ (aA:Bool) (p0:Int):Option (Bool) :=
 tc aA (some aA) (tb (Mz (decide (p0=20)) p0) fun CY=>some CY)
set_option maxHeartbeats 4000000 in
theorem ajN (w128:Bool) (p0:Int):(Qg KK 1 (.bool w128) (.ptr 0 0) (.bool false) (.int .i64 p0) ([.cells [(.int .i64 0),(.int .i64 0),(.int .i64 0),(.int .i64 0),(.int .i64 0),(.int .i64 0)]]:lD))=tm (Q_ w128 p0) fun r=>(.normal,[(.ptr 0 0),(.bool false),(.int .i64 p0),(.bool r)],([.cells [(.int .i64 0),(.int .i64 0),(.int .i64 0),(.int .i64 0),(.int .i64 0),(.int .i64 0)]]:lD)):=by
 cases w128 <;> simp +contextual -implicitDefEqProofs (maxSteps:=2000000) [-lM,-lF,-lE,-lG,-lK,-lI,-lH,Qg,Q_,aa5]
def m30 (K:lN) (a0:lC) (h0:lD):Option (nB×lD) :=
 (lQ (nA 6 h0 (.agg [(.int .i64 0),(.int .i64 0),(.int .i64 0),(.int .i64 0),(.int .i64 0),(.int .i64 0)])) fun aS aV=>bo .eql a0 (.int .i64 1) fun bU=>lS bU ((mD [(.int .i64 0),(.int .i64 0),(.int .i64 0),(.int .i64 0),(.int .i64 0),(.int .i64 0)] [(0,1),(1,1),(2,1),(3,1),(4,1),(5,1)] [(0,(.int .i64 (-1))),(1,(.int .i64 (-1))),(2,(.int .i64 (-1))),(3,(.int .i64 (-1))),(4,(.int .i64 0)),(5,(.int .i64 0))]).bind fun t23=>(lW 6 aV aS t23).bind fun bO=>some (.ret,[aS,(.bool true)],bO)) (bo .eql a0 (.int .i64 2) fun bV=>lS bV ((mD [(.int .i64 0),(.int .i64 0),(.int .i64 0),(.int .i64 0),(.int .i64 0),(.int .i64 0)] [(0,1),(1,1),(2,1),(3,1),(4,1),(5,1)] [(0,(.int .i64 (-1))),(1,(.int .i64 (-1))),(2,(.int .i64 (-1))),(3,(.int .i64 (-1))),(4,(.int .i64 0)),(5,(.int .i64 255))]).bind fun t26=>(lW 6 aV aS t26).bind fun bP=>some (.ret,[aS,(.bool true)],bP)) (bo .eql a0 (.int .i64 3) fun t28=>(P8 K (aa8 aV) t28 aS a0 aV).bind fun aQ=>(fun aD aT aH aM aW=>Ex.qZ aQ.1 (lS aM ((mD [(.int .i64 0),(.int .i64 0),(.int .i64 0),(.int .i64 0),(.int .i64 0),(.int .i64 0)] [(0,1),(1,1),(2,1),(3,1),(4,1),(5,1)] [(0,(.int .i64 12)),(1,(.int .i64 (-1))),(2,(.int .i64 (-1))),(3,(.int .i64 (-1))),(4,(.int .i64 0)),(5,(.int .i64 65535))]).bind fun bW=>(lW 6 aW aD bW).bind fun bQ=>some (.ret,[aD,(.bool true)],bQ)) (bo .eql aH (.int .i64 5) fun bX=>lS bX ((mD [(.int .i64 0),(.int .i64 0),(.int .i64 0),(.int .i64 0),(.int .i64 0),(.int .i64 0)] [(0,1),(1,1),(2,1),(3,1),(4,1),(5,1)] [(0,(.int .i64 12)),(1,(.int .i64 (-1))),(2,(.int .i64 12)),(3,(.int .i64 (-1))),(4,(.int .i64 0)),(5,(.int .i64 31))]).bind fun bY=>(lW 6 aW aD bY).bind fun bR=>some (.ret,[aD,(.bool true)],bR)) (bo .eql aH (.int .i64 6) fun bZ=>(P9 K (aa8 aW) bZ aD aT aH aW).bind fun aR=>(fun aE aU aI aN aX=>Ex.qZ aR.1 (lS aN ((mD [(.int .i64 0),(.int .i64 0),(.int .i64 0),(.int .i64 0),(.int .i64 0),(.int .i64 0)] [(0,1),(1,1),(2,1),(3,1),(4,1),(5,1)] [(0,(.int .i64 12)),(1,(.int .i64 (-1))),(2,(.int .i64 12)),(3,(.int .i64 (-1))),(4,(.int .i64 1)),(5,(.int .i64 31))]).bind fun b_=>(lW 6 aX aE b_).bind fun bS=>some (.ret,[aE,(.bool true)],bS)) (bo .eql aI (.int .i64 9) fun cA=>lS cA ((mD [(.int .i64 0),(.int .i64 0),(.int .i64 0),(.int .i64 0),(.int .i64 0),(.int .i64 0)] [(0,1),(1,1),(2,1),(3,1),(4,1),(5,1)] [(0,(.int .i64 12)),(1,(.int .i64 (-1))),(2,(.int .i64 12)),(3,(.int .i64 (-1))),(4,(.int .i64 0)),(5,(.int .i64 0))]).bind fun cB=>(lW 6 aX aE cB).bind fun bT=>some (.ret,[aE,(.bool true)],bT)) (bo .eql aI (.int .i64 10) fun cC=>(Qa K (aa8 aX) cC aE aU aI aX).bind fun aF=>(fun aA aO aC aJ aG=>Ex.qZ aF.1 (lS aJ ((mD [(.int .i64 0),(.int .i64 0),(.int .i64 0),(.int .i64 0),(.int .i64 0),(.int .i64 0)] [(0,1),(1,1),(2,1),(3,1),(4,1),(5,1)] [(0,(.int .i64 12)),(1,(.int .i64 12)),(2,(.int .i64 12)),(3,(.int .i64 (-1))),(4,(.int .i64 0)),(5,(.int .i64 0))]).bind fun bE=>(lW 6 aG aA bE).bind fun aY=>some (.ret,[aA,(.bool true)],aY)) (bo .eql aC (.int .i64 17) fun bF=>lS bF ((mD [(.int .i64 0),(.int .i64 0),(.int .i64 0),(.int .i64 0),(.int .i64 0),(.int .i64 0)] [(0,1),(1,1),(2,1),(3,1),(4,1),(5,1)] [(0,(.int .i64 12)),(1,(.int .i64 12)),(2,(.int .i64 12)),(3,(.int .i64 12)),(4,(.int .i64 0)),(5,(.int .i64 0))]).bind fun bG=>(lW 6 aG aA bG).bind fun aZ=>some (.ret,[aA,(.bool true)],aZ)) (bo .eql aC (.int .i64 18) fun bH=>lS bH ((mD [(.int .i64 0),(.int .i64 0),(.int .i64 0),(.int .i64 0),(.int .i64 0),(.int .i64 0)] [(0,1),(1,1),(2,1),(3,1),(4,1),(5,1)] [(0,(.int .i64 12)),(1,(.int .i64 12)),(2,(.int .i64 (-1))),(3,(.int .i64 32)),(4,(.int .i64 0)),(5,(.int .i64 31))]).bind fun bI=>(lW 6 aG aA bI).bind fun a_=>some (.ret,[aA,(.bool true)],a_)) (bo .eql aC (.int .i64 19) fun t125=>(Qg K (aa8 aG) t125 aA aO aC aG).bind fun DM=>(fun aB bN aP aK aL=>Ex.qZ DM.1 (lS aK ((mD [(.int .i64 0),(.int .i64 0),(.int .i64 0),(.int .i64 0),(.int .i64 0),(.int .i64 0)] [(0,1),(1,1),(2,1),(3,1),(4,1),(5,1)] [(0,(.int .i64 7)),(1,(.int .i64 7)),(2,(.int .i64 (-1))),(3,(.int .i64 (-1))),(4,(.int .i64 0)),(5,(.int .i64 0))]).bind fun bJ=>(lW 6 aL aB bJ).bind fun bB=>some (.ret,[aB,(.bool true)],bB)) (bo .eql aP (.int .i64 23) fun bK=>lS bK ((mD [(.int .i64 0),(.int .i64 0),(.int .i64 0),(.int .i64 0),(.int .i64 0),(.int .i64 0)] [(0,1),(1,1),(2,1),(3,1),(4,1),(5,1)] [(0,(.int .i64 (-1))),(1,(.int .i64 7)),(2,(.int .i64 7)),(3,(.int .i64 (-1))),(4,(.int .i64 0)),(5,(.int .i64 0))]).bind fun bL=>(lW 6 aL aB bL).bind fun bC=>some (.ret,[aB,(.bool true)],bC)) ((mD [(.int .i64 0),(.int .i64 0),(.int .i64 0),(.int .i64 0),(.int .i64 0),(.int .i64 0)] [(0,1),(1,1),(2,1),(3,1),(4,1),(5,1)] []).bind fun bM=>(lW 6 aL aB bM).bind fun bD=>some (.ret,[aB,(.bool false)],bD))))) (gd DM.2.1 0) (gd DM.2.1 1) (gd DM.2.1 2) (gd DM.2.1 3) DM.2.2))))) (gd aF.2.1 0) (gd aF.2.1 1) (gd aF.2.1 2) (gd aF.2.1 3) aF.2.2)))) (gd aR.2.1 0) (gd aR.2.1 1) (gd aR.2.1 2) (gd aR.2.1 3) aR.2.2)))) (gd aQ.2.1 0) (gd aQ.2.1 1) (gd aQ.2.1 2) (gd aQ.2.1 3) aQ.2.2))).bind (adQ (aa8 h0))
theorem ahZ (K:lN) (a0:lC) (h0:lD):qG Tryz.prog mY mX K 30 [a0] h0=m30 (mH mY K) a0 h0:=by kernel_rfl
def t30 (p0:Int):Option (Fm×Bool) :=
 tc (decide (p0=1)) (some ((⟨(-1),(-1),(-1),(-1),0,0⟩:Fm),true)) (tc (decide (p0=2)) (some ((⟨(-1),(-1),(-1),(-1),0,255⟩:Fm),true)) (tb (C5 (decide (p0=3)) p0) fun aB=>tc aB (some ((⟨12,(-1),(-1),(-1),0,65535⟩:Fm),true)) (tc (decide (p0=5)) (some ((⟨12,(-1),12,(-1),0,31⟩:Fm),true)) (tb (My (decide (p0=6)) p0) fun aC=>tc aC (some ((⟨12,(-1),12,(-1),1,31⟩:Fm),true)) (tc (decide (p0=9)) (some ((⟨12,(-1),12,(-1),0,0⟩:Fm),true)) (tb (Q4 (decide (p0=10)) p0) fun aA=>tc aA (some ((⟨12,12,12,(-1),0,0⟩:Fm),true)) (tc (decide (p0=17)) (some ((⟨12,12,12,12,0,0⟩:Fm),true)) (tc (decide (p0=18)) (some ((⟨12,12,(-1),32,0,31⟩:Fm),true)) (tb (Q_ (decide (p0=19)) p0) fun DM=>tc DM (some ((⟨7,7,(-1),(-1),0,0⟩:Fm),true)) (tc (decide (p0=23)) (some ((⟨(-1),7,7,(-1),0,0⟩:Fm),true)) (some ((⟨0,0,0,0,0,0⟩:Fm),false))))))))))))
set_option maxHeartbeats 4000000 in
theorem b30 (p0:Int):m30 KK (.int .i64 p0) []=tm (t30 p0) fun r=>(.ret (.tuple [(.agg [(.int .i64 r.1.rd),(.int .i64 r.1.rn),(.int .i64 r.1.rm),(.int .i64 r.1.ra),(.int .i64 r.1.least),(.int .i64 r.1.most)]),(.bool r.2)]),[]):=by
 simp -implicitDefEqProofs (maxSteps:=2000000) [-lM,-lF,-lE,-lG,-lK,-lI,-lH,m30,t30,ajE,ajF,ajH,ajN,adQ]
theorem Eh (p0:Int) (h:lD):KK 30 [(.int .i64 p0)] h=tm (t30 p0) fun r=>(.ret (.tuple [(.agg [(.int .i64 r.1.rd),(.int .i64 r.1.rn),(.int .i64 r.1.rm),(.int .i64 r.1.ra),(.int .i64 r.1.least),(.int .i64 r.1.most)]),(.bool r.2)]),h):=nZ rfl rfl (ahZ ..) (b30 p0)
def adR (mm:Nat) (aB:R):Option (nB×lD) :=
 (fun aA aC=>Ex.nR aB.1 (nJ mm aA aC)) (gd aB.2.1 0) aB.2.2
def m32 (K:lN) (a0 a1:lC) (h0:lD):Option (nB×lD) :=
 (bo .eql a1 (.int .i64 (-1)) fun aB=>lS aB (bo .eql a0 (.int .i64 0) fun aC=>some (.ret,[aC],h0)) (ca (K 31 [(lC.lL a0),(lC.lL (.int .i64 0)),(lC.lL a1)] h0) fun aD aA=>some (.ret,[aD],aA))).bind (adR (aa8 h0))
theorem ah1 (K:lN) (a0 a1:lC) (h0:lD):qG Tryz.prog mY mX K 32 [a0,a1] h0=m32 (mH mY K) a0 a1 h0:=by kernel_rfl
def t32 (p0:Int) (p1:Int):Option (Bool) :=
 tc (decide (p1=(-1))) (some (decide (p0=0))) (tb ((t31 p0 0 p1)) fun Ap=>some Ap)
set_option maxHeartbeats 4000000 in
theorem b32 (p0:Int) (p1:Int):m32 KK (.int .i64 p0) (.int .i64 p1) []=tm (t32 p0 p1) fun r=>(.ret (.bool r),[]):=by
 simp +contextual -implicitDefEqProofs (maxSteps:=2000000) [-lM,-lF,-lE,-lG,-lK,-lI,-lH,m32,t32,C_,adR]
theorem JU (p0:Int) (p1:Int) (h:lD):KK 32 [(.int .i64 p0),(.int .i64 p1)] h=tm (t32 p0 p1) fun r=>(.ret (.bool r),h):=nZ rfl rfl (ah1 ..) (b32 p0 p1)
def adV (mm:Nat) (aC:R):Option (nB×lD) :=
 (fun aA aB aD=>Ex.nR aC.1 (nJ mm (.tuple [aA,aB]) aD)) (gd aC.2.1 0) (gd aC.2.1 1) aC.2.2
def Qx (K:lN) (m:Nat) (a1:lC) (h0:lD):Option R :=
 lS a1 (lX m .normal [(.int .i64 0),(.int .i64 0),(.int .i64 16777216)] h0) (lX m .normal [(.int .i64 0),(.int .i64 0),(.int .i64 2048)] h0)
def Rc (p1:Bool):Option (Int) :=
 tc p1 (some 16777216) (some 2048)
set_option maxHeartbeats 4000000 in
theorem ajU (p1:Bool):(Qx KK 0 (.bool p1) ([]:lD))=tm (Rc p1) fun r=>(.normal,[(.int .i64 0),(.int .i64 0),(.int .i64 r)],([]:lD)):=by
 cases p1 <;> simp +contextual -implicitDefEqProofs (maxSteps:=2000000) [-lM,-lF,-lE,-lG,-lK,-lI,-lH,Qx,Rc]
def Qy (K:lN) (m:Nat) (a1:lC) (h0:lD):Option R :=
 lS a1 (lX m .normal [(.int .i64 0),(.int .i64 0),(.int .i64 1048576)] h0) (lX m .normal [(.int .i64 0),(.int .i64 0),(.int .i64 256)] h0)
def Re (p1:Bool):Option (Int) :=
 tc p1 (some 1048576) (some 256)
set_option maxHeartbeats 4000000 in
theorem ajV (p1:Bool):(Qy KK 0 (.bool p1) ([]:lD))=tm (Re p1) fun r=>(.normal,[(.int .i64 0),(.int .i64 0),(.int .i64 r)],([]:lD)):=by
 cases p1 <;> simp +contextual -implicitDefEqProofs (maxSteps:=2000000) [-lM,-lF,-lE,-lG,-lK,-lI,-lH,Qy,Re]
def Qw (K:lN) (m:Nat) (aJ:lC) (h0:lD) (a1:lC) (a0:lC):Option R :=
 lS aJ ((Qx K (aa8 h0) a1 h0).bind fun aA=>(fun aB aD aF aH=>Ex.qZ aA.1 (lX m .normal [aB,aD,aF] aH)) (gd aA.2.1 0) (gd aA.2.1 1) (gd aA.2.1 2) aA.2.2) (bo .eql a0 (.int .i64 25) fun aK=>lS aK ((Qy K (aa8 h0) a1 h0).bind fun DN=>(fun aC aE aG aI=>Ex.qZ DN.1 (lX m .normal [aC,aE,aG] aI)) (gd DN.2.1 0) (gd DN.2.1 1) (gd DN.2.1 2) DN.2.2) (lX m .ret [(.int .i64 0),(.int .i64 0),(.int .i64 0)] h0))
def Rb (aB:Bool) (p1:Bool) (p0:Int):Option (Ey×Int) :=
 tc aB (tb (Rc p1) fun aA=>some (.n,aA)) (tc (decide (p0=25)) (tb (Re p1) fun DN=>some (.n,DN)) (some (.r,0)))
set_option maxHeartbeats 4000000 in
theorem ajT (w21:Bool) (p1:Bool) (p0:Int):(Qw KK 0 (.bool w21) ([]:lD) (.bool p1) (.int .i64 p0))=tm (Rb w21 p1 p0) fun r=>(r.1.ex,[(.int .i64 0),(.int .i64 0),(.int .i64 r.2)],([]:lD)):=by
 cases w21 <;> simp +contextual -implicitDefEqProofs (maxSteps:=2000000) [-lM,-lF,-lE,-lG,-lK,-lI,-lH,Qw,Rb,ajU,ajV]
def Qv (K:lN) (m:Nat) (a0:lC) (h0:lD) (a1:lC):Option R :=
 bo .eql a0 (.int .i64 24) fun aG=>(Qw K (aa8 h0) aG h0 a1 a0).bind fun aD=>(fun aA aB aC aE=>Ex.mO aD.1 (lX m .normal [aA,aB,aC] aE) (fun aF=>lX m aF [aA,aB,aC] aE)) (gd aD.2.1 0) (gd aD.2.1 1) (gd aD.2.1 2) aD.2.2
def Ra (p0:Int) (p1:Bool):Option (Ey×Int) :=
 tb (Rb (decide (p0=24)) p1 p0) fun aA=>xD aA.1 (some (.n,aA.2)) fun aB=>some (aB,aA.2)
set_option maxHeartbeats 4000000 in
theorem ajS (p0:Int) (p1:Bool):(Qv KK 0 (.int .i64 p0) ([]:lD) (.bool p1))=tm (Ra p0 p1) fun r=>(r.1.ex,[(.int .i64 0),(.int .i64 0),(.int .i64 r.2)],([]:lD)):=by
 cases p1 <;> simp +contextual -implicitDefEqProofs (maxSteps:=2000000) [-lM,-lF,-lE,-lG,-lK,-lI,-lH,Qv,Ra,ajT]
def m70 (K:lN) (a0 a1:lC) (h0:lD):Option (nB×lD) :=
 ((Qv K (aa8 h0) a0 h0 a1).bind fun aB=>(fun aC aD aA aE=>Ex.inBlock 0 aB.1 ((xX .neg aA).bind fun aG=>bo .sub aA (.int .i64 2) fun aH=>some (.ret,[aG,aH],aE)) (fun aF=>some (aF,[aC,aD],aE))) (gd aB.2.1 0) (gd aB.2.1 1) (gd aB.2.1 2) aB.2.2).bind (adV (aa8 h0))
theorem aiJ (K:lN) (a0 a1:lC) (h0:lD):qG Tryz.prog mY mX K 70 [a0,a1] h0=m70 (mH mY K) a0 a1 h0:=by kernel_rfl
def t70 (p0:Int) (p1:Bool):Option (Int×Int) :=
 tb (Ra p0 p1) fun aA=>xF 0 aA.1 (some ((IntKind.wrap .i64 (0-aA.2)),(IntKind.wrap .i64 (aA.2-2)))) fun aB=>JC aB (some (0,0))
set_option maxHeartbeats 4000000 in
theorem b70 (p0:Int) (p1:Bool):m70 KK (.int .i64 p0) (.bool p1) []=tm (t70 p0 p1) fun r=>(.ret (.tuple [(.int .i64 r.1),(.int .i64 r.2)]),[]):=by
 simp +contextual -implicitDefEqProofs (maxSteps:=2000000) [-lM,-lF,-lE,-lG,-lK,-lI,-lH,m70,t70,ajS,adV]
theorem r70 (p0:Int) (p1:Bool) (h:lD):KK 70 [(.int .i64 p0),(.bool p1)] h=tm (t70 p0 p1) fun r=>(.ret (.tuple [(.int .i64 r.1),(.int .i64 r.2)]),h):=nZ rfl rfl (aiJ ..) (b70 p0 p1)
def x6 (mm:Nat) (AS:R):Option (nB×lD) :=
 (fun aA aB=>Ex.nR AS.1 (nJ mm aA aB)) (gd AS.2.1 0) AS.2.2
def P7 (K:lN) (t140:lC) (aA:lD):Option R :=
 lS t140 (some (.ret,[(.int .i64 6)],aA)) (some (.ret,[(.int .i64 0)],aA))
def Mx (aA:Bool):Option (Int) :=
 tc aA (some 6) (some 0)
set_option maxHeartbeats 4000000 in
theorem E3 (w143:Bool) (p0:Ins):((P7 KK (.bool w143) ([.cells [(.int .i64 p0.op),(.int .i64 p0.rd),(.int .i64 p0.rn),(.int .i64 p0.rm),(.int .i64 p0.ra),(.int .i64 p0.imm),(.int .i64 p0.cond),(.bool p0.wide)]]:lD))).bind (x6 0)=tm (Mx w143) fun r=>(.ret (.int .i64 r),[]):=by
 cases w143 <;> simp +contextual -implicitDefEqProofs (maxSteps:=2000000) [-lM,-lF,-lE,-lG,-lK,-lI,-lH,P7,Mx,C_,r70,x6]
def P4 (K:lN) (aM:lC) (aB:lD) (aJ:lC):Option R :=
 lS aM (some (.ret,[(.int .i64 2)],aB)) (fa 0 aJ fun aN=>ld false 1 aB aN fun aO=>fa 7 aJ fun aP=>ld false 1 aB aP fun aQ=>ca (K 70 [(lC.lL aO),(lC.lL aQ)] aB) fun aI aC=>(nI 0 aI).bind fun aR=>(nI 1 aI).bind fun aS=>fa 5 aJ fun aT=>ld false 1 aC aT fun aU=>bo .and aU (.int .i64 1) fun aV=>bo .neq aV (.int .i64 0) fun aA=>gS false aA (fa 5 aJ fun aW=>lV aW aC) aC fun aX aD=>gS false aA (ld false 1 aD aX fun t125=>lV t125 aD) aD fun t126 aE=>gS false aA (lV aR aE) aE fun t128 aF=>gS false aA (lV aS aF) aF fun t130 aG=>gS false aA (cg (K 31 [(lC.lL t126),(lC.lL t128),(lC.lL t130)] aG) fun t132 aK=>lV t132 aK) aG fun t135 aH=>gS false aA ((xX .not t135).bind fun t137=>lV t137 aH) aH fun t138 aL=>(mJ aA (.bool true) t138).bind fun t140=>P7 K t140 aL)
def Mw (aB:Bool) (p0:Ins):Option (Int) :=
 tc aB (some 2) (tb ((t70 p0.op p0.wide)) fun aA=>tc (!decide ((Jm .i64 p0.imm 1)=0)) (Mx true) (tb ((t31 p0.imm aA.1 aA.2)) fun vM=>Mx (!vM)))
set_option maxHeartbeats 4000000 in
theorem Ib (w108:Bool) (p0:Ins):((P4 KK (.bool w108) ([.cells [(.int .i64 p0.op),(.int .i64 p0.rd),(.int .i64 p0.rn),(.int .i64 p0.rm),(.int .i64 p0.ra),(.int .i64 p0.imm),(.int .i64 p0.cond),(.bool p0.wide)]]:lD) (.ptr 0 0))).bind (x6 0)=tm (Mw w108 p0) fun r=>(.ret (.int .i64 r),[]):=by
 cases w108 <;> simp +contextual -implicitDefEqProofs (maxSteps:=2000000) [-lM,-lF,-lE,-lG,-lK,-lI,-lH,P4,Mw,C_,r70,x6,E3]
def P3 (K:lN) (aB:lC) (aK:lC) (aI:lD):Option R :=
 gS false aB (fa 6 aK fun aM=>lV aM aI) aI fun aN aD=>gS false aB (ld false 1 aD aN fun aO=>lV aO aD) aD fun aP aJ=>gS false aB (cg (K 31 [(lC.lL aP),(lC.lL (.int .i64 0)),(lC.lL (.int .i64 13))] aJ) fun aQ aL=>lV aQ aL) aJ fun aE aA=>gS false aB ((xX .not aE).bind fun aF=>lV aF aA) aA fun aG aC=>(mJ aB (.bool true) aG).bind fun aH=>P4 K aH aC aK
def Ip (aB:Bool) (p0:Ins):Option (Int) :=
 tc aB (Mw true p0) (tb ((t31 p0.cond 0 13)) fun aA=>Mw (!aA) p0)
set_option maxHeartbeats 4000000 in
theorem Mj (w90:Bool) (p0:Ins):((P3 KK (.bool w90) (.ptr 0 0) ([.cells [(.int .i64 p0.op),(.int .i64 p0.rd),(.int .i64 p0.rn),(.int .i64 p0.rm),(.int .i64 p0.ra),(.int .i64 p0.imm),(.int .i64 p0.cond),(.bool p0.wide)]]:lD))).bind (x6 0)=tm (Ip w90 p0) fun r=>(.ret (.int .i64 r),[]):=by
 cases w90 <;> simp +contextual -implicitDefEqProofs (maxSteps:=2000000) [-lM,-lF,-lE,-lG,-lK,-lI,-lH,P3,Ip,C_,r70,x6,E3,Ib]
def P2 (K:lN) (t60:lC) (aC:lC) (aD:lD):Option R :=
 gS false t60 (fa 0 aC fun aK=>lV aK aD) aD fun aL aA=>gS false t60 (ld false 1 aA aL fun aM=>lV aM aA) aA fun aN aE=>gS false t60 (bo .eql aN (.int .i64 24) fun t70=>lV t70 aE) aE fun aO aF=>gS false t60 (lV aO aF) aF fun t73 aG=>gS true t73 (fa 6 aC fun aP=>lV aP aG) aG fun aQ aB=>gS true t73 (ld false 1 aB aQ fun aR=>lV aR aB) aB fun aS aH=>gS true t73 (bo .neq aS (.int .i64 0) fun aT=>lV aT aH) aH fun aU aI=>gS false t60 ((mJ t73 aU (.bool false)).bind fun aV=>lV aV aI) aI fun aW aJ=>(mJ t60 (.bool true) aW).bind fun aX=>P3 K aX aC aJ
def Mv (aA:Bool) (p0:Ins):Option (Int) :=
 tc aA (Ip true p0) (tc (decide (p0.op=24)) (Ip (!decide (p0.cond=0)) p0) (Ip false p0))
set_option maxHeartbeats 4000000 in
theorem QQ (w63:Bool) (p0:Ins):((P2 KK (.bool w63) (.ptr 0 0) ([.cells [(.int .i64 p0.op),(.int .i64 p0.rd),(.int .i64 p0.rn),(.int .i64 p0.rm),(.int .i64 p0.ra),(.int .i64 p0.imm),(.int .i64 p0.cond),(.bool p0.wide)]]:lD))).bind (x6 0)=tm (Mv w63 p0) fun r=>(.ret (.int .i64 r),[]):=by
 cases w63 <;> simp +contextual -implicitDefEqProofs (maxSteps:=2000000) [-lM,-lF,-lE,-lG,-lK,-lI,-lH,P2,Mv,C_,r70,x6,E3,Ib,Mj]
def P0 (K:lN) (aA:lC) (aE:lC) (aC:lD):Option R :=
 gS false aA (fa 4 aE fun aG=>lV aG aC) aC fun aH aB=>gS false aA (ld false 1 aB aH fun aI=>lV aI aB) aB fun aJ aD=>gS false aA (bo .neq aJ (.int .i64 0) fun aK=>lV aK aD) aD fun aL aF=>(mJ aA (.bool true) aL).bind fun t60=>P2 K t60 aE aF
def Mu (aA:Bool) (p0:Ins):Option (Int) :=
 tc aA (Mv true p0) (Mv (!decide (p0.ra=0)) p0)
set_option maxHeartbeats 4000000 in
theorem Xc (w50:Bool) (p0:Ins):((P0 KK (.bool w50) (.ptr 0 0) ([.cells [(.int .i64 p0.op),(.int .i64 p0.rd),(.int .i64 p0.rn),(.int .i64 p0.rm),(.int .i64 p0.ra),(.int .i64 p0.imm),(.int .i64 p0.cond),(.bool p0.wide)]]:lD))).bind (x6 0)=tm (Mu w50 p0) fun r=>(.ret (.int .i64 r),[]):=by
 cases w50 <;> simp +contextual -implicitDefEqProofs (maxSteps:=2000000) [-lM,-lF,-lE,-lG,-lK,-lI,-lH,P0,Mu,C_,r70,x6,E3,Ib,Mj,QQ]
def PZ (K:lN) (aA:lC) (aE:lC) (aC:lD):Option R :=
 gS false aA (fa 3 aE fun aG=>lV aG aC) aC fun aH aB=>gS false aA (ld false 1 aB aH fun aI=>lV aI aB) aB fun aJ aD=>gS false aA (bo .neq aJ (.int .i64 0) fun aK=>lV aK aD) aD fun aL aF=>(mJ aA (.bool true) aL).bind fun aM=>P0 K aM aE aF
def Mt (aA:Bool) (p0:Ins):Option (Int) :=
 tc aA (Mu true p0) (Mu (!decide (p0.rm=0)) p0)
set_option maxHeartbeats 4000000 in
theorem ajD (w37:Bool) (p0:Ins):((PZ KK (.bool w37) (.ptr 0 0) ([.cells [(.int .i64 p0.op),(.int .i64 p0.rd),(.int .i64 p0.rn),(.int .i64 p0.rm),(.int .i64 p0.ra),(.int .i64 p0.imm),(.int .i64 p0.cond),(.bool p0.wide)]]:lD))).bind (x6 0)=tm (Mt w37 p0) fun r=>(.ret (.int .i64 r),[]):=by
 cases w37 <;> simp +contextual -implicitDefEqProofs (maxSteps:=2000000) [-lM,-lF,-lE,-lG,-lK,-lI,-lH,PZ,Mt,C_,r70,x6,E3,Ib,Mj,QQ,Xc]
def m29 (K:lN) (a0:lC) (h0:lD):Option (nB×lD) :=
 (lQ (nA 8 h0 a0) fun aC aA=>fa 1 aC fun aF=>ld false 1 aA aF fun t23=>bo .neq t23 (.int .i64 0) fun t24=>gS false t24 (fa 2 aC fun aG=>lV aG aA) aA fun t26 aB=>gS false t24 (ld false 1 aB t26 fun t28=>lV t28 aB) aB fun t29 aD=>gS false t24 (bo .neq t29 (.int .i64 0) fun t31=>lV t31 aD) aD fun t32 aE=>(mJ t24 (.bool true) t32).bind fun aH=>PZ K aH aC aE).bind (x6 (aa8 h0))
theorem ahY (K:lN) (a0:lC) (h0:lD):qG Tryz.prog mY mX K 29 [a0] h0=m29 (mH mY K) a0 h0:=by kernel_rfl
def t29 (p0:Ins):Option (Int) :=
 tc (!decide (p0.rd=0)) (Mt true p0) (Mt (!decide (p0.rn=0)) p0)
set_option maxHeartbeats 4000000 in
theorem b29 (p0:Ins):m29 KK (.agg [(.int .i64 p0.op),(.int .i64 p0.rd),(.int .i64 p0.rn),(.int .i64 p0.rm),(.int .i64 p0.ra),(.int .i64 p0.imm),(.int .i64 p0.cond),(.bool p0.wide)]) []=tm (t29 p0) fun r=>(.ret (.int .i64 r),[]):=by
 simp +contextual -implicitDefEqProofs (maxSteps:=2000000) [-lM,-lF,-lE,-lG,-lK,-lI,-lH,m29,t29,C_,r70,x6,E3,Ib,Mj,QQ,Xc,ajD]
theorem DN (p0:Ins) (h:lD):KK 29 [(.agg [(.int .i64 p0.op),(.int .i64 p0.rd),(.int .i64 p0.rn),(.int .i64 p0.rm),(.int .i64 p0.ra),(.int .i64 p0.imm),(.int .i64 p0.cond),(.bool p0.wide)])] h=tm (t29 p0) fun r=>(.ret (.int .i64 r),h):=nZ rfl rfl (ahY ..) (b29 p0)
def tZ (mm:Nat) (aA:R):Option (nB×lD) :=
 (fun aB aC=>Ex.nR aA.1 (nJ mm aB aC)) (gd aA.2.1 0) aA.2.2
def PN (K:lN) (aB:lC) (aA:lD):Option R :=
 lS aB (some (.ret,[(.int .i64 2)],aA)) (some (.ret,[(.int .i64 0)],aA))
def Ay (aA:Bool):Option (Int) :=
 tc aA (some 2) (some 0)
set_option maxHeartbeats 4000000 in
theorem Ao (w255:Bool) (p0:Ins) (w64:Int) (w65:Int) (w66:Int) (w67:Int) (w68:Int) (w69:Int):((PN KK (.bool w255) ([.cells [(.int .i64 p0.op),(.int .i64 p0.rd),(.int .i64 p0.rn),(.int .i64 p0.rm),(.int .i64 p0.ra),(.int .i64 p0.imm),(.int .i64 p0.cond),(.bool p0.wide)],.cells [(.int .i64 w64),(.int .i64 w65),(.int .i64 w66),(.int .i64 w67),(.int .i64 w68),(.int .i64 w69)]]:lD))).bind (tZ 0)=tm (Ay w255) fun r=>(.ret (.int .i64 r),[]):=by
 cases w255 <;> simp +contextual -implicitDefEqProofs (maxSteps:=2000000) [-lM,-lF,-lE,-lG,-lK,-lI,-lH,PN,Ay,DN,Eh,C_,JU,tZ]
def PM (K:lN) (aB:lC) (aQ:lC) (aF:lD):Option R :=
 gS false aB (fa 0 aQ fun aR=>lV aR aF) aF fun aS aC=>gS false aB (ld false 1 aC aS fun aT=>lV aT aC) aC fun aU aG=>gS false aB (bo .eql aU (.int .i64 18) fun aV=>lV aV aG) aG fun aW aH=>gS false aB (lV aW aH) aH fun aA aI=>gS true aA (fa 4 aQ fun aX=>lV aX aI) aI fun aY aD=>gS true aA (ld false 1 aD aY fun aZ=>lV aZ aD) aD fun a_ aJ=>gS true aA (fa 5 aQ fun bB=>lV bB aJ) aJ fun bC aE=>gS true aA (ld false 1 aE bC fun bD=>lV bD aE) aE fun bE aK=>gS true aA (bo .sub (.int .i64 32) bE fun bF=>lV bF aK) aK fun bG aL=>gS true aA (cg (K 31 [(lC.lL a_),(lC.lL (.int .i64 1)),(lC.lL bG)] aL) fun bH aO=>lV bH aO) aL fun bI aM=>gS true aA ((xX .not bI).bind fun bJ=>lV bJ aM) aM fun bK aN=>gS false aB ((mJ aA bK (.bool false)).bind fun bL=>lV bL aN) aN fun bM aP=>(mJ aB (.bool true) bM).bind fun bN=>PN K bN aP
def BG (aB:Bool) (p0:Ins):Option (Int) :=
 tc aB (Ay true) (tc (decide (p0.op=18)) (tb ((t31 p0.ra 1 (IntKind.wrap .i64 (32-p0.imm)))) fun aA=>Ay (!aA)) (Ay false))
set_option maxHeartbeats 4000000 in
theorem Bp (w214:Bool) (p0:Ins) (w64:Int) (w65:Int) (w66:Int) (w67:Int) (w68:Int) (w69:Int):((PM KK (.bool w214) (.ptr 0 0) ([.cells [(.int .i64 p0.op),(.int .i64 p0.rd),(.int .i64 p0.rn),(.int .i64 p0.rm),(.int .i64 p0.ra),(.int .i64 p0.imm),(.int .i64 p0.cond),(.bool p0.wide)],.cells [(.int .i64 w64),(.int .i64 w65),(.int .i64 w66),(.int .i64 w67),(.int .i64 w68),(.int .i64 w69)]]:lD))).bind (tZ 0)=tm (BG w214 p0) fun r=>(.ret (.int .i64 r),[]):=by
 cases w214 <;> simp +contextual -implicitDefEqProofs (maxSteps:=2000000) [-lM,-lF,-lE,-lG,-lK,-lI,-lH,PM,BG,DN,Eh,C_,JU,tZ,Ao]
def PL (K:lN) (aI:lC) (aB:lD) (aG:lC):Option R :=
 lS aI (some (.ret,[(.int .i64 2)],aB)) (fa 0 aG fun aJ=>ld false 1 aB aJ fun aK=>bo .eql aK (.int .i64 17) fun aA=>gS true aA (fa 4 aG fun aL=>lV aL aB) aB fun aM aC=>gS true aA (ld false 1 aC aM fun aN=>lV aN aC) aC fun aO aE=>gS true aA (fa 1 aG fun aP=>lV aP aE) aE fun aQ aD=>gS true aA (ld false 1 aD aQ fun aR=>lV aR aD) aD fun aS aF=>gS true aA (bo .eql aO aS fun aT=>lV aT aF) aF fun aU aH=>(mJ aA aU (.bool false)).bind fun aV=>PM K aV aG aH)
def BF (aA:Bool) (p0:Ins):Option (Int) :=
 tc aA (some 2) (tc (decide (p0.op=17)) (BG (decide (p0.ra=p0.rd)) p0) (BG false p0))
set_option maxHeartbeats 4000000 in
theorem CZ (w192:Bool) (p0:Ins) (w64:Int) (w65:Int) (w66:Int) (w67:Int) (w68:Int) (w69:Int):((PL KK (.bool w192) ([.cells [(.int .i64 p0.op),(.int .i64 p0.rd),(.int .i64 p0.rn),(.int .i64 p0.rm),(.int .i64 p0.ra),(.int .i64 p0.imm),(.int .i64 p0.cond),(.bool p0.wide)],.cells [(.int .i64 w64),(.int .i64 w65),(.int .i64 w66),(.int .i64 w67),(.int .i64 w68),(.int .i64 w69)]]:lD) (.ptr 0 0))).bind (tZ 0)=tm (BF w192 p0) fun r=>(.ret (.int .i64 r),[]):=by
 cases w192 <;> simp +contextual -implicitDefEqProofs (maxSteps:=2000000) [-lM,-lF,-lE,-lG,-lK,-lI,-lH,PL,BF,DN,Eh,C_,JU,tZ,Ao,Bp]
def PK (K:lN) (aA:lC) (aW:lC) (aD:lD) (aX:lC):Option R :=
 gS false aA (fa 4 aW fun aJ=>lV aJ aD) aD fun aK aB=>gS false aA (ld false 1 aB aK fun aL=>lV aL aB) aB fun aM aE=>gS false aA (fa 3 aX fun aN=>lV aN aE) aE fun aO aC=>gS false aA (ld false 1 aC aO fun aP=>lV aP aC) aC fun aQ aF=>gS false aA (cg (K 32 [(lC.lL aM),(lC.lL aQ)] aF) fun aR aH=>lV aR aH) aF fun aS aG=>gS false aA ((xX .not aS).bind fun aT=>lV aT aG) aG fun aU aI=>(mJ aA (.bool true) aU).bind fun aV=>PL K aV aI aW
def BE (aB:Bool) (p0:Ins) (aC:Int):Option (Int) :=
 tc aB (BF true p0) (tb ((t32 p0.ra aC)) fun aA=>BF (!aA) p0)
set_option maxHeartbeats 4000000 in
theorem E2 (w168:Bool) (p0:Ins) (w64:Int) (w65:Int) (w66:Int) (w67:Int) (w68:Int) (w69:Int):((PK KK (.bool w168) (.ptr 0 0) ([.cells [(.int .i64 p0.op),(.int .i64 p0.rd),(.int .i64 p0.rn),(.int .i64 p0.rm),(.int .i64 p0.ra),(.int .i64 p0.imm),(.int .i64 p0.cond),(.bool p0.wide)],.cells [(.int .i64 w64),(.int .i64 w65),(.int .i64 w66),(.int .i64 w67),(.int .i64 w68),(.int .i64 w69)]]:lD) (.ptr 1 0))).bind (tZ 0)=tm (BE w168 p0 w67) fun r=>(.ret (.int .i64 r),[]):=by
 cases w168 <;> simp +contextual -implicitDefEqProofs (maxSteps:=2000000) [-lM,-lF,-lE,-lG,-lK,-lI,-lH,PK,BE,DN,Eh,C_,JU,tZ,Ao,Bp,CZ]
def PJ (K:lN) (t141:lC) (aS:lC) (aC:lD) (aT:lC):Option R :=
 gS false t141 (fa 3 aS fun t145=>lV t145 aC) aC fun t146 aA=>gS false t141 (ld false 1 aA t146 fun t148=>lV t148 aA) aA fun aI aD=>gS false t141 (fa 2 aT fun aJ=>lV aJ aD) aD fun aK aB=>gS false t141 (ld false 1 aB aK fun aL=>lV aL aB) aB fun aM aE=>gS false t141 (cg (K 32 [(lC.lL aI),(lC.lL aM)] aE) fun aN aG=>lV aN aG) aE fun aO aF=>gS false t141 ((xX .not aO).bind fun aP=>lV aP aF) aF fun aQ aH=>(mJ t141 (.bool true) aQ).bind fun aR=>PK K aR aS aH aT
def BD (aB:Bool) (p0:Ins) (aD:Int) (aC:Int):Option (Int) :=
 tc aB (BE true p0 aC) (tb ((t32 p0.rm aD)) fun aA=>BE (!aA) p0 aC)
set_option maxHeartbeats 4000000 in
theorem Ia (w144:Bool) (p0:Ins) (w64:Int) (w65:Int) (w66:Int) (w67:Int) (w68:Int) (w69:Int):((PJ KK (.bool w144) (.ptr 0 0) ([.cells [(.int .i64 p0.op),(.int .i64 p0.rd),(.int .i64 p0.rn),(.int .i64 p0.rm),(.int .i64 p0.ra),(.int .i64 p0.imm),(.int .i64 p0.cond),(.bool p0.wide)],.cells [(.int .i64 w64),(.int .i64 w65),(.int .i64 w66),(.int .i64 w67),(.int .i64 w68),(.int .i64 w69)]]:lD) (.ptr 1 0))).bind (tZ 0)=tm (BD w144 p0 w66 w67) fun r=>(.ret (.int .i64 r),[]):=by
 cases w144 <;> simp +contextual -implicitDefEqProofs (maxSteps:=2000000) [-lM,-lF,-lE,-lG,-lK,-lI,-lH,PJ,BD,DN,Eh,C_,JU,tZ,Ao,Bp,CZ,E2]
def PH (K:lN) (aK:lC) (aB:lD) (aS:lC) (aT:lC):Option R :=
 lS aK (some (.ret,[(.int .i64 2)],aB)) (fa 1 aS fun aL=>ld false 1 aB aL fun aM=>fa 0 aT fun aN=>ld false 1 aB aN fun aO=>ca (K 32 [(lC.lL aM),(lC.lL aO)] aB) fun aP aE=>(xX .not aP).bind fun aA=>gS false aA (fa 2 aS fun aQ=>lV aQ aE) aE fun aR aC=>gS false aA (ld false 1 aC aR fun t124=>lV t124 aC) aC fun t125 aF=>gS false aA (fa 1 aT fun t127=>lV t127 aF) aF fun t128 aD=>gS false aA (ld false 1 aD t128 fun t130=>lV t130 aD) aD fun t131 aG=>gS false aA (cg (K 32 [(lC.lL t125),(lC.lL t131)] aG) fun t133 aI=>lV t133 aI) aG fun t136 aH=>gS false aA ((xX .not t136).bind fun t138=>lV t138 aH) aH fun t139 aJ=>(mJ aA (.bool true) t139).bind fun t141=>PJ K t141 aS aJ aT)
def BC (aB:Bool) (p0:Ins) (aE:Int) (aF:Int) (aC:Int) (aD:Int):Option (Int) :=
 tc aB (some 2) (tb ((t32 p0.rd aE)) fun aA=>tc (!aA) (BD true p0 aC aD) (tb ((t32 p0.rn aF)) fun CW=>BD (!CW) p0 aC aD))
set_option maxHeartbeats 4000000 in
theorem Mi (w112:Bool) (p0:Ins) (w64:Int) (w65:Int) (w66:Int) (w67:Int) (w68:Int) (w69:Int):((PH KK (.bool w112) ([.cells [(.int .i64 p0.op),(.int .i64 p0.rd),(.int .i64 p0.rn),(.int .i64 p0.rm),(.int .i64 p0.ra),(.int .i64 p0.imm),(.int .i64 p0.cond),(.bool p0.wide)],.cells [(.int .i64 w64),(.int .i64 w65),(.int .i64 w66),(.int .i64 w67),(.int .i64 w68),(.int .i64 w69)]]:lD) (.ptr 0 0) (.ptr 1 0))).bind (tZ 0)=tm (BC w112 p0 w64 w65 w66 w67) fun r=>(.ret (.int .i64 r),[]):=by
 cases w112 <;> simp +contextual -implicitDefEqProofs (maxSteps:=2000000) [-lM,-lF,-lE,-lG,-lK,-lI,-lH,PH,BC,DN,Eh,C_,JU,tZ,Ao,Bp,CZ,E2,Ia]
def PG (K:lN) (aA:lC) (aR:lC) (aO:lD) (aN:lC):Option R :=
 gS false aA (fa 5 aR fun aS=>lV aS aO) aO fun aT aF=>gS false aA (ld false 1 aF aT fun aU=>lV aU aF) aF fun aV aP=>gS false aA (fa 4 aN fun aW=>lV aW aP) aP fun aX aG=>gS false aA (ld false 1 aG aX fun aY=>lV aY aG) aG fun aZ aQ=>gS false aA (fa 5 aN fun a_=>lV a_ aQ) aQ fun bB aH=>gS false aA (ld false 1 aH bB fun bC=>lV bC aH) aH fun bD aB=>gS false aA (cg (K 31 [(lC.lL aV),(lC.lL aZ),(lC.lL bD)] aB) fun aI aD=>lV aI aD) aB fun aJ aC=>gS false aA ((xX .not aJ).bind fun aK=>lV aK aC) aC fun aL aE=>(mJ aA (.bool true) aL).bind fun aM=>PH K aM aE aR aN
def BA (aH:Bool) (p0:Ins) (aB:Int) (aC:Int) (aD:Int) (aE:Int) (aF:Int) (aG:Int):Option (Int) :=
 tc aH (BC true p0 aB aC aD aE) (tb ((t31 p0.imm aF aG)) fun aA=>BC (!aA) p0 aB aC aD aE)
set_option maxHeartbeats 4000000 in
theorem QO (w82:Bool) (p0:Ins) (w64:Int) (w65:Int) (w66:Int) (w67:Int) (w68:Int) (w69:Int):((PG KK (.bool w82) (.ptr 0 0) ([.cells [(.int .i64 p0.op),(.int .i64 p0.rd),(.int .i64 p0.rn),(.int .i64 p0.rm),(.int .i64 p0.ra),(.int .i64 p0.imm),(.int .i64 p0.cond),(.bool p0.wide)],.cells [(.int .i64 w64),(.int .i64 w65),(.int .i64 w66),(.int .i64 w67),(.int .i64 w68),(.int .i64 w69)]]:lD) (.ptr 1 0))).bind (tZ 0)=tm (BA w82 p0 w64 w65 w66 w67 w68 w69) fun r=>(.ret (.int .i64 r),[]):=by
 cases w82 <;> simp +contextual -implicitDefEqProofs (maxSteps:=2000000) [-lM,-lF,-lE,-lG,-lK,-lI,-lH,PG,BA,DN,Eh,C_,JU,tZ,Ao,Bp,CZ,E2,Ia,Mi]
def PF (K:lN) (aA:lC) (aE:lC) (aC:lD) (aG:lC):Option R :=
 gS false aA (fa 6 aE fun t70=>lV t70 aC) aC fun aH aB=>gS false aA (ld false 1 aB aH fun t73=>lV t73 aB) aB fun aI aD=>gS false aA (bo .neq aI (.int .i64 0) fun aJ=>lV aJ aD) aD fun aK aF=>(mJ aA (.bool true) aK).bind fun aL=>PG K aL aE aF aG
def Bz (aG:Bool) (p0:Ins) (aA:Int) (aB:Int) (aC:Int) (aD:Int) (aE:Int) (aF:Int):Option (Int) :=
 tc aG (BA true p0 aA aB aC aD aE aF) (BA (!decide (p0.cond=0)) p0 aA aB aC aD aE aF)
set_option maxHeartbeats 4000000 in
theorem Xa (w62:Bool) (p0:Ins) (w64:Int) (w65:Int) (w66:Int) (w67:Int) (w68:Int) (w69:Int):((PF KK (.bool w62) (.ptr 0 0) ([.cells [(.int .i64 p0.op),(.int .i64 p0.rd),(.int .i64 p0.rn),(.int .i64 p0.rm),(.int .i64 p0.ra),(.int .i64 p0.imm),(.int .i64 p0.cond),(.bool p0.wide)],.cells [(.int .i64 w64),(.int .i64 w65),(.int .i64 w66),(.int .i64 w67),(.int .i64 w68),(.int .i64 w69)]]:lD) (.ptr 1 0))).bind (tZ 0)=tm (Bz w62 p0 w64 w65 w66 w67 w68 w69) fun r=>(.ret (.int .i64 r),[]):=by
 cases w62 <;> simp +contextual -implicitDefEqProofs (maxSteps:=2000000) [-lM,-lF,-lE,-lG,-lK,-lI,-lH,PF,Bz,DN,Eh,C_,JU,tZ,Ao,Bp,CZ,E2,Ia,Mi,QO]
def PE (K:lN) (aL:lC) (aA:lD) (aB:lC):Option R :=
 lS aL (ld true 8 aA aB fun aM=>ca (K 29 [(lC.lL aM)] aA) fun aN aH=>some (.ret,[aN],aH)) (fa 0 aB fun aO=>ld false 1 aA aO fun aP=>ca (K 30 [(lC.lL aP)] aA) fun aF aI=>(nI 0 aF).bind fun aQ=>(nI 1 aF).bind fun aR=>lQ (nA 6 aI (.agg [(.int .i64 0),(.int .i64 0),(.int .i64 0),(.int .i64 0),(.int .i64 0),(.int .i64 0)])) fun aG aJ=>(lW 6 aJ aG aQ).bind fun aE=>(xX .not aR).bind fun aD=>gS false aD (fa 7 aB fun t53=>lV t53 aE) aE fun aS aC=>gS false aD (ld false 1 aC aS fun aT=>lV aT aC) aC fun aU aK=>(mJ aD (.bool true) aU).bind fun aV=>PF K aV aB aK aG)
def By (aC:Bool) (p0:Ins):Option (Int) :=
 tc aC (tb ((t29 p0)) fun aB=>some aB) (tb ((t30 p0.op)) fun aA=>tc (!aA.2) (Bz true p0 aA.1.rd aA.1.rn aA.1.rm aA.1.ra aA.1.least aA.1.most) (Bz p0.wide p0 aA.1.rd aA.1.rn aA.1.rm aA.1.ra aA.1.least aA.1.most))
set_option maxHeartbeats 4000000 in
theorem ai8 (w37:Bool) (p0:Ins):((PE KK (.bool w37) ([.cells [(.int .i64 p0.op),(.int .i64 p0.rd),(.int .i64 p0.rn),(.int .i64 p0.rm),(.int .i64 p0.ra),(.int .i64 p0.imm),(.int .i64 p0.cond),(.bool p0.wide)]]:lD) (.ptr 0 0))).bind (tZ 0)=tm (By w37 p0) fun r=>(.ret (.int .i64 r),[]):=by
 cases w37 <;> simp +contextual -implicitDefEqProofs (maxSteps:=2000000) [-lM,-lF,-lE,-lG,-lK,-lI,-lH,PE,By,DN,Eh,C_,JU,tZ,Ao,Bp,CZ,E2,Ia,Mi,QO,Xa]
def m15 (K:lN) (a0:lC) (h0:lD):Option (nB×lD) :=
 (lQ (nA 8 h0 a0) fun aC aA=>fa 0 aC fun aF=>ld false 1 aA aF fun t23=>bo .eql t23 (.int .i64 24) fun t24=>gS false t24 (fa 0 aC fun aG=>lV aG aA) aA fun t26 aB=>gS false t24 (ld false 1 aB t26 fun t28=>lV t28 aB) aB fun t29 aD=>gS false t24 (bo .eql t29 (.int .i64 25) fun t31=>lV t31 aD) aD fun t32 aE=>(mJ t24 (.bool true) t32).bind fun aH=>PE K aH aE aC).bind (tZ (aa8 h0))
theorem ahM (K:lN) (a0:lC) (h0:lD):qG Tryz.prog mY mX K 15 [a0] h0=m15 (mH mY K) a0 h0:=by kernel_rfl
def t15 (p0:Ins):Option (Int) :=
 tc (decide (p0.op=24)) (By true p0) (By (decide (p0.op=25)) p0)
set_option maxHeartbeats 4000000 in
theorem b15 (p0:Ins):m15 KK (.agg [(.int .i64 p0.op),(.int .i64 p0.rd),(.int .i64 p0.rn),(.int .i64 p0.rm),(.int .i64 p0.ra),(.int .i64 p0.imm),(.int .i64 p0.cond),(.bool p0.wide)]) []=tm (t15 p0) fun r=>(.ret (.int .i64 r),[]):=by
 simp +contextual -implicitDefEqProofs (maxSteps:=2000000) [-lM,-lF,-lE,-lG,-lK,-lI,-lH,m15,t15,DN,Eh,C_,JU,tZ,Ao,Bp,CZ,E2,Ia,Mi,QO,Xa,ai8]
theorem r15 (p0:Ins) (h:lD):KK 15 [(.agg [(.int .i64 p0.op),(.int .i64 p0.rd),(.int .i64 p0.rn),(.int .i64 p0.rm),(.int .i64 p0.ra),(.int .i64 p0.imm),(.int .i64 p0.cond),(.bool p0.wide)])] h=tm (t15 p0) fun r=>(.ret (.int .i64 r),h):=nZ rfl rfl (ahM ..) (b15 p0)
def Jh (mm:Nat) (aA:R):Option (nB×lD) :=
 (fun aB aC=>Ex.nR aA.1 (nJ mm aB aC)) (gd aA.2.1 0) aA.2.2
def Wv (K:lN) (m:Nat) (t32:lC) (aB:lC) (t28:lC) (aA:lD):Option R :=
 lS t32 (lX m .normal [aB,(.bool false),t28,t32] aA) (bo .eql t28 (.int .i64 2) fun aC=>lX m .normal [aB,(.bool false),t28,aC] aA)
def Iy (aA:Bool) (p0:Ins):Option (Bool) :=
 tc aA (some aA) (some (decide (p0.op=2)))
set_option maxHeartbeats 4000000 in
theorem apX (w33:Bool) (p0:Ins):(Wv KK 1 (.bool w33) (.ptr 0 0) (.int .i64 p0.op) ([.cells [(.int .i64 p0.op),(.int .i64 p0.rd),(.int .i64 p0.rn),(.int .i64 p0.rm),(.int .i64 p0.ra),(.int .i64 p0.imm),(.int .i64 p0.cond),(.bool p0.wide)]]:lD))=tm (Iy w33 p0) fun r=>(.normal,[(.ptr 0 0),(.bool false),(.int .i64 p0.op),(.bool r)],([.cells [(.int .i64 p0.op),(.int .i64 p0.rd),(.int .i64 p0.rn),(.int .i64 p0.rm),(.int .i64 p0.ra),(.int .i64 p0.imm),(.int .i64 p0.cond),(.bool p0.wide)]]:lD)):=by
 cases w33 <;> simp +contextual -implicitDefEqProofs (maxSteps:=2000000) [-lM,-lF,-lE,-lG,-lK,-lI,-lH,Wv,Iy]
def Wu (K:lN) (m:Nat) (t29:lC) (aG:lC) (t28:lC) (aF:lD):Option R :=
 lS t29 (lX m .normal [aG,(.bool false),t28,t29] aF) (bo .eql t28 (.int .i64 25) fun t32=>(Wv K (aa8 aF) t32 aG t28 aF).bind fun aA=>(fun aB aC aD aE aH=>Ex.qZ aA.1 (lX m .normal [aB,aC,aD,aE] aH)) (gd aA.2.1 0) (gd aA.2.1 1) (gd aA.2.1 2) (gd aA.2.1 3) aA.2.2)
def Ix (aA:Bool) (p0:Ins):Option (Bool) :=
 tc aA (some aA) (tb (Iy (decide (p0.op=25)) p0) fun aB=>some aB)
set_option maxHeartbeats 4000000 in
theorem Od (w31:Bool) (p0:Ins):(Wu KK 1 (.bool w31) (.ptr 0 0) (.int .i64 p0.op) ([.cells [(.int .i64 p0.op),(.int .i64 p0.rd),(.int .i64 p0.rn),(.int .i64 p0.rm),(.int .i64 p0.ra),(.int .i64 p0.imm),(.int .i64 p0.cond),(.bool p0.wide)]]:lD))=tm (Ix w31 p0) fun r=>(.normal,[(.ptr 0 0),(.bool false),(.int .i64 p0.op),(.bool r)],([.cells [(.int .i64 p0.op),(.int .i64 p0.rd),(.int .i64 p0.rn),(.int .i64 p0.rm),(.int .i64 p0.ra),(.int .i64 p0.imm),(.int .i64 p0.cond),(.bool p0.wide)]]:lD)):=by
 cases w31 <;> simp +contextual -implicitDefEqProofs (maxSteps:=2000000) [-lM,-lF,-lE,-lG,-lK,-lI,-lH,Wu,Ix,apX]
def Wz (K:lN) (m:Nat) (t53:lC) (aB:lC) (aC:lC) (aA:lC) (aD:lD):Option R :=
 lS t53 (lX m .normal [aB,aC,aA,t53] aD) (bo .eql aA (.int .i64 9) fun aE=>lX m .normal [aB,aC,aA,aE] aD)
def Kg (aA:Bool) (p0:Ins):Option (Bool) :=
 tc aA (some aA) (some (decide (p0.op=9)))
set_option maxHeartbeats 4000000 in
theorem ap0 (w54:Bool) (p0:Ins):(Wz KK 1 (.bool w54) (.ptr 0 0) (.bool false) (.int .i64 p0.op) ([.cells [(.int .i64 p0.op),(.int .i64 p0.rd),(.int .i64 p0.rn),(.int .i64 p0.rm),(.int .i64 p0.ra),(.int .i64 p0.imm),(.int .i64 p0.cond),(.bool p0.wide)]]:lD))=tm (Kg w54 p0) fun r=>(.normal,[(.ptr 0 0),(.bool false),(.int .i64 p0.op),(.bool r)],([.cells [(.int .i64 p0.op),(.int .i64 p0.rd),(.int .i64 p0.rn),(.int .i64 p0.rm),(.int .i64 p0.ra),(.int .i64 p0.imm),(.int .i64 p0.cond),(.bool p0.wide)]]:lD)):=by
 cases w54 <;> simp +contextual -implicitDefEqProofs (maxSteps:=2000000) [-lM,-lF,-lE,-lG,-lK,-lI,-lH,Wz,Kg]
def Wy (K:lN) (m:Nat) (aJ:lC) (aB:lC) (aC:lC) (aA:lC) (aI:lD):Option R :=
 lS aJ (lX m .normal [aB,aC,aA,aJ] aI) (bo .eql aA (.int .i64 8) fun t53=>(Wz K (aa8 aI) t53 aB aC aA aI).bind fun aE=>(fun aF aG aH aD aK=>Ex.qZ aE.1 (lX m .normal [aF,aG,aH,aD] aK)) (gd aE.2.1 0) (gd aE.2.1 1) (gd aE.2.1 2) (gd aE.2.1 3) aE.2.2)
def Kf (aA:Bool) (p0:Ins):Option (Bool) :=
 tc aA (some aA) (tb (Kg (decide (p0.op=8)) p0) fun aB=>some aB)
set_option maxHeartbeats 4000000 in
theorem apZ (w52:Bool) (p0:Ins):(Wy KK 1 (.bool w52) (.ptr 0 0) (.bool false) (.int .i64 p0.op) ([.cells [(.int .i64 p0.op),(.int .i64 p0.rd),(.int .i64 p0.rn),(.int .i64 p0.rm),(.int .i64 p0.ra),(.int .i64 p0.imm),(.int .i64 p0.cond),(.bool p0.wide)]]:lD))=tm (Kf w52 p0) fun r=>(.normal,[(.ptr 0 0),(.bool false),(.int .i64 p0.op),(.bool r)],([.cells [(.int .i64 p0.op),(.int .i64 p0.rd),(.int .i64 p0.rn),(.int .i64 p0.rm),(.int .i64 p0.ra),(.int .i64 p0.imm),(.int .i64 p0.cond),(.bool p0.wide)]]:lD)):=by
 cases w52 <;> simp +contextual -implicitDefEqProofs (maxSteps:=2000000) [-lM,-lF,-lE,-lG,-lK,-lI,-lH,Wy,Kf,ap0]
def Wx (K:lN) (m:Nat) (aJ:lC) (aB:lC) (aC:lC) (aA:lC) (aI:lD):Option R :=
 lS aJ (lX m .normal [aB,aC,aA,aJ] aI) (bo .eql aA (.int .i64 7) fun aL=>(Wy K (aa8 aI) aL aB aC aA aI).bind fun aE=>(fun aF aG aH aD aK=>Ex.qZ aE.1 (lX m .normal [aF,aG,aH,aD] aK)) (gd aE.2.1 0) (gd aE.2.1 1) (gd aE.2.1 2) (gd aE.2.1 3) aE.2.2)
def Ke (aA:Bool) (p0:Ins):Option (Bool) :=
 tc aA (some aA) (tb (Kf (decide (p0.op=7)) p0) fun aB=>some aB)
set_option maxHeartbeats 4000000 in
theorem apY (w50:Bool) (p0:Ins):(Wx KK 1 (.bool w50) (.ptr 0 0) (.bool false) (.int .i64 p0.op) ([.cells [(.int .i64 p0.op),(.int .i64 p0.rd),(.int .i64 p0.rn),(.int .i64 p0.rm),(.int .i64 p0.ra),(.int .i64 p0.imm),(.int .i64 p0.cond),(.bool p0.wide)]]:lD))=tm (Ke w50 p0) fun r=>(.normal,[(.ptr 0 0),(.bool false),(.int .i64 p0.op),(.bool r)],([.cells [(.int .i64 p0.op),(.int .i64 p0.rd),(.int .i64 p0.rn),(.int .i64 p0.rm),(.int .i64 p0.ra),(.int .i64 p0.imm),(.int .i64 p0.cond),(.bool p0.wide)]]:lD)):=by
 cases w50 <;> simp +contextual -implicitDefEqProofs (maxSteps:=2000000) [-lM,-lF,-lE,-lG,-lK,-lI,-lH,Wx,Ke,apZ]
def Ww (K:lN) (m:Nat) (aJ:lC) (aB:lC) (aC:lC) (aA:lC) (aI:lD):Option R :=
 lS aJ (lX m .normal [aB,aC,aA,aJ] aI) (bo .eql aA (.int .i64 6) fun aL=>(Wx K (aa8 aI) aL aB aC aA aI).bind fun aE=>(fun aF aG aH aD aK=>Ex.qZ aE.1 (lX m .normal [aF,aG,aH,aD] aK)) (gd aE.2.1 0) (gd aE.2.1 1) (gd aE.2.1 2) (gd aE.2.1 3) aE.2.2)
def ID (aA:Bool) (p0:Ins):Option (Bool) :=
 tc aA (some aA) (tb (Ke (decide (p0.op=6)) p0) fun aB=>some aB)
set_option maxHeartbeats 4000000 in
theorem Oe (w48:Bool) (p0:Ins):(Ww KK 1 (.bool w48) (.ptr 0 0) (.bool false) (.int .i64 p0.op) ([.cells [(.int .i64 p0.op),(.int .i64 p0.rd),(.int .i64 p0.rn),(.int .i64 p0.rm),(.int .i64 p0.ra),(.int .i64 p0.imm),(.int .i64 p0.cond),(.bool p0.wide)]]:lD))=tm (ID w48 p0) fun r=>(.normal,[(.ptr 0 0),(.bool false),(.int .i64 p0.op),(.bool r)],([.cells [(.int .i64 p0.op),(.int .i64 p0.rd),(.int .i64 p0.rn),(.int .i64 p0.rm),(.int .i64 p0.ra),(.int .i64 p0.imm),(.int .i64 p0.cond),(.bool p0.wide)]]:lD)):=by
 cases w48 <;> simp +contextual -implicitDefEqProofs (maxSteps:=2000000) [-lM,-lF,-lE,-lG,-lK,-lI,-lH,Ww,ID,apY]
def QB (K:lN) (m:Nat) (aE:lC) (aB:lC) (aC:lC) (aA:lC) (aD:lD):Option R :=
 lS aE (lX m .normal [aB,aC,aA,aE] aD) (bo .eql aA (.int .i64 16) fun aF=>lX m .normal [aB,aC,aA,aF] aD)
def IA (aA:Bool) (p0:Ins):Option (Bool) :=
 tc aA (some aA) (some (decide (p0.op=16)))
set_option maxHeartbeats 4000000 in
theorem ajX (w96:Bool) (p0:Ins):(QB KK 1 (.bool w96) (.ptr 0 0) (.bool false) (.int .i64 p0.op) ([.cells [(.int .i64 p0.op),(.int .i64 p0.rd),(.int .i64 p0.rn),(.int .i64 p0.rm),(.int .i64 p0.ra),(.int .i64 p0.imm),(.int .i64 p0.cond),(.bool p0.wide)]]:lD))=tm (IA w96 p0) fun r=>(.normal,[(.ptr 0 0),(.bool false),(.int .i64 p0.op),(.bool r)],([.cells [(.int .i64 p0.op),(.int .i64 p0.rd),(.int .i64 p0.rn),(.int .i64 p0.rm),(.int .i64 p0.ra),(.int .i64 p0.imm),(.int .i64 p0.cond),(.bool p0.wide)]]:lD)):=by
 cases w96 <;> simp +contextual -implicitDefEqProofs (maxSteps:=2000000) [-lM,-lF,-lE,-lG,-lK,-lI,-lH,QB,IA]
def QA (K:lN) (m:Nat) (aK:lC) (aC:lC) (aD:lC) (aA:lC) (aJ:lD):Option R :=
 lS aK (lX m .normal [aC,aD,aA,aK] aJ) (bo .eql aA (.int .i64 15) fun aL=>(QB K (aa8 aJ) aL aC aD aA aJ).bind fun aG=>(fun aH aE aF aB aI=>Ex.qZ aG.1 (lX m .normal [aH,aE,aF,aB] aI)) (gd aG.2.1 0) (gd aG.2.1 1) (gd aG.2.1 2) (gd aG.2.1 3) aG.2.2)
def Iz (aA:Bool) (p0:Ins):Option (Bool) :=
 tc aA (some aA) (tb (IA (decide (p0.op=15)) p0) fun aB=>some aB)
set_option maxHeartbeats 4000000 in
theorem ajW (w94:Bool) (p0:Ins):(QA KK 1 (.bool w94) (.ptr 0 0) (.bool false) (.int .i64 p0.op) ([.cells [(.int .i64 p0.op),(.int .i64 p0.rd),(.int .i64 p0.rn),(.int .i64 p0.rm),(.int .i64 p0.ra),(.int .i64 p0.imm),(.int .i64 p0.cond),(.bool p0.wide)]]:lD))=tm (Iz w94 p0) fun r=>(.normal,[(.ptr 0 0),(.bool false),(.int .i64 p0.op),(.bool r)],([.cells [(.int .i64 p0.op),(.int .i64 p0.rd),(.int .i64 p0.rn),(.int .i64 p0.rm),(.int .i64 p0.ra),(.int .i64 p0.imm),(.int .i64 p0.cond),(.bool p0.wide)]]:lD)):=by
 cases w94 <;> simp +contextual -implicitDefEqProofs (maxSteps:=2000000) [-lM,-lF,-lE,-lG,-lK,-lI,-lH,QA,Iz,ajX]
def WD (K:lN) (m:Nat) (aK:lC) (aD:lC) (aE:lC) (aB:lC) (aJ:lD):Option R :=
 lS aK (lX m .normal [aD,aE,aB,aK] aJ) (bo .eql aB (.int .i64 14) fun aL=>(QA K (aa8 aJ) aL aD aE aB aJ).bind fun aA=>(fun aF aG aH aC aI=>Ex.qZ aA.1 (lX m .normal [aF,aG,aH,aC] aI)) (gd aA.2.1 0) (gd aA.2.1 1) (gd aA.2.1 2) (gd aA.2.1 3) aA.2.2)
def OI (aB:Bool) (p0:Ins):Option (Bool) :=
 tc aB (some aB) (tb (Iz (decide (p0.op=14)) p0) fun aA=>some aA)
set_option maxHeartbeats 4000000 in
theorem ap3 (w92:Bool) (p0:Ins):(WD KK 1 (.bool w92) (.ptr 0 0) (.bool false) (.int .i64 p0.op) ([.cells [(.int .i64 p0.op),(.int .i64 p0.rd),(.int .i64 p0.rn),(.int .i64 p0.rm),(.int .i64 p0.ra),(.int .i64 p0.imm),(.int .i64 p0.cond),(.bool p0.wide)]]:lD))=tm (OI w92 p0) fun r=>(.normal,[(.ptr 0 0),(.bool false),(.int .i64 p0.op),(.bool r)],([.cells [(.int .i64 p0.op),(.int .i64 p0.rd),(.int .i64 p0.rn),(.int .i64 p0.rm),(.int .i64 p0.ra),(.int .i64 p0.imm),(.int .i64 p0.cond),(.bool p0.wide)]]:lD)):=by
 cases w92 <;> simp +contextual -implicitDefEqProofs (maxSteps:=2000000) [-lM,-lF,-lE,-lG,-lK,-lI,-lH,WD,OI,ajW]
def WC (K:lN) (m:Nat) (aK:lC) (aD:lC) (aE:lC) (aB:lC) (aJ:lD):Option R :=
 lS aK (lX m .normal [aD,aE,aB,aK] aJ) (bo .eql aB (.int .i64 13) fun aL=>(WD K (aa8 aJ) aL aD aE aB aJ).bind fun aA=>(fun aF aG aH aC aI=>Ex.qZ aA.1 (lX m .normal [aF,aG,aH,aC] aI)) (gd aA.2.1 0) (gd aA.2.1 1) (gd aA.2.1 2) (gd aA.2.1 3) aA.2.2)
def OG (aB:Bool) (p0:Ins):Option (Bool) :=
 tc aB (some aB) (tb (OI (decide (p0.op=13)) p0) fun aA=>some aA)
set_option maxHeartbeats 4000000 in
theorem ap2 (w90:Bool) (p0:Ins):(WC KK 1 (.bool w90) (.ptr 0 0) (.bool false) (.int .i64 p0.op) ([.cells [(.int .i64 p0.op),(.int .i64 p0.rd),(.int .i64 p0.rn),(.int .i64 p0.rm),(.int .i64 p0.ra),(.int .i64 p0.imm),(.int .i64 p0.cond),(.bool p0.wide)]]:lD))=tm (OG w90 p0) fun r=>(.normal,[(.ptr 0 0),(.bool false),(.int .i64 p0.op),(.bool r)],([.cells [(.int .i64 p0.op),(.int .i64 p0.rd),(.int .i64 p0.rn),(.int .i64 p0.rm),(.int .i64 p0.ra),(.int .i64 p0.imm),(.int .i64 p0.cond),(.bool p0.wide)]]:lD)):=by
 cases w90 <;> simp +contextual -implicitDefEqProofs (maxSteps:=2000000) [-lM,-lF,-lE,-lG,-lK,-lI,-lH,WC,OG,ap3]
def WB (K:lN) (m:Nat) (aK:lC) (aD:lC) (aE:lC) (aB:lC) (aJ:lD):Option R :=
 lS aK (lX m .normal [aD,aE,aB,aK] aJ) (bo .eql aB (.int .i64 12) fun aL=>(WC K (aa8 aJ) aL aD aE aB aJ).bind fun aA=>(fun aF aG aH aC aI=>Ex.qZ aA.1 (lX m .normal [aF,aG,aH,aC] aI)) (gd aA.2.1 0) (gd aA.2.1 1) (gd aA.2.1 2) (gd aA.2.1 3) aA.2.2)
def OF (aB:Bool) (p0:Ins):Option (Bool) :=
 tc aB (some aB) (tb (OG (decide (p0.op=12)) p0) fun aA=>some aA)
set_option maxHeartbeats 4000000 in
theorem ap1 (w88:Bool) (p0:Ins):(WB KK 1 (.bool w88) (.ptr 0 0) (.bool false) (.int .i64 p0.op) ([.cells [(.int .i64 p0.op),(.int .i64 p0.rd),(.int .i64 p0.rn),(.int .i64 p0.rm),(.int .i64 p0.ra),(.int .i64 p0.imm),(.int .i64 p0.cond),(.bool p0.wide)]]:lD))=tm (OF w88 p0) fun r=>(.normal,[(.ptr 0 0),(.bool false),(.int .i64 p0.op),(.bool r)],([.cells [(.int .i64 p0.op),(.int .i64 p0.rd),(.int .i64 p0.rn),(.int .i64 p0.rm),(.int .i64 p0.ra),(.int .i64 p0.imm),(.int .i64 p0.cond),(.bool p0.wide)]]:lD)):=by
 cases w88 <;> simp +contextual -implicitDefEqProofs (maxSteps:=2000000) [-lM,-lF,-lE,-lG,-lK,-lI,-lH,WB,OF,ap2]
def WA (K:lN) (m:Nat) (aK:lC) (aD:lC) (aE:lC) (aB:lC) (aJ:lD):Option R :=
 lS aK (lX m .normal [aD,aE,aB,aK] aJ) (bo .eql aB (.int .i64 11) fun aL=>(WB K (aa8 aJ) aL aD aE aB aJ).bind fun aA=>(fun aF aG aH aC aI=>Ex.qZ aA.1 (lX m .normal [aF,aG,aH,aC] aI)) (gd aA.2.1 0) (gd aA.2.1 1) (gd aA.2.1 2) (gd aA.2.1 3) aA.2.2)
def OE (aB:Bool) (p0:Ins):Option (Bool) :=
 tc aB (some aB) (tb (OF (decide (p0.op=11)) p0) fun aA=>some aA)
set_option maxHeartbeats 4000000 in
theorem Of (w86:Bool) (p0:Ins):(WA KK 1 (.bool w86) (.ptr 0 0) (.bool false) (.int .i64 p0.op) ([.cells [(.int .i64 p0.op),(.int .i64 p0.rd),(.int .i64 p0.rn),(.int .i64 p0.rm),(.int .i64 p0.ra),(.int .i64 p0.imm),(.int .i64 p0.cond),(.bool p0.wide)]]:lD))=tm (OE w86 p0) fun r=>(.normal,[(.ptr 0 0),(.bool false),(.int .i64 p0.op),(.bool r)],([.cells [(.int .i64 p0.op),(.int .i64 p0.rd),(.int .i64 p0.rn),(.int .i64 p0.rm),(.int .i64 p0.ra),(.int .i64 p0.imm),(.int .i64 p0.cond),(.bool p0.wide)]]:lD)):=by
 cases w86 <;> simp +contextual -implicitDefEqProofs (maxSteps:=2000000) [-lM,-lF,-lE,-lG,-lK,-lI,-lH,WA,OE,ap1]
def QD (K:lN) (m:Nat) (aE:lC) (aA:lC) (aB:lC) (aD:lD) (aC:lC):Option R :=
 lS aE (lX m .normal [aA,aB,aE] aD) (bo .eql aC (.int .i64 21) fun aF=>lX m .normal [aA,aB,aF] aD)
def IC (aA:Bool) (p0:Ins):Option (Bool) :=
 tc aA (some aA) (some (decide (p0.op=21)))
set_option maxHeartbeats 4000000 in
theorem ajY (w226:Bool) (p0:Ins):(QD KK 1 (.bool w226) (.ptr 0 0) (.bool false) ([.cells [(.int .i64 p0.op),(.int .i64 p0.rd),(.int .i64 p0.rn),(.int .i64 p0.rm),(.int .i64 p0.ra),(.int .i64 p0.imm),(.int .i64 p0.cond),(.bool p0.wide)]]:lD) (.int .i64 p0.op))=tm (IC w226 p0) fun r=>(.normal,[(.ptr 0 0),(.bool false),(.bool r)],([.cells [(.int .i64 p0.op),(.int .i64 p0.rd),(.int .i64 p0.rn),(.int .i64 p0.rm),(.int .i64 p0.ra),(.int .i64 p0.imm),(.int .i64 p0.cond),(.bool p0.wide)]]:lD)):=by
 cases w226 <;> simp +contextual -implicitDefEqProofs (maxSteps:=2000000) [-lM,-lF,-lE,-lG,-lK,-lI,-lH,QD,IC]
def QC (K:lN) (m:Nat) (aI:lC) (aB:lC) (aC:lC) (aF:lD) (aD:lC):Option R :=
 lS aI (lX m .normal [aB,aC,aI] aF) (bo .eql aD (.int .i64 19) fun aK=>(QD K (aa8 aF) aK aB aC aF aD).bind fun aA=>(fun aG aH aE aJ=>Ex.qZ aA.1 (lX m .normal [aG,aH,aE] aJ)) (gd aA.2.1 0) (gd aA.2.1 1) (gd aA.2.1 2) aA.2.2)
def IB (aA:Bool) (p0:Ins):Option (Bool) :=
 tc aA (some aA) (tb (IC (decide (p0.op=19)) p0) fun aB=>some aB)
set_option maxHeartbeats 4000000 in
theorem Ie (w224:Bool) (p0:Ins):(QC KK 1 (.bool w224) (.ptr 0 0) (.bool false) ([.cells [(.int .i64 p0.op),(.int .i64 p0.rd),(.int .i64 p0.rn),(.int .i64 p0.rm),(.int .i64 p0.ra),(.int .i64 p0.imm),(.int .i64 p0.cond),(.bool p0.wide)]]:lD) (.int .i64 p0.op))=tm (IB w224 p0) fun r=>(.normal,[(.ptr 0 0),(.bool false),(.bool r)],([.cells [(.int .i64 p0.op),(.int .i64 p0.rd),(.int .i64 p0.rn),(.int .i64 p0.rm),(.int .i64 p0.ra),(.int .i64 p0.imm),(.int .i64 p0.cond),(.bool p0.wide)]]:lD)):=by
 cases w224 <;> simp +contextual -implicitDefEqProofs (maxSteps:=2000000) [-lM,-lF,-lE,-lG,-lK,-lI,-lH,QC,IB,ajY]
def QE (K:lN) (aB:lC) (aA:lD):Option R :=
 some (.ret,[aB],aA)
def MC (aA:Bool):Option (Bool) :=
 some aA
set_option maxHeartbeats 4000000 in
theorem Mm (w157:Bool) (p0:Ins):((QE KK (.bool w157) ([.cells [(.int .i64 p0.op),(.int .i64 p0.rd),(.int .i64 p0.rn),(.int .i64 p0.rm),(.int .i64 p0.ra),(.int .i64 p0.imm),(.int .i64 p0.cond),(.bool p0.wide)]]:lD))).bind (Jh 0)=tm (MC w157) fun r=>(.ret (.bool r),[]):=by
 cases w157 <;> simp +contextual -implicitDefEqProofs (maxSteps:=2000000) [-lM,-lF,-lE,-lG,-lK,-lI,-lH,QE,MC,r15,Od,Oe,Of,Ie,Jh]
def QH (K:lN) (aB:lC) (aA:lD):Option R :=
 some (.ret,[aB],aA)
def MG (aA:Bool):Option (Bool) :=
 some aA
set_option maxHeartbeats 4000000 in
theorem QS (w221:Bool) (p0:Ins):((QH KK (.bool w221) ([.cells [(.int .i64 p0.op),(.int .i64 p0.rd),(.int .i64 p0.rn),(.int .i64 p0.rm),(.int .i64 p0.ra),(.int .i64 p0.imm),(.int .i64 p0.cond),(.bool p0.wide)]]:lD))).bind (Jh 0)=tm (MG w221) fun r=>(.ret (.bool r),[]):=by
 cases w221 <;> simp +contextual -implicitDefEqProofs (maxSteps:=2000000) [-lM,-lF,-lE,-lG,-lK,-lI,-lH,QH,MG,r15,Od,Oe,Of,Ie,Jh,Mm]
def QG (K:lN) (aA:lC) (aB:lC) (aE:lD):Option R :=
 gS true aA (fa 4 aB fun aI=>lV aI aE) aE fun aJ aC=>gS true aA (ld false 1 aC aJ fun aK=>lV aK aC) aC fun aL aF=>gS true aA (fa 3 aB fun aM=>lV aM aF) aF fun aN aD=>gS true aA (ld false 1 aD aN fun aO=>lV aO aD) aD fun aP aG=>gS true aA (bo .neq aL aP fun aQ=>lV aQ aG) aG fun aR aH=>(mJ aA aR (.bool false)).bind fun aS=>QH K aS aH
def MF (aA:Bool) (p0:Ins):Option (Bool) :=
 tc aA (MG (!decide (p0.ra=p0.rm))) (MG false)
set_option maxHeartbeats 4000000 in
theorem Xh (w202:Bool) (p0:Ins):((QG KK (.bool w202) (.ptr 0 0) ([.cells [(.int .i64 p0.op),(.int .i64 p0.rd),(.int .i64 p0.rn),(.int .i64 p0.rm),(.int .i64 p0.ra),(.int .i64 p0.imm),(.int .i64 p0.cond),(.bool p0.wide)]]:lD))).bind (Jh 0)=tm (MF w202 p0) fun r=>(.ret (.bool r),[]):=by
 cases w202 <;> simp +contextual -implicitDefEqProofs (maxSteps:=2000000) [-lM,-lF,-lE,-lG,-lK,-lI,-lH,QG,MF,r15,Od,Oe,Of,Ie,Jh,Mm,QS]
def QF (K:lN) (aB:lC) (aA:lC) (aE:lD):Option R :=
 gS true aB (fa 4 aA fun aI=>lV aI aE) aE fun aJ aC=>gS true aB (ld false 1 aC aJ fun aK=>lV aK aC) aC fun aL aF=>gS true aB (fa 2 aA fun aM=>lV aM aF) aF fun aN aD=>gS true aB (ld false 1 aD aN fun aO=>lV aO aD) aD fun aP aG=>gS true aB (bo .neq aL aP fun aQ=>lV aQ aG) aG fun aR aH=>(mJ aB aR (.bool false)).bind fun aS=>QG K aS aA aH
def MD (aA:Bool) (p0:Ins):Option (Bool) :=
 tc aA (MF (!decide (p0.ra=p0.rn)) p0) (MF false p0)
set_option maxHeartbeats 4000000 in
theorem ajZ (w182:Bool) (p0:Ins):((QF KK (.bool w182) (.ptr 0 0) ([.cells [(.int .i64 p0.op),(.int .i64 p0.rd),(.int .i64 p0.rn),(.int .i64 p0.rm),(.int .i64 p0.ra),(.int .i64 p0.imm),(.int .i64 p0.cond),(.bool p0.wide)]]:lD))).bind (Jh 0)=tm (MD w182 p0) fun r=>(.ret (.bool r),[]):=by
 cases w182 <;> simp +contextual -implicitDefEqProofs (maxSteps:=2000000) [-lM,-lF,-lE,-lG,-lK,-lI,-lH,QF,MD,r15,Od,Oe,Of,Ie,Jh,Mm,QS,Xh]
def m8 (K:lN) (a0:lC) (h0:lD):Option (nB×lD) :=
 (lQ (nA 8 h0 a0) fun cA cI=>ld true 8 cI cA fun cJ=>ca (K 15 [(lC.lL cJ)] cI) fun t23 bD=>bo .neq t23 (.int .i64 0) fun t26=>lS t26 (some (.ret,[(.bool false)],bD)) (fa 0 cA fun cK=>ld false 1 bD cK fun t28=>bo .eql t28 (.int .i64 24) fun t29=>(Wu K (aa8 bD) t29 cA t28 bD).bind fun aS=>(fun aZ a_ aK bC bG=>Ex.qZ aS.1 (lS bC (some (.ret,[(.bool false)],bG)) (bo .eql aK (.int .i64 5) fun cL=>(Ww K (aa8 bG) cL aZ a_ aK bG).bind fun aT=>(fun aG bB aL aQ aY=>Ex.qZ aT.1 (lS aQ (fa 1 aG fun cM=>ld false 1 aY cM fun cN=>fa 3 aG fun cO=>ld false 1 aY cO fun cP=>bo .neq cN cP fun cQ=>some (.ret,[cQ],aY)) (bo .eql aL (.int .i64 10) fun cR=>(WA K (aa8 aY) cR aG bB aL aY).bind fun wO=>(fun aA aR aC aI aB=>Ex.qZ wO.1 (lS aI (fa 1 aA fun t134=>ld false 1 aB t134 fun t135=>fa 2 aA fun t136=>ld false 1 aB t136 fun t137=>bo .neq t135 t137 fun t138=>gS true t138 (fa 1 aA fun t139=>lV t139 aB) aB fun t140 aM=>gS true t138 (ld false 1 aM t140 fun t142=>lV t142 aM) aM fun t143 aU=>gS true t138 (fa 3 aA fun t145=>lV t145 aU) aU fun t146 aN=>gS true t138 (ld false 1 aN t146 fun t148=>lV t148 aN) aN fun bH aV=>gS true t138 (bo .neq t143 bH fun bI=>lV bI aV) aV fun bJ bE=>(mJ t138 bJ (.bool false)).bind fun bK=>QE K bK bE) (bo .eql aC (.int .i64 17) fun bL=>lS bL (fa 1 aA fun bM=>ld false 1 aB bM fun bN=>fa 2 aA fun bO=>ld false 1 aB bO fun bP=>bo .neq bN bP fun aD=>gS true aD (fa 1 aA fun bQ=>lV bQ aB) aB fun bR aO=>gS true aD (ld false 1 aO bR fun bS=>lV bS aO) aO fun bT aW=>gS true aD (fa 3 aA fun bU=>lV bU aW) aW fun bV aP=>gS true aD (ld false 1 aP bV fun bW=>lV bW aP) aP fun bX aX=>gS true aD (bo .neq bT bX fun bY=>lV bY aX) aX fun bZ bF=>(mJ aD bZ (.bool false)).bind fun b_=>QF K b_ aA bF) (bo .eql aC (.int .i64 18) fun cB=>(QC K (aa8 aB) cB aA aR aB aC).bind fun aE=>(fun aF cH aJ aH=>Ex.qZ aE.1 (lS aJ (fa 1 aF fun cC=>ld false 1 aH cC fun cD=>fa 2 aF fun cE=>ld false 1 aH cE fun cF=>bo .neq cD cF fun cG=>some (.ret,[cG],aH)) (some (.ret,[(.bool true)],aH)))) (gd aE.2.1 0) (gd aE.2.1 1) (gd aE.2.1 2) aE.2.2)))) (gd wO.2.1 0) (gd wO.2.1 1) (gd wO.2.1 2) (gd wO.2.1 3) wO.2.2))) (gd aT.2.1 0) (gd aT.2.1 1) (gd aT.2.1 2) (gd aT.2.1 3) aT.2.2))) (gd aS.2.1 0) (gd aS.2.1 1) (gd aS.2.1 2) (gd aS.2.1 3) aS.2.2)).bind (Jh (aa8 h0))
theorem ao6 (K:lN) (a0:lC) (h0:lD):qG Tryz.prog mY mX K 8 [a0] h0=m8 (mH mY K) a0 h0:=by kernel_rfl
def t8 (p0:Ins):Option (Bool) :=
 tb ((t15 p0)) fun aB=>tc (!decide (aB=0)) (some false) (tb (Ix (decide (p0.op=24)) p0) fun aC=>tc aC (some false) (tb (ID (decide (p0.op=5)) p0) fun aD=>tc aD (some (!decide (p0.rd=p0.rm))) (tb (OE (decide (p0.op=10)) p0) fun wO=>tc wO (tc (!decide (p0.rd=p0.rn)) (MC (!decide (p0.rd=p0.rm))) (MC false)) (tc (decide (p0.op=17)) (tc (!decide (p0.rd=p0.rn)) (MD (!decide (p0.rd=p0.rm)) p0) (MD false p0)) (tb (IB (decide (p0.op=18)) p0) fun aA=>tc aA (some (!decide (p0.rd=p0.rn))) (some true))))))
set_option maxHeartbeats 4000000 in
theorem b8 (p0:Ins):m8 KK (.agg [(.int .i64 p0.op),(.int .i64 p0.rd),(.int .i64 p0.rn),(.int .i64 p0.rm),(.int .i64 p0.ra),(.int .i64 p0.imm),(.int .i64 p0.cond),(.bool p0.wide)]) []=tm (t8 p0) fun r=>(.ret (.bool r),[]):=by
 simp +contextual -implicitDefEqProofs (maxSteps:=2000000) [-lM,-lF,-lE,-lG,-lK,-lI,-lH,m8,t8,r15,Od,Oe,Of,Ie,Jh,Mm,QS,Xh,ajZ]
theorem r8 (p0:Ins) (h:lD):KK 8 [(.agg [(.int .i64 p0.op),(.int .i64 p0.rd),(.int .i64 p0.rn),(.int .i64 p0.rm),(.int .i64 p0.ra),(.int .i64 p0.imm),(.int .i64 p0.cond),(.bool p0.wide)])] h=tm (t8 p0) fun r=>(.ret (.bool r),h):=nZ rfl rfl (ao6 ..) (b8 p0)
end
section
open Go Hk
def Tx (n:Int):Int:=Jm .i64 n 65535
def XF (n:Int):Int:=Jm .i64 (n.fdiv (2^min (Int.toNat 16) (IntKind.bits .i64))) 65535
def q9 (r n:Int):List Ins:=[⟨3,r,0,0,0,Tx n,0,false⟩,⟨4,r,0,0,0,XF n,0,false⟩]
def Fj (r b f:Int):List Ins:=[⟨3,r,0,0,0,0,0,false⟩,⟨4,r,0,0,0,XF b,0,false⟩,⟨18,r,f,0,16,0,0,false⟩]
def qY (l:List Ins):List mT:=l.map fun i=>⟨0,0,i⟩
def CM (n:Int):mT:=⟨1,n,⟨0,0,0,0,0,0,0,false⟩⟩
def Ns (n:Int):mT:=⟨2,n,⟨24,0,0,0,0,0,0,false⟩⟩
def IK (c n:Int):mT:=⟨2,n,⟨25,0,0,0,0,0,c,false⟩⟩
def inc (n:Int):Int:=IntKind.wrap .i64 (n+1)
def stepG:List Ins:=[⟨3,3,0,0,0,4,0,false⟩,⟨14,4,1,3,0,0,0,false⟩,⟨5,1,0,4,0,0,0,false⟩]
def HD (out first:Int) (body:List mT):List mT :=
 qY [⟨3,1,0,0,0,0,0,false⟩]++CM first::qY (q9 2 out++[⟨23,0,1,2,0,0,0,false⟩])++IK 2 (inc first)::body++qY stepG++[Ns first,CM (inc first)]
def Mb (image:Int) (both:Bool):List Ins :=
 [⟨3,3,0,0,0,Tx image,0,false⟩,⟨14,4,1,3,0,0,0,false⟩]++Fj 5 0x20040000 4++(if both then Fj 7 0x20080000 4 else [])++Fj 6 0x20020000 1
def SG (h r:Int):List mT:=qY [⟨19,2,r,0,0,0,0,false⟩,⟨23,0,0,2,0,0,0,false⟩]++[IK 1 h]
def NG (image out:Int) (both:Bool) (h first:Int):List mT :=
 HD out first (qY (Mb image false++[⟨19,0,5,0,0,0,0,false⟩,⟨20,0,6,0,0,0,0,false⟩])) ++
 (if both then HD out (IntKind.wrap .i64 (first+2)) (qY (Mb image true++[⟨19,0,6,0,0,0,0,false⟩])++SG h 5++SG h 7) else []) ++
 qY (q9 5 0x20100000++q9 0 0xc0de600d++[⟨20,0,5,0,0,0,0,false⟩,⟨2,0,0,0,0,0,0,false⟩]++if both then [⟨2,0,0,0,0,0,0,false⟩] else [])
def SM (h:Int):List mT:=qY [⟨19,0,5,0,0,0,0,false⟩,⟨3,2,0,0,0,0,0,false⟩,⟨23,0,0,2,0,0,0,false⟩]++[IK 1 h]
def NH (s:Sz) (twice:Bool) (h first:Int):List mT :=
 let at_:=fun k=>IntKind.wrap .i64 (first+k)
 let wipe:=fun(b n k:Int)=>HD n (at_ k) (qY ([⟨3,0,0,0,0,0,0,false⟩]++Fj 5 b 1++[⟨20,0,5,0,0,0,0,false⟩]))
 let look:=fun(b n k:Int)=>HD n (IntKind.wrap .i64 (at_ 6+k)) (qY (Fj 5 b 1)++SM h)
 CM h::qY ([⟨3,0,0,0,0,0,0,false⟩]++q9 5 0x20100000++[⟨20,0,5,0,0,0,0,false⟩]) ++
 wipe 0x20020000 s.outt 0++wipe 0x20040000 s.rail 2++wipe 0x20080000 s.rail 4 ++
 look 0x20020000 s.outt 0++look 0x20040000 s.rail 2++look 0x20080000 s.rail 4 ++
 qY (q9 5 0x20100000)++SM h ++
 qY (q9 5 0x20200000++q9 0 0x0bad0bad++[⟨20,0,5,0,0,0,0,false⟩,⟨2,0,0,0,0,0,0,false⟩]++if twice then [⟨2,0,0,0,0,0,0,false⟩] else [])
set_option maxRecDepth 100000 in
theorem aqH (image out h first:Int):MQ Tryz.prog mY (qC 60) 12 25 [.int .i64 image,.int .i64 out,.bool false,.int .i64 h,.int .i64 first] []=some (.ret (.slice (Rw mT.cells (NG image out false h first)) .no),[]):=by kernel_rfl
set_option maxRecDepth 100000 in
theorem aj7 (image out h first:Int):MQ Tryz.prog mY (qC 60) 12 25 [.int .i64 image,.int .i64 out,.bool true,.int .i64 h,.int .i64 first] []=some (.ret (.slice (Rw mT.cells (NG image out true h first)) .no),[]):=by kernel_rfl
set_option maxRecDepth 100000 in
theorem aqI (s:Sz) (b:Bool) (h first:Int):MQ Tryz.prog mY (qC 60) 12 27 [.agg [.int .i64 s.inn,.int .i64 s.outt,.int .i64 s.rail],.bool false,.int .i64 h,.int .i64 first] []=some (.ret (.slice (Rw mT.cells (NH s false h first)) .no),[]):=by kernel_rfl
set_option maxRecDepth 100000 in
theorem aj8 (s:Sz) (b:Bool) (h first:Int):MQ Tryz.prog mY (qC 60) 12 27 [.agg [.int .i64 s.inn,.int .i64 s.outt,.int .i64 s.rail],.bool true,.int .i64 h,.int .i64 first] []=some (.ret (.slice (Rw mT.cells (NH s true h first)) .no),[]):=by kernel_rfl
theorem c25 (image out:Int) (b:Bool) (h first:Int) (hp:lD):KK 25 [.int .i64 image,.int .i64 out,.bool b,.int .i64 h,.int .i64 first] hp=some (.ret (.slice (Rw mT.cells (NG image out b h first)) .no),hp):=by
 cases b
 ·exact nG rfl rfl (Dq 60 12 25 _ _ _ (aqH ..))
 ·exact nG rfl rfl (Dq 60 12 25 _ _ _ (aj7 ..))
theorem c27 (s:Sz) (b:Bool) (h first:Int) (hp:lD):KK 27 [.agg [.int .i64 s.inn,.int .i64 s.outt,.int .i64 s.rail],.bool b,.int .i64 h,.int .i64 first] hp=some (.ret (.slice (Rw mT.cells (NH s b h first)) .no),hp):=by
 cases b
 ·exact nG rfl rfl (Dq 60 12 27 _ _ _ (aqI s false ..))
 ·exact nG rfl rfl (Dq 60 12 27 _ _ _ (aj8 s false ..))
end
section
open Go Hk
def wA (i:Ins):Prop:=i.op≠2→t8 i=some true
theorem R0 (n:Int):0≤Jm .i64 n 65535∧Jm .i64 n 65535≤65535:=by
 have h:(BitVec.ofInt 64 n &&& BitVec.ofInt 64 65535).toNat≤65535:=by
  rw [BitVec.toNat_and];exact Nat.le_trans Nat.and_le_right (by decide)
 unfold Jm
 show 0≤IntKind.i64.wrap ((BitVec.ofInt 64 n &&& BitVec.ofInt 64 65535).toNat:Int)∧IntKind.i64.wrap ((BitVec.ofInt 64 n &&& BitVec.ofInt 64 65535).toNat:Int)≤65535
 rw [wrap64 (by omega) (by omega)]
 omega
theorem VO (n:Int):0≤Tx n∧Tx n≤65535:=R0 n
theorem XG (n:Int):0≤XF n∧XF n≤65535:=R0 _
theorem Su {r m:Int}(h0:0≤r) (h1:r≤12) (h2:0≤m∧m≤65535):wA ⟨3,r,0,0,0,m,0,false⟩:=by
 intro _
 simp [t8,t15,By,Bz,BA,BC,BD,BE,BF,BG,Ay,t30,C5,t31,BI,t32,Ix,Iy,ID,Ke,Kf,Kg,OE,OF,OG,OI,Iz,IA,IB,IC,h0,h1,h2.1,h2.2]
theorem Xl {r m:Int}(h0:0≤r) (h1:r≤12) (h2:0≤m∧m≤65535):wA ⟨4,r,0,0,0,m,0,false⟩:=by
 intro _
 simp [t8,t15,By,Bz,BA,BC,BD,BE,BF,BG,Ay,t30,C5,t31,BI,t32,Ix,Iy,ID,Ke,Kf,Kg,OE,OF,OG,OI,Iz,IA,IB,IC,h0,h1,h2.1,h2.2]
end
noncomputable section
open Go Hk
def adJ (mm:Nat) (aB:R):Option (nB×lD) :=
 (fun aA aC=>Ex.nR aB.1 (nJ mm aA aC)) (gd aB.2.1 0) aB.2.2
theorem afE (y0:Int) (y1:Int) (y2:Int) (y3:Int) (y4:Int) (y5:Int) (y6:Int) (y7:Int) (y8:Int) (y9:Bool) (h:lD):lR 1 10 [(.int .i64 0),(.int .i64 0),(.int .i64 0),(.int .i64 0),(.int .i64 0),(.int .i64 0),(.int .i64 0),(.int .i64 0),(.int .i64 0),(.bool false)] [(0,(.agg [(.int .i64 y0),(.int .i64 y1),(.int .i64 y2),(.int .i64 y3),(.int .i64 y4),(.int .i64 y5),(.int .i64 y6),(.int .i64 y7),(.int .i64 y8),(.bool y9)]))] h=some (.slice (Rw mT.cells [(⟨y0,y1,(⟨y2,y3,y4,y5,y6,y7,y8,y9⟩:Ins)⟩:mT)]) (.own h.length),h++[oK 10 1]):=by
 rfl
theorem afF (y0:Int) (y1:Int) (y2:Int) (y3:Int) (y4:Int) (y5:Int) (y6:Int) (y7:Int) (y8:Int) (y9:Bool) (h:lD):lR 1 10 [(.int .i64 0),(.int .i64 0),(.int .i64 0),(.int .i64 0),(.int .i64 0),(.int .i64 0),(.int .i64 0),(.int .i64 0),(.int .i64 0),(.bool false)] [(0,(.agg [(.int .i64 y0),(.int .i64 y1),(.int .i64 y2),(.int .i64 y3),(.int .i64 y4),(.int .i64 y5),(.int .i64 y6),(.int .i64 y7),(.int .i64 y8),(.bool y9)]))] h=some (.slice (Rw mT.cells [(⟨y0,y1,(⟨y2,y3,y4,y5,y6,y7,y8,y9⟩:Ins)⟩:mT)]) (.own h.length),h++[oK 10 1]):=by
 rfl
def PD (K:lN) (m:Nat) (aJ:lC) (aE:lD) (aI:lC) (aF:lC) (aA:lC) (aB:lC) (aC:lC) (aD:lC):Option R :=
 lS aJ (ld true 10 aE aI fun aK=>lQ (lR 1 10 [(.int .i64 0),(.int .i64 0),(.int .i64 0),(.int .i64 0),(.int .i64 0),(.int .i64 0),(.int .i64 0),(.int .i64 0),(.int .i64 0),(.bool false)] [(0,aK)] aE) fun aL aG=>lQ (nC 10 80 aG aF aL) fun aM aH=>lX m .normal [aA,aM,aB,aC,aD] aH) (lX m .normal [aA,aF,aB,aC,aD] aE)
def Im (aD:Bool) (aA:(List mT)) (aC:mT):Option ((List mT)) :=
 tc aD (tb ((p7 80 aA [aC])) fun aB=>some aB) (some aA)
set_option maxHeartbeats 4000000 in
theorem ai4 (w53:Bool) (l45:(List mT)) (u35:mT) (w52:Nat) (p0:(List mT)) (w25:Int) (w49:Int):(PD KK 4 (.bool w53) ([.front 0 0,oK 10 (aa8 l45),.cells [(.int .i64 u35.kind),(.int .i64 u35.label),(.int .i64 u35.ins.op),(.int .i64 u35.ins.rd),(.int .i64 u35.ins.rn),(.int .i64 u35.ins.rm),(.int .i64 u35.ins.ra),(.int .i64 u35.ins.imm),(.int .i64 u35.ins.cond),(.bool u35.ins.wide)],oK 10 w52]:lD) (.ptr 2 0) (.slice (Rw mT.cells l45) (.own 1)) (.slice (Rw mT.cells []) (.own 0)) (.slice (Rw mT.cells p0) .no) (.int .i64 w25) (.int .i64 w49))=tm (Im w53 l45 u35) fun r=>(.normal,[(.slice (Rw mT.cells []) (.own 0)),(.slice (Rw mT.cells r) (.own 1)),(.slice (Rw mT.cells p0) .no),(.int .i64 w25),(.int .i64 w49)],([.front 0 0,oK 10 (aa8 r),.cells [(.int .i64 u35.kind),(.int .i64 u35.label),(.int .i64 u35.ins.op),(.int .i64 u35.ins.rd),(.int .i64 u35.ins.rn),(.int .i64 u35.ins.rm),(.int .i64 u35.ins.ra),(.int .i64 u35.ins.imm),(.int .i64 u35.ins.cond),(.bool u35.ins.wide)],oK 10 w52]:lD)):=by
 cases w53 <;> simp +contextual -implicitDefEqProofs (maxSteps:=2000000) [-lM,-lF,-lE,-lG,-lK,-lI,-lH,PD,Im,afF]
def Li (K:lN) (m:Nat) (s:List lC×lD):Option R :=
 (fun aD aE aB aC aA aL=>bo .lss aA aC fun aR=>lS aR (ix 10 aB aA fun aS=>ld true 10 aL aS fun t36=>lQ (nA 10 aL (.agg [(.int .i64 0),(.int .i64 0),(.int .i64 0),(.int .i64 0),(.int .i64 0),(.int .i64 0),(.int .i64 0),(.int .i64 0),(.int .i64 0),(.bool false)])) fun aK aO=>(lW 10 aO aK t36).bind fun aN=>ld true 10 aN aK fun aT=>lQ (lR 1 10 [(.int .i64 0),(.int .i64 0),(.int .i64 0),(.int .i64 0),(.int .i64 0),(.int .i64 0),(.int .i64 0),(.int .i64 0),(.int .i64 0),(.bool false)] [(0,aT)] aN) fun aU aP=>lQ (nC 10 80 aP aE aU) fun aV aM=>fa 0 aK fun aW=>ld false 1 aM aW fun aX=>bo .neq aX (.int .i64 1) fun aY=>(PD K (aa8 aM) aY aM aK aV aD aB aC aA).bind fun Ei=>(fun aF aG aH aI aJ aQ=>Ex.qZ Ei.1 (bo .add aJ (.int .i64 1) fun aZ=>lX m .normal [aF,aG,aH,aI,aZ] aQ)) (gd Ei.2.1 0) (gd Ei.2.1 1) (gd Ei.2.1 2) (gd Ei.2.1 3) (gd Ei.2.1 4) Ei.2.2) (lX m (.exit 0) [aD,aE,aB,aC,aA] aL)) (gd s.1 0) (gd s.1 1) (gd s.1 2) (gd s.1 3) (gd s.1 4) s.2
def Bx (p0:(List mT)) (aD:Int) (aA:(List mT)×Int):Option (Ey×(List mT)×Int) :=
 tc (decide (aA.2<aD)) (tb ((oV p0 aA.2)) fun aB=>tb ((p7 80 aA.1 [aB])) fun aC=>tb (Im (!decide (aB.kind=1)) aC aB) fun Ei=>some (.n,(Ei,(IntKind.wrap .i64 (aA.2+1))))) (some ((.x 0),(aA.1,aA.2)))
set_option maxHeartbeats 4000000 in
theorem ae5 (p0:(List mT)) (w25:Int) (s26:(List mT)×Int):Li KK 2 ([(.slice (Rw mT.cells []) (.own 0)),(.slice (Rw mT.cells s26.1) (.own 1)),(.slice (Rw mT.cells p0) .no),(.int .i64 w25),(.int .i64 s26.2)],([.front 0 0,oK 10 (aa8 s26.1)]:lD))=tm (Bx p0 w25 s26) fun r=>(r.1.ex,[(.slice (Rw mT.cells []) (.own 0)),(.slice (Rw mT.cells r.2.1) (.own 1)),(.slice (Rw mT.cells p0) .no),(.int .i64 w25),(.int .i64 r.2.2)],([.front 0 0,oK 10 (aa8 r.2.1)]:lD)):=by
 simp +contextual -implicitDefEqProofs (maxSteps:=2000000) [-lM,-lF,-lE,-lG,-lK,-lI,-lH,Li,Bx,afE,ai4]
theorem ai5 (p0:(List mT)) (w25:Int) (i4:Int):mX (Li KK 2) ([(.slice (Rw mT.cells []) (.own 0)),(.slice (Rw mT.cells []) (.own 1)),(.slice (Rw mT.cells p0) .no),(.int .i64 w25),(.int .i64 i4)],([.front 0 0,.front 0 0]:lD))=tm (tY (Bx p0 w25) ([],i4)) fun r=>(r.1.ex,[(.slice (Rw mT.cells []) (.own 0)),(.slice (Rw mT.cells r.2.1) (.own 1)),(.slice (Rw mT.cells p0) .no),(.int .i64 w25),(.int .i64 r.2.2)],([.front 0 0,oK 10 (aa8 r.2.1)]:lD)):=by
 exact uP (enc:=fun s26=>([(.slice (Rw mT.cells []) (.own 0)),(.slice (Rw mT.cells s26.1) (.own 1)),(.slice (Rw mT.cells p0) .no),(.int .i64 w25),(.int .i64 s26.2)],([.front 0 0,oK 10 (aa8 s26.1)]:lD))) (fun s26=>ae5 p0 w25 s26) ([],i4)
def m12 (K:lN) (a0:lC) (h0:lD):Option (nB×lD) :=
 ((fun(aL:lC) (aD:lD)=>(fun(t23:lC) (aE:lD)=>ln a0 fun t24=>(mX (Li K (aa8 aE)) ([aL,t23,a0,t24,(.int .i64 0)],aE)).bind fun aA=>(fun aB aC aG aH aI aF=>Ex.mO aA.1 none (fun aJ=>Ex.inBlock 0 aJ (some (.ret,[aC],aF)) (fun aK=>some (aK,[aB],aF)))) (gd aA.2.1 0) (gd aA.2.1 1) (gd aA.2.1 2) (gd aA.2.1 3) (gd aA.2.1 4) aA.2.2) (.slice (Rw mT.cells []) (.own (aa8 aD))) (aD++[.front 0 0])) (.slice (Rw mT.cells []) (.own (aa8 h0))) (h0++[.front 0 0])).bind (adJ (aa8 h0))
theorem ag0 (K:lN) (a0:lC) (h0:lD):qG Tryz.prog mY mX K 12 [a0] h0=m12 (mH mY K) a0 h0:=by kernel_rfl
def t12 (p0:(List mT)):Option ((List mT)) :=
 tb (tY (Bx p0 ((aa8 p0:Nat):Int)) ([],0)) fun aA=>xD aA.1 none fun aB=>xF 0 aB (some aA.2.1) fun aC=>JC aC (some [])
set_option maxHeartbeats 4000000 in
theorem b12 (p0:(List mT)):m12 KK (.slice (Rw mT.cells p0) .no) []=tm (t12 p0) fun r=>(.ret (.slice (Rw mT.cells r) .no),[]):=by
 simp +contextual -implicitDefEqProofs (maxSteps:=2000000) [-lM,-lF,-lE,-lG,-lK,-lI,-lH,m12,t12,ai5,adJ]
theorem r12 (p0:(List mT)) (h:lD):KK 12 [(.slice (Rw mT.cells p0) .no)] h=tm (t12 p0) fun r=>(.ret (.slice (Rw mT.cells r) .no),h):=nZ rfl rfl (ag0 ..) (b12 p0)
def adK (mm:Nat) (aB:R):Option (nB×lD) :=
 (fun aA aC=>Ex.nR aB.1 ((lP true 3 aC aA).bind fun aD=>nJ mm aD aC)) (gd aB.2.1 0) aB.2.2
def m13 (K:lN) (a0 a1:lC) (h0:lD):Option (nB×lD) :=
 (lQ (nA 5 h0 a0) fun aB aC=>lQ (nA 3 aC a1) fun aF aD=>lQ (nA 3 aD (.agg [(.int .i64 0),(.int .i64 0),(.int .i64 0)])) fun t24 aA=>fa 3 aB fun t26=>ld false 1 aA t26 fun aG=>fa 4 aB fun t28=>ld false 1 aA t28 fun t29=>fa 2 aF fun t30=>ld false 1 aA t30 fun t31=>(mD [(.int .i64 0),(.int .i64 0),(.int .i64 0)] [(0,1),(1,1),(2,1)] [(0,aG),(1,t29),(2,t31)]).bind fun t32=>(lW 3 aA t24 t32).bind fun aE=>some (.ret,[t24],aE)).bind (adK (aa8 h0))
theorem ahB (K:lN) (a0 a1:lC) (h0:lD):qG Tryz.prog mY mX K 13 [a0,a1] h0=m13 (mH mY K) a0 a1 h0:=by kernel_rfl
def t13 (p0:IR) (p1:u5):Option (Sz) :=
 some (⟨p0.inn,p0.out,p1.size⟩:Sz)
set_option maxHeartbeats 4000000 in
theorem b13 (p0:IR) (p1:u5):m13 KK (.agg [(.int .i64 p0.temps),(.slice (Rw mV.cells p0.arrays) .no),(.slice (Rw mF.cells p0.blocks) .no),(.int .i64 p0.inn),(.int .i64 p0.out)]) (.agg [(.int .i64 p1.image),(.slice (Rw (ci .i64) p1.arrays) .no),(.int .i64 p1.size)]) []=tm (t13 p0 p1) fun r=>(.ret (.agg [(.int .i64 r.inn),(.int .i64 r.outt),(.int .i64 r.rail)]),[]):=by
 simp +contextual -implicitDefEqProofs (maxSteps:=2000000) [-lM,-lF,-lE,-lG,-lK,-lI,-lH,m13,t13,adK]
theorem TY (p0:IR) (p1:u5) (h:lD):KK 13 [(.agg [(.int .i64 p0.temps),(.slice (Rw mV.cells p0.arrays) .no),(.slice (Rw mF.cells p0.blocks) .no),(.int .i64 p0.inn),(.int .i64 p0.out)]),(.agg [(.int .i64 p1.image),(.slice (Rw (ci .i64) p1.arrays) .no),(.int .i64 p1.size)])] h=tm (t13 p0 p1) fun r=>(.ret (.agg [(.int .i64 r.inn),(.int .i64 r.outt),(.int .i64 r.rail)]),h):=nZ rfl rfl (ahB ..) (b13 p0 p1)
def adL (mm:Nat) (aB:R):Option (nB×lD) :=
 (fun aA aC=>Ex.nR aB.1 (nJ mm aA aC)) (gd aB.2.1 0) aB.2.2
def m14 (K:lN) (a0:lC) (h0:lD):Option (nB×lD) :=
 (lQ (nA 1 h0 a0) fun aB aA=>fa 0 aB fun aC=>ld false 1 aA aC fun t23=>bo .add t23 (.int .i64 1) fun t24=>some (.ret,[t24],aA)).bind (adL (aa8 h0))
theorem ahL (K:lN) (a0:lC) (h0:lD):qG Tryz.prog mY mX K 14 [a0] h0=m14 (mH mY K) a0 h0:=by kernel_rfl
def t14 (p0:Lay):Option (Int) :=
 some (IntKind.wrap .i64 (p0.n+1))
set_option maxHeartbeats 4000000 in
theorem b14 (p0:Lay):m14 KK (.agg [(.int .i64 p0.n)]) []=tm (t14 p0) fun r=>(.ret (.int .i64 r),[]):=by
 simp +contextual -implicitDefEqProofs (maxSteps:=2000000) [-lM,-lF,-lE,-lG,-lK,-lI,-lH,m14,t14,adL]
theorem Yf (p0:Lay) (h:lD):KK 14 [(.agg [(.int .i64 p0.n)])] h=tm (t14 p0) fun r=>(.ret (.int .i64 r),h):=nZ rfl rfl (ahL ..) (b14 p0)
theorem ai7 (x0_0:Int) (h:lD):KK 14 [(.agg [(.int .i64 x0_0)])] h=tm (t14 (⟨x0_0⟩:Lay)) fun r=>(.ret (.int .i64 r),h):=Yf (⟨x0_0⟩:Lay) h
def adO (mm:Nat) (MR:R):Option (nB×lD) :=
 (fun aA aB=>Ex.nR MR.1 (nJ mm aA aB)) (gd MR.2.1 0) MR.2.2
def m26 (K:lN) (a0:lC) (h0:lD):Option (nB×lD) :=
 (lQ (nA 1 h0 a0) fun aB aA=>fa 0 aB fun aC=>ld false 1 aA aC fun t23=>bo .mul (.int .i64 2) t23 fun t24=>bo .add t24 (.int .i64 2) fun aD=>some (.ret,[aD],aA)).bind (adO (aa8 h0))
theorem ahW (K:lN) (a0:lC) (h0:lD):qG Tryz.prog mY mX K 26 [a0] h0=m26 (mH mY K) a0 h0:=by kernel_rfl
def t26 (p0:Lay):Option (Int) :=
 some (IntKind.wrap .i64 ((IntKind.wrap .i64 (2*p0.n))+2))
set_option maxHeartbeats 4000000 in
theorem b26 (p0:Lay):m26 KK (.agg [(.int .i64 p0.n)]) []=tm (t26 p0) fun r=>(.ret (.int .i64 r),[]):=by
 simp +contextual -implicitDefEqProofs (maxSteps:=2000000) [-lM,-lF,-lE,-lG,-lK,-lI,-lH,m26,t26,adO]
theorem MR (p0:Lay) (h:lD):KK 26 [(.agg [(.int .i64 p0.n)])] h=tm (t26 p0) fun r=>(.ret (.int .i64 r),h):=nZ rfl rfl (ahW ..) (b26 p0)
theorem avZ (x0_0:Int) (h:lD):KK 26 [(.agg [(.int .i64 x0_0)])] h=tm (t26 (⟨x0_0⟩:Lay)) fun r=>(.ret (.int .i64 r),h):=MR (⟨x0_0⟩:Lay) h
def adP (mm:Nat) (aB:R):Option (nB×lD) :=
 (fun aA aC=>Ex.nR aB.1 (nJ mm aA aC)) (gd aB.2.1 0) aB.2.2
def m28 (K:lN) (a0:lC) (h0:lD):Option (nB×lD) :=
 (lQ (nA 1 h0 a0) fun aC aA=>ld true 1 aA aC fun aD=>ca (K 26 [(lC.lL aD)] aA) fun t23 aB=>bo .add t23 (.int .i64 4) fun t26=>some (.ret,[t26],aB)).bind (adP (aa8 h0))
theorem ahX (K:lN) (a0:lC) (h0:lD):qG Tryz.prog mY mX K 28 [a0] h0=m28 (mH mY K) a0 h0:=by kernel_rfl
def t28 (p0:Lay):Option (Int) :=
 tb ((t26 p0)) fun aA=>some (IntKind.wrap .i64 (aA+4))
set_option maxHeartbeats 4000000 in
theorem b28 (p0:Lay):m28 KK (.agg [(.int .i64 p0.n)]) []=tm (t28 p0) fun r=>(.ret (.int .i64 r),[]):=by
 simp +contextual -implicitDefEqProofs (maxSteps:=2000000) [-lM,-lF,-lE,-lG,-lK,-lI,-lH,m28,t28,MR,adP]
theorem Cq (p0:Lay) (h:lD):KK 28 [(.agg [(.int .i64 p0.n)])] h=tm (t28 p0) fun r=>(.ret (.int .i64 r),h):=nZ rfl rfl (ahX ..) (b28 p0)
theorem av0 (x0_0:Int) (h:lD):KK 28 [(.agg [(.int .i64 x0_0)])] h=tm (t28 (⟨x0_0⟩:Lay)) fun r=>(.ret (.int .i64 r),h):=Cq (⟨x0_0⟩:Lay) h
def Lj (mm:Nat) (JU:R):Option (nB×lD) :=
 (fun aA aB=>Ex.nR JU.1 (nJ mm aA aB)) (gd JU.2.1 0) JU.2.2
def Lk (K:lN) (t26:lC) (aA:lD) (a0:lC):Option R :=
 lS t26 (some (.ret,[(.int .i64 0)],aA)) (bo .mul (.int .i64 4) a0 fun t30=>bo .add (.int .i64 4) t30 fun t31=>some (.ret,[t31],aA))
def DT (aA:Bool) (p0:Int):Option (Int) :=
 tc aA (some 0) (some (IntKind.wrap .i64 (4+(IntKind.wrap .i64 (4*p0)))))
set_option maxHeartbeats 4000000 in
theorem aaP (w29:Bool) (p0:Int):((Lk KK (.bool w29) ([]:lD) (.int .i64 p0))).bind (Lj 0)=tm (DT w29 p0) fun r=>(.ret (.int .i64 r),[]):=by
 cases w29 <;> simp +contextual -implicitDefEqProofs (maxSteps:=2000000) [-lM,-lF,-lE,-lG,-lK,-lI,-lH,Lk,DT,Lj]
def ag1 (K:lN) (a0:lC) (h0:lD):Option (nB×lD) :=
 (bo .lss a0 (.int .i64 0) fun aA=>gS false aA (lV a0 h0) h0 fun aD aB=>gS false aA (bo .gtr aD (.int .i64 16382) fun t23=>lV t23 aB) aB fun t24 aC=>(mJ aA (.bool true) t24).bind fun t26=>Lk K t26 aC a0).bind (Lj (aa8 h0))
theorem ZY (K:lN) (a0:lC) (h0:lD):qG Tryz.prog mY mX K 130 [a0] h0=ag1 (mH mY K) a0 h0:=by kernel_rfl
def t130 (p0:Int):Option (Int) :=
 tc (decide (p0<0)) (DT true p0) (DT (decide (16382<p0)) p0)
set_option maxHeartbeats 4000000 in
theorem atI (p0:Int):ag1 KK (.int .i64 p0) []=tm (t130 p0) fun r=>(.ret (.int .i64 r),[]):=by
 simp +contextual -implicitDefEqProofs (maxSteps:=2000000) [-lM,-lF,-lE,-lG,-lK,-lI,-lH,ag1,t130,Lj,aaP]
theorem ai6 (p0:Int) (h:lD):KK 130 [(.int .i64 p0)] h=tm (t130 p0) fun r=>(.ret (.int .i64 r),h):=nZ rfl rfl (ZY ..) (atI p0)
def adN (mm:Nat) (aA:R):Option (nB×lD) :=
 (fun aB aC aD=>Ex.nR aA.1 ((lP true 3 aD aB).bind fun aE=>nJ mm (.tuple [aE,aC]) aD)) (gd aA.2.1 0) (gd aA.2.1 1) aA.2.2
theorem afI (y0:Int) (h:lD):lR 1 1 [(.int .i64 0)] [(0,(.int .i64 y0))] h=some (.slice (Rw (ci .i64) [y0]) (.own h.length),h++[oK 1 1]):=by
 rfl
theorem afJ (y0:Int) (h:lD):lR 1 1 [(.int .i64 0)] [(0,(.int .i64 y0))] h=some (.slice (Rw (ci .i64) [y0]) (.own h.length),h++[oK 1 1]):=by
 rfl
theorem afK (y0:Int) (h:lD):lR 1 1 [(.int .i64 0)] [(0,(.int .i64 y0))] h=some (.slice (Rw (ci .i64) [y0]) (.own h.length),h++[oK 1 1]):=by
 rfl
def PU (K:lN) (m:Nat) (bF:lC) (aA:lC) (aI:lD) (bD:lC) (aF:lC) (aG:lC) (aE:lC) (aB:lC) (aC:lC) (aD:lC):Option R :=
 lS bF (fa 1 aA fun bG=>ld false 1 aI bG fun bH=>fa 0 aA fun bI=>ld false 1 aI bI fun bJ=>fa 3 bD fun bK=>ld false 1 aI bK fun bL=>bo .add bJ bL fun bM=>lQ (lR 1 1 [(.int .i64 0)] [(0,bM)] aI) fun bN bE=>lQ (nC 1 8 bE bH bN) fun aN aJ=>fa 1 aA fun aO=>(lW 1 aJ aO aN).bind fun aK=>lX m .normal [aF,aG,aA,aE,aB,aC,aD] aK) (fa 1 aA fun aP=>ld false 1 aI aP fun aQ=>lQ (lR 1 1 [(.int .i64 0)] [(0,aE)] aI) fun aR aL=>lQ (nC 1 8 aL aQ aR) fun aS aM=>fa 1 aA fun aT=>(lW 1 aM aT aS).bind fun aH=>fa 0 bD fun aU=>ld false 1 aH aU fun aV=>fa 1 bD fun aW=>ld false 1 aH aW fun aX=>bo .mul aV aX fun aY=>bo .add aY (.int .i64 4) fun aZ=>bo .sub aZ (.int .i64 1) fun a_=>bo .quo a_ (.int .i64 4) fun bB=>bo .mul bB (.int .i64 4) fun bC=>bo .add aE bC fun t124=>lX m .normal [aF,aG,aA,t124,aB,aC,aD] aH)
def Ms (aI:Bool) (aF:Int) (aG:(List Int)) (aH:Int) (aD:mV) (aE:Int):Option (Int×u5) :=
 tc aI (tb ((p7 8 aG [(IntKind.wrap .i64 (aF+aD.off))])) fun aA=>some (aE,(⟨aF,aA,aH⟩:u5))) (tb ((p7 8 aG [aE])) fun aB=>tb ((MI .i64 (IntKind.wrap .i64 ((IntKind.wrap .i64 ((IntKind.wrap .i64 (aD.elem*aD.len))+4))-1)) 4)) fun aC=>some ((IntKind.wrap .i64 (aE+(IntKind.wrap .i64 (aC*4)))),(⟨aF,aB,aH⟩:u5)))
set_option maxHeartbeats 4000000 in
theorem ajA (w90:Bool) (p0:IR) (w75:Int) (w76:(List Int)) (w77:Int) (u63:mV) (w71:Int) (w51:Int) (w72:Int):(PU KK 6 (.bool w90) (.ptr 3 0) ([.cells [(.int .i64 p0.temps),(.slice (Rw mV.cells p0.arrays) .no),(.slice (Rw mF.cells p0.blocks) .no),(.int .i64 p0.inn),(.int .i64 p0.out)],.cells [(.int .i64 0),(.slice (Rw (ci .i64) []) (.own 2)),(.int .i64 0)],.front 0 0,.cells [(.int .i64 w75),(.slice (Rw (ci .i64) w76) (.own 4)),(.int .i64 w77)],oK 1 (aa8 w76),.cells [(.int .i64 u63.elem),(.int .i64 u63.len),(.int .i64 u63.kind),(.int .i64 u63.off)]]:lD) (.ptr 5 0) (.ptr 1 0) (.int .i64 0) (.int .i64 w71) (.slice (Rw mV.cells p0.arrays) .no) (.int .i64 w51) (.int .i64 w72))=tm (Ms w90 w75 w76 w77 u63 w71) fun r=>(.normal,[(.ptr 1 0),(.int .i64 0),(.ptr 3 0),(.int .i64 r.1),(.slice (Rw mV.cells p0.arrays) .no),(.int .i64 w51),(.int .i64 w72)],([.cells [(.int .i64 p0.temps),(.slice (Rw mV.cells p0.arrays) .no),(.slice (Rw mF.cells p0.blocks) .no),(.int .i64 p0.inn),(.int .i64 p0.out)],.cells [(.int .i64 0),(.slice (Rw (ci .i64) []) (.own 2)),(.int .i64 0)],.front 0 0,.cells [(.int .i64 r.2.image),(.slice (Rw (ci .i64) r.2.arrays) (.own 4)),(.int .i64 r.2.size)],oK 1 (aa8 r.2.arrays),.cells [(.int .i64 u63.elem),(.int .i64 u63.len),(.int .i64 u63.kind),(.int .i64 u63.off)]]:lD)):=by
 cases w90 <;> simp +contextual -implicitDefEqProofs (maxSteps:=2000000) [-lM,-lF,-lE,-lG,-lK,-lI,-lH,PU,Ms,afJ,afK]
def PT (K:lN) (m:Nat) (t70:lC) (aA:lC) (aO:lD) (aQ:lC) (aH:lC) (aI:lC) (aJ:lC) (aB:lC) (aC:lC) (aD:lC) (aU:lC):Option R :=
 lS t70 (fa 1 aA fun aV=>ld false 1 aO aV fun aW=>fa 3 aQ fun aX=>ld false 1 aO aX fun aY=>lQ (lR 1 1 [(.int .i64 0)] [(0,aY)] aO) fun aZ aR=>lQ (nC 1 8 aR aW aZ) fun a_ aS=>fa 1 aA fun bB=>(lW 1 aS bB a_).bind fun aT=>lX m .normal [aH,aI,aA,aJ,aB,aC,aD] aT) (bo .eql aU (.int .i64 2) fun bC=>(PU K (aa8 aO) bC aA aO aQ aH aI aJ aB aC aD).bind fun CV=>(fun aK aL aM aN aE aF aG aP=>Ex.qZ CV.1 (lX m .normal [aK,aL,aM,aN,aE,aF,aG] aP)) (gd CV.2.1 0) (gd CV.2.1 1) (gd CV.2.1 2) (gd CV.2.1 3) (gd CV.2.1 4) (gd CV.2.1 5) (gd CV.2.1 6) CV.2.2)
def E_ (aG:Bool) (aC:Int) (aD:(List Int)) (aE:Int) (aA:mV) (aB:Int):Option (Int×u5) :=
 tc aG (tb ((p7 8 aD [aA.off])) fun aF=>some (aB,(⟨aC,aF,aE⟩:u5))) (tb (Ms (decide (aA.kind=2)) aC aD aE aA aB) fun CV=>some (CV.1,CV.2))
set_option maxHeartbeats 4000000 in
theorem ai9 (w74:Bool) (p0:IR) (w75:Int) (w76:(List Int)) (w77:Int) (u63:mV) (w71:Int) (w51:Int) (w72:Int):(PT KK 6 (.bool w74) (.ptr 3 0) ([.cells [(.int .i64 p0.temps),(.slice (Rw mV.cells p0.arrays) .no),(.slice (Rw mF.cells p0.blocks) .no),(.int .i64 p0.inn),(.int .i64 p0.out)],.cells [(.int .i64 0),(.slice (Rw (ci .i64) []) (.own 2)),(.int .i64 0)],.front 0 0,.cells [(.int .i64 w75),(.slice (Rw (ci .i64) w76) (.own 4)),(.int .i64 w77)],oK 1 (aa8 w76),.cells [(.int .i64 u63.elem),(.int .i64 u63.len),(.int .i64 u63.kind),(.int .i64 u63.off)]]:lD) (.ptr 5 0) (.ptr 1 0) (.int .i64 0) (.int .i64 w71) (.slice (Rw mV.cells p0.arrays) .no) (.int .i64 w51) (.int .i64 w72) (.int .i64 u63.kind))=tm (E_ w74 w75 w76 w77 u63 w71) fun r=>(.normal,[(.ptr 1 0),(.int .i64 0),(.ptr 3 0),(.int .i64 r.1),(.slice (Rw mV.cells p0.arrays) .no),(.int .i64 w51),(.int .i64 w72)],([.cells [(.int .i64 p0.temps),(.slice (Rw mV.cells p0.arrays) .no),(.slice (Rw mF.cells p0.blocks) .no),(.int .i64 p0.inn),(.int .i64 p0.out)],.cells [(.int .i64 0),(.slice (Rw (ci .i64) []) (.own 2)),(.int .i64 0)],.front 0 0,.cells [(.int .i64 r.2.image),(.slice (Rw (ci .i64) r.2.arrays) (.own 4)),(.int .i64 r.2.size)],oK 1 (aa8 r.2.arrays),.cells [(.int .i64 u63.elem),(.int .i64 u63.len),(.int .i64 u63.kind),(.int .i64 u63.off)]]:lD)):=by
 cases w74 <;> simp +contextual -implicitDefEqProofs (maxSteps:=2000000) [-lM,-lF,-lE,-lG,-lK,-lI,-lH,PT,E_,afI,ajA]
def LM (K:lN) (m:Nat) (s:List lC×lD):Option R :=
 (fun aG aH aI aJ aB aC aA aP=>bo .lss aA aC fun aU=>lS aU (ix 4 aB aA fun aV=>ld true 4 aP aV fun aW=>lQ (nA 4 aP (.agg [(.int .i64 0),(.int .i64 0),(.int .i64 0),(.int .i64 0)])) fun aR aT=>(lW 4 aT aR aW).bind fun aQ=>fa 2 aR fun aX=>ld false 1 aQ aX fun aS=>bo .eql aS (.int .i64 1) fun t70=>(PT K (aa8 aQ) t70 aI aQ aR aG aH aJ aB aC aA aS).bind fun vM=>(fun aK aL aM aN aD aE aF aO=>Ex.qZ vM.1 (bo .add aF (.int .i64 1) fun t143=>lX m .normal [aK,aL,aM,aN,aD,aE,t143] aO)) (gd vM.2.1 0) (gd vM.2.1 1) (gd vM.2.1 2) (gd vM.2.1 3) (gd vM.2.1 4) (gd vM.2.1 5) (gd vM.2.1 6) vM.2.2) (lX m (.exit 0) [aG,aH,aI,aJ,aB,aC,aA] aP)) (gd s.1 0) (gd s.1 1) (gd s.1 2) (gd s.1 3) (gd s.1 4) (gd s.1 5) (gd s.1 6) s.2
def C4 (p0:IR) (aC:Int) (aA:Int×Int×u5):Option (Ey×Int×Int×u5) :=
 tc (decide (aA.2.1<aC)) (tb ((oV p0.arrays aA.2.1)) fun aB=>tb (E_ (decide (aB.kind=1)) aA.2.2.image aA.2.2.arrays aA.2.2.size aB aA.1) fun vM=>some (.n,(vM.1,(IntKind.wrap .i64 (aA.2.1+1)),vM.2))) (some ((.x 0),(aA.1,aA.2.1,aA.2.2)))
set_option maxHeartbeats 4000000 in
theorem ae6 (p0:IR) (w51:Int) (s52:Int×Int×u5):LM KK 5 ([(.ptr 1 0),(.int .i64 0),(.ptr 3 0),(.int .i64 s52.1),(.slice (Rw mV.cells p0.arrays) .no),(.int .i64 w51),(.int .i64 s52.2.1)],([.cells [(.int .i64 p0.temps),(.slice (Rw mV.cells p0.arrays) .no),(.slice (Rw mF.cells p0.blocks) .no),(.int .i64 p0.inn),(.int .i64 p0.out)],.cells [(.int .i64 0),(.slice (Rw (ci .i64) []) (.own 2)),(.int .i64 0)],.front 0 0,.cells [(.int .i64 s52.2.2.image),(.slice (Rw (ci .i64) s52.2.2.arrays) (.own 4)),(.int .i64 s52.2.2.size)],oK 1 (aa8 s52.2.2.arrays)]:lD))=tm (C4 p0 w51 s52) fun r=>(r.1.ex,[(.ptr 1 0),(.int .i64 0),(.ptr 3 0),(.int .i64 r.2.1),(.slice (Rw mV.cells p0.arrays) .no),(.int .i64 w51),(.int .i64 r.2.2.1)],([.cells [(.int .i64 p0.temps),(.slice (Rw mV.cells p0.arrays) .no),(.slice (Rw mF.cells p0.blocks) .no),(.int .i64 p0.inn),(.int .i64 p0.out)],.cells [(.int .i64 0),(.slice (Rw (ci .i64) []) (.own 2)),(.int .i64 0)],.front 0 0,.cells [(.int .i64 r.2.2.2.image),(.slice (Rw (ci .i64) r.2.2.2.arrays) (.own 4)),(.int .i64 r.2.2.2.size)],oK 1 (aa8 r.2.2.2.arrays)]:lD)):=by
 simp +contextual -implicitDefEqProofs (maxSteps:=2000000) [-lM,-lF,-lE,-lG,-lK,-lI,-lH,LM,C4,ai9]
theorem ajB (p0:IR) (w51:Int) (w50:Int) (i1:Int) (i4:Int):mX (LM KK 5) ([(.ptr 1 0),(.int .i64 0),(.ptr 3 0),(.int .i64 i1),(.slice (Rw mV.cells p0.arrays) .no),(.int .i64 w51),(.int .i64 i4)],([.cells [(.int .i64 p0.temps),(.slice (Rw mV.cells p0.arrays) .no),(.slice (Rw mF.cells p0.blocks) .no),(.int .i64 p0.inn),(.int .i64 p0.out)],.cells [(.int .i64 0),(.slice (Rw (ci .i64) []) (.own 2)),(.int .i64 0)],.front 0 0,.cells [(.int .i64 w50),(.slice (Rw (ci .i64) []) (.own 4)),(.int .i64 0)],.front 0 0]:lD))=tm (tY (C4 p0 w51) (i1,i4,(⟨w50,[],0⟩:u5))) fun r=>(r.1.ex,[(.ptr 1 0),(.int .i64 0),(.ptr 3 0),(.int .i64 r.2.1),(.slice (Rw mV.cells p0.arrays) .no),(.int .i64 w51),(.int .i64 r.2.2.1)],([.cells [(.int .i64 p0.temps),(.slice (Rw mV.cells p0.arrays) .no),(.slice (Rw mF.cells p0.blocks) .no),(.int .i64 p0.inn),(.int .i64 p0.out)],.cells [(.int .i64 0),(.slice (Rw (ci .i64) []) (.own 2)),(.int .i64 0)],.front 0 0,.cells [(.int .i64 r.2.2.2.image),(.slice (Rw (ci .i64) r.2.2.2.arrays) (.own 4)),(.int .i64 r.2.2.2.size)],oK 1 (aa8 r.2.2.2.arrays)]:lD)):=by
 exact uP (enc:=fun s52=>([(.ptr 1 0),(.int .i64 0),(.ptr 3 0),(.int .i64 s52.1),(.slice (Rw mV.cells p0.arrays) .no),(.int .i64 w51),(.int .i64 s52.2.1)],([.cells [(.int .i64 p0.temps),(.slice (Rw mV.cells p0.arrays) .no),(.slice (Rw mF.cells p0.blocks) .no),(.int .i64 p0.inn),(.int .i64 p0.out)],.cells [(.int .i64 0),(.slice (Rw (ci .i64) []) (.own 2)),(.int .i64 0)],.front 0 0,.cells [(.int .i64 s52.2.2.image),(.slice (Rw (ci .i64) s52.2.2.arrays) (.own 4)),(.int .i64 s52.2.2.size)],oK 1 (aa8 s52.2.2.arrays)]:lD))) (fun s52=>ae6 p0 w51 s52) (i1,i4,(⟨w50,[],0⟩:u5))
def m23 (K:lN) (a0:lC) (h0:lD):Option (nB×lD) :=
 (lQ (nA 5 h0 a0) fun aH a_=>lQ (nA 3 a_ (.agg [(.int .i64 0),(.slice (Rw (ci .i64) []) .nil),(.int .i64 0)])) fun aW aX=>ld true 5 aX aH fun t24=>ca (K 9 [(lC.lL t24)] aX) fun aY aP=>bo .neq aY (.int .i64 0) fun t28=>lS t28 ((mD [(.int .i64 0),(.slice (Rw (ci .i64) []) .nil),(.int .i64 0)] [(0,1),(1,1),(2,1)] []).bind fun t29=>(lW 3 aP aW t29).bind fun bB=>some (.ret,[aW,aY],bB)) (fa 0 aH fun t31=>ld false 1 aP t31 fun t32=>bo .mul (.int .i64 4) t32 fun bD=>bo .add (.int .i64 4) bD fun bE=>(mD [(.int .i64 0),(.slice (Rw (ci .i64) []) .nil),(.int .i64 0)] [(0,1),(1,1),(2,1)] [(0,bE)]).bind fun bF=>lQ (nA 3 aP (.agg [(.int .i64 0),(.slice (Rw (ci .i64) []) .nil),(.int .i64 0)])) fun t36 bC=>(lW 3 bC t36 bF).bind fun aG=>fa 0 t36 fun bG=>ld false 1 aG bG fun bH=>fa 4 aH fun bI=>ld false 1 aG bI fun bJ=>bo .add bH bJ fun bK=>fa 1 aH fun bL=>ld false 1 aG bL fun aZ=>ln aZ fun bM=>(mX (LM K (aa8 aG)) ([aW,(.int .i64 0),t36,bK,aZ,bM,(.int .i64 0)],aG)).bind fun Bo=>(fun aA aD aB aE aI aJ aK aF=>Ex.mO Bo.1 none (fun aL=>Ex.inBlock 0 aL (fa 2 aB fun aQ=>(lW 1 aF aQ aE).bind fun aC=>fa 2 aB fun aR=>ld false 1 aC aR fun aS=>bo .gtr aS (.int .i64 65536) fun aT=>lS aT ((mD [(.int .i64 0),(.slice (Rw (ci .i64) []) .nil),(.int .i64 0)] [(0,1),(1,1),(2,1)] []).bind fun aU=>(lW 3 aC aA aU).bind fun aN=>some (.ret,[aA,(.int .i64 18)],aN)) (ld true 3 aC aB fun aV=>(lW 3 aC aA aV).bind fun aO=>some (.ret,[aA,(.int .i64 0)],aO))) (fun aM=>some (aM,[aA,aD],aF)))) (gd Bo.2.1 0) (gd Bo.2.1 1) (gd Bo.2.1 2) (gd Bo.2.1 3) (gd Bo.2.1 4) (gd Bo.2.1 5) (gd Bo.2.1 6) Bo.2.2)).bind (adN (aa8 h0))
theorem ahU (K:lN) (a0:lC) (h0:lD):qG Tryz.prog mY mX K 23 [a0] h0=m23 (mH mY K) a0 h0:=by kernel_rfl
def t23 (p0:IR):Option (u5×Int) :=
 tb ((t9 p0)) fun aC=>tc (!decide (aC=0)) (some ((⟨0,[],0⟩:u5),aC)) (tb (tY (C4 p0 ((aa8 p0.arrays:Nat):Int)) ((IntKind.wrap .i64 ((IntKind.wrap .i64 (4+(IntKind.wrap .i64 (4*p0.temps))))+p0.out)),0,(⟨(IntKind.wrap .i64 (4+(IntKind.wrap .i64 (4*p0.temps)))),[],0⟩:u5))) fun Bo=>xD Bo.1 none fun aA=>xF 0 aA (tc (decide (65536<Bo.2.1)) (some ((⟨0,[],0⟩:u5),18)) (some ((⟨Bo.2.2.2.image,Bo.2.2.2.arrays,Bo.2.1⟩:u5),0))) fun aB=>JC aB (some ((⟨0,[],0⟩:u5),0)))
set_option maxHeartbeats 4000000 in
theorem b23 (p0:IR):m23 KK (.agg [(.int .i64 p0.temps),(.slice (Rw mV.cells p0.arrays) .no),(.slice (Rw mF.cells p0.blocks) .no),(.int .i64 p0.inn),(.int .i64 p0.out)]) []=tm (t23 p0) fun r=>(.ret (.tuple [(.agg [(.int .i64 r.1.image),(.slice (Rw (ci .i64) r.1.arrays) .no),(.int .i64 r.1.size)]),(.int .i64 r.2)]),[]):=by
 simp +contextual -implicitDefEqProofs (maxSteps:=2000000) [-lM,-lF,-lE,-lG,-lK,-lI,-lH,m23,t23,r9,ajB,adN]
theorem Sp (p0:IR) (h:lD):KK 23 [(.agg [(.int .i64 p0.temps),(.slice (Rw mV.cells p0.arrays) .no),(.slice (Rw mF.cells p0.blocks) .no),(.int .i64 p0.inn),(.int .i64 p0.out)])] h=tm (t23 p0) fun r=>(.ret (.tuple [(.agg [(.int .i64 r.1.image),(.slice (Rw (ci .i64) r.1.arrays) .no),(.int .i64 r.1.size)]),(.int .i64 r.2)]),h):=nZ rfl rfl (ahU ..) (b23 p0)
def V4 (mm:Nat) (aB:R):Option (nB×lD) :=
 (fun aA aC=>Ex.nR aB.1 (nJ mm aA aC)) (gd aB.2.1 0) aB.2.2
def ag6 (K:lN) (a0:lC) (h0:lD):Option (nB×lD) :=
 (bo .eql a0 (.int .i64 0) fun aA=>lS aA (some (.ret,[(.int .i64 537133056)],h0)) (bo .eql a0 (.int .i64 1) fun aB=>lS aB (some (.ret,[(.int .i64 537395200)],h0)) (some (.ret,[(.int .i64 0)],h0)))).bind (V4 (aa8 h0))
theorem Z3 (K:lN) (a0:lC) (h0:lD):qG Tryz.prog mY mX K 135 [a0] h0=ag6 (mH mY K) a0 h0:=by kernel_rfl
def t135 (p0:Int):Option (Int) :=
 tc (decide (p0=0)) (some 537133056) (tc (decide (p0=1)) (some 537395200) (some 0))
set_option maxHeartbeats 4000000 in
theorem atN (p0:Int):ag6 KK (.int .i64 p0) []=tm (t135 p0) fun r=>(.ret (.int .i64 r),[]):=by
 simp +contextual -implicitDefEqProofs (maxSteps:=2000000) [-lM,-lF,-lE,-lG,-lK,-lI,-lH,ag6,t135,V4]
theorem CW (p0:Int) (h:lD):KK 135 [(.int .i64 p0)] h=tm (t135 p0) fun r=>(.ret (.int .i64 r),h):=nZ rfl rfl (Z3 ..) (atN p0)
def Sa (mm:Nat) (aB:R):Option (nB×lD) :=
 (fun aA aC=>Ex.nR aB.1 (Je mm aA aC)) (gd aB.2.1 0) aB.2.2
theorem U9 (y0:Int) (y1:Int) (y2:Int) (y3:Int) (y4:Int) (y5:Int) (y6:Int) (y7:Bool) (y8:Int) (y9:Int) (y10:Int) (y11:Int) (y12:Int) (y13:Int) (y14:Int) (y15:Bool) (h:lD):lR 2 8 [(.int .i64 0),(.int .i64 0),(.int .i64 0),(.int .i64 0),(.int .i64 0),(.int .i64 0),(.int .i64 0),(.bool false)] [(0,(.agg [(.int .i64 y0),(.int .i64 y1),(.int .i64 y2),(.int .i64 y3),(.int .i64 y4),(.int .i64 y5),(.int .i64 y6),(.bool y7)])),(1,(.agg [(.int .i64 y8),(.int .i64 y9),(.int .i64 y10),(.int .i64 y11),(.int .i64 y12),(.int .i64 y13),(.int .i64 y14),(.bool y15)]))] h=some (.slice (Rw Ins.cells [(⟨y0,y1,y2,y3,y4,y5,y6,y7⟩:Ins),(⟨y8,y9,y10,y11,y12,y13,y14,y15⟩:Ins)]) (.own h.length),h++[oK 8 2]):=by
 rfl
def Qu (K:lN) (t28:lC) (aA:lD) (a1:lC) (a0:lC):Option R :=
 lS t28 ((fun(aD:lC) (aB:lD)=>some (.ret,[aD],aB)) (.slice (Rw Ins.cells []) (.own (aa8 aA))) (aA++[.front 0 0])) (bo .and a1 (.int .i64 65535) fun aE=>(mD [(.int .i64 0),(.int .i64 0),(.int .i64 0),(.int .i64 0),(.int .i64 0),(.int .i64 0),(.int .i64 0),(.bool false)] [(0,1),(1,1),(2,1),(3,1),(4,1),(5,1),(6,1),(7,1)] [(0,(.int .i64 3)),(1,a0),(5,aE)]).bind fun aF=>bo .shr a1 (.int .u64 16) fun t36=>bo .and t36 (.int .i64 65535) fun aG=>(mD [(.int .i64 0),(.int .i64 0),(.int .i64 0),(.int .i64 0),(.int .i64 0),(.int .i64 0),(.int .i64 0),(.bool false)] [(0,1),(1,1),(2,1),(3,1),(4,1),(5,1),(6,1),(7,1)] [(0,(.int .i64 4)),(1,a0),(5,aG)]).bind fun aH=>lQ (lR 2 8 [(.int .i64 0),(.int .i64 0),(.int .i64 0),(.int .i64 0),(.int .i64 0),(.int .i64 0),(.int .i64 0),(.bool false)] [(0,aF),(1,aH)] aA) fun aI aC=>some (.ret,[aI],aC))
def Iw (aB:Bool) (p1:Int) (p0:Int):Option ((List Ins)) :=
 tc aB (some []) (tb ((Rk .i64 p1 16)) fun aA=>some [(⟨3,p0,0,0,0,(Jm .i64 p1 65535),0,false⟩:Ins),(⟨4,p0,0,0,0,(Jm .i64 aA 65535),0,false⟩:Ins)])
set_option maxHeartbeats 4000000 in
theorem ajQ (w31:Bool) (p1:Int) (p0:Int):((Qu KK (.bool w31) ([.front 0 0]:lD) (.int .i64 p1) (.int .i64 p0))).bind (Sa 0)=tm (Iw w31 p1 p0) fun r=>(.ret (.slice (Rw Ins.cells r) (.own 0)),[oK 8 (aa8 r)]):=by
 cases w31 <;> simp +contextual -implicitDefEqProofs (maxSteps:=2000000) [-lM,-lF,-lE,-lG,-lK,-lI,-lH,Qu,Iw,U9,Sa]
def m60 (K:lN) (a0 a1:lC) (h0:lD):Option (nB×lD) :=
 ((fun(aF:lC) (aB:lD)=>bo .lss a0 (.int .i64 0) fun aA=>gS false aA (lV a0 aB) aB fun t23 aC=>gS false aA (bo .gtr t23 (.int .i64 7) fun aE=>lV aE aC) aC fun t26 aD=>(mJ aA (.bool true) t26).bind fun t28=>Qu K t28 aD a1 a0) (.slice (Rw Ins.cells []) (.own (aa8 h0))) (h0++[.front 0 0])).bind (Sa (aa8 h0))
theorem aiI (K:lN) (a0 a1:lC) (h0:lD):qG Tryz.prog mY mX K 60 [a0,a1] h0=m60 (mH mY K) a0 a1 h0:=by kernel_rfl
def t60 (p0:Int) (p1:Int):Option ((List Ins)) :=
 tc (decide (p0<0)) (Iw true p1 p0) (Iw (decide (7<p0)) p1 p0)
set_option maxHeartbeats 4000000 in
theorem b60 (p0:Int) (p1:Int):m60 KK (.int .i64 p0) (.int .i64 p1) []=tm (t60 p0 p1) fun r=>(.ret (.slice (Rw Ins.cells r) (.own 0)),[oK 8 (aa8 r)]):=by
 simp +contextual -implicitDefEqProofs (maxSteps:=2000000) [-lM,-lF,-lE,-lG,-lK,-lI,-lH,m60,t60,U9,Sa,ajQ]
theorem Ei (p0:Int) (p1:Int) (h:lD):KK 60 [(.int .i64 p0),(.int .i64 p1)] h=tm (t60 p0 p1) fun r=>(.ret (.slice (Rw Ins.cells r) (.own (aa8 h))),h++[oK 8 (aa8 r)]):=F_ rfl rfl (aiI ..) (b60 p0 p1) fun r=>wN
def yO (mm:Nat) (aB:R):Option (nB×lD) :=
 (fun aA aC=>Ex.nR aB.1 (nJ mm aA aC)) (gd aB.2.1 0) aB.2.2
def Lp (K:lN) (aB:lC) (aA:lD):Option R :=
 some (.ret,[aB],aA)
def DX (aA:Bool):Option (Bool) :=
 some aA
set_option maxHeartbeats 4000000 in
theorem Gn (w66:Bool):((Lp KK (.bool w66) ([]:lD))).bind (yO 0)=tm (DX w66) fun r=>(.ret (.bool r),[]):=by
 cases w66 <;> simp +contextual -implicitDefEqProofs (maxSteps:=2000000) [-lM,-lF,-lE,-lG,-lK,-lI,-lH,Lp,DX,yO]
def Lo (K:lN) (aA:lC) (a2:lC) (aB:lD):Option R :=
 gS true aA (lV a2 aB) aB fun aE aC=>gS true aA (bo .leq aE (.int .i64 7) fun t60=>lV t60 aC) aC fun aF aD=>(mJ aA aF (.bool false)).bind fun aG=>Lp K aG aD
def DW (aA:Bool) (p2:Int):Option (Bool) :=
 tc aA (DX (decide (p2≤7))) (DX false)
set_option maxHeartbeats 4000000 in
theorem Mf (w57:Bool) (p2:Int):((Lo KK (.bool w57) (.int .i64 p2) ([]:lD))).bind (yO 0)=tm (DW w57 p2) fun r=>(.ret (.bool r),[]):=by
 cases w57 <;> simp +contextual -implicitDefEqProofs (maxSteps:=2000000) [-lM,-lF,-lE,-lG,-lK,-lI,-lH,Lo,DW,yO,Gn]
def Ln (K:lN) (aA:lC) (a2:lC) (aB:lD):Option R :=
 gS true aA (lV a2 aB) aB fun aE aC=>gS true aA (bo .geq aE (.int .i64 0) fun aF=>lV aF aC) aC fun aG aD=>(mJ aA aG (.bool false)).bind fun aH=>Lo K aH a2 aD
def B3 (aA:Bool) (p2:Int):Option (Bool) :=
 tc aA (DW (decide (0≤p2)) p2) (DW false p2)
set_option maxHeartbeats 4000000 in
theorem Sl (w48:Bool) (p2:Int):((Ln KK (.bool w48) (.int .i64 p2) ([]:lD))).bind (yO 0)=tm (B3 w48 p2) fun r=>(.ret (.bool r),[]):=by
 cases w48 <;> simp +contextual -implicitDefEqProofs (maxSteps:=2000000) [-lM,-lF,-lE,-lG,-lK,-lI,-lH,Ln,B3,yO,Gn,Mf]
def Lm (K:lN) (t26:lC) (a1:lC) (aB:lD) (a2:lC):Option R :=
 gS true t26 (lV a1 aB) aB fun t30 aC=>gS true t26 (bo .eql t30 (.int .i64 0) fun t32=>lV t32 aC) aC fun aI aD=>gS true t26 (lV aI aD) aD fun aA aE=>gS false aA (lV a1 aE) aE fun aJ aF=>gS false aA (bo .eql aJ (.int .i64 1) fun aK=>lV aK aF) aF fun aL aG=>gS true t26 ((mJ aA (.bool true) aL).bind fun aM=>lV aM aG) aG fun aN aH=>(mJ t26 aN (.bool false)).bind fun aO=>Ln K aO a2 aH
def DV (aA:Bool) (p1:Int) (p2:Int):Option (Bool) :=
 tc aA (tc (decide (p1=0)) (B3 true p2) (B3 (decide (p1=1)) p2)) (B3 false p2)
set_option maxHeartbeats 4000000 in
theorem aaT (w29:Bool) (p1:Int) (p2:Int):((Lm KK (.bool w29) (.int .i64 p1) ([]:lD) (.int .i64 p2))).bind (yO 0)=tm (DV w29 p1 p2) fun r=>(.ret (.bool r),[]):=by
 cases w29 <;> simp +contextual -implicitDefEqProofs (maxSteps:=2000000) [-lM,-lF,-lE,-lG,-lK,-lI,-lH,Lm,DV,yO,Gn,Mf,Sl]
def ag5 (K:lN) (a0 a1 a2:lC) (h0:lD):Option (nB×lD) :=
 (bo .geq a0 (.int .i64 0) fun aA=>gS true aA (lV a0 h0) h0 fun aD aB=>gS true aA (bo .leq aD (.int .i64 65535) fun t23=>lV t23 aB) aB fun t24 aC=>(mJ aA t24 (.bool false)).bind fun t26=>Lm K t26 a1 aC a2).bind (yO (aa8 h0))
theorem Z2 (K:lN) (a0 a1 a2:lC) (h0:lD):qG Tryz.prog mY mX K 134 [a0,a1,a2] h0=ag5 (mH mY K) a0 a1 a2 h0:=by kernel_rfl
def t134 (p0:Int) (p1:Int) (p2:Int):Option (Bool) :=
 tc (decide (0≤p0)) (DV (decide (p0≤65535)) p1 p2) (DV false p1 p2)
set_option maxHeartbeats 4000000 in
theorem atM (p0:Int) (p1:Int) (p2:Int):ag5 KK (.int .i64 p0) (.int .i64 p1) (.int .i64 p2) []=tm (t134 p0 p1 p2) fun r=>(.ret (.bool r),[]):=by
 simp +contextual -implicitDefEqProofs (maxSteps:=2000000) [-lM,-lF,-lE,-lG,-lK,-lI,-lH,ag5,t134,yO,Gn,Mf,Sl,aaT]
theorem vM (p0:Int) (p1:Int) (p2:Int) (h:lD):KK 134 [(.int .i64 p0),(.int .i64 p1),(.int .i64 p2)] h=tm (t134 p0 p1 p2) fun r=>(.ret (.bool r),h):=nZ rfl rfl (Z2 ..) (atM p0 p1 p2)
def VX (mm:Nat) (aB:R):Option (nB×lD) :=
 (fun aA aC=>Ex.nR aB.1 (Je mm aA aC)) (gd aB.2.1 0) aB.2.2
theorem Y1 (y0:Int) (y1:Int) (y2:Int) (y3:Int) (y4:Int) (y5:Int) (y6:Int) (y7:Bool) (h:lD):lR 1 8 [(.int .i64 0),(.int .i64 0),(.int .i64 0),(.int .i64 0),(.int .i64 0),(.int .i64 0),(.int .i64 0),(.bool false)] [(0,(.agg [(.int .i64 y0),(.int .i64 y1),(.int .i64 y2),(.int .i64 y3),(.int .i64 y4),(.int .i64 y5),(.int .i64 y6),(.bool y7)]))] h=some (.slice (Rw Ins.cells [(⟨y0,y1,y2,y3,y4,y5,y6,y7⟩:Ins)]) (.own h.length),h++[oK 8 1]):=by
 rfl
def agZ (K:lN) (a0 a1 a2:lC) (h0:lD):Option (nB×lD) :=
 ((fun(aM:lC) (aB:lD)=>ca (K 134 [(lC.lL a0),(lC.lL a1),(lC.lL a2)] aB) fun aH aA=>(xX .not aH).bind fun aI=>lS aI ((fun(aJ:lC) (aC:lD)=>some (.ret,[aJ],aC)) (.slice (Rw Ins.cells []) (.own (aa8 aA))) (aA++[.front 0 0])) (ca (K 135 [(lC.lL a1)] aA) fun t28 aD=>bo .add t28 a0 fun t31=>ca (K 60 [(lC.lL (.int .i64 7)),(lC.lL t31)] aD) fun t32 aE=>(mD [(.int .i64 0),(.int .i64 0),(.int .i64 0),(.int .i64 0),(.int .i64 0),(.int .i64 0),(.int .i64 0),(.bool false)] [(0,1),(1,1),(2,1),(3,1),(4,1),(5,1),(6,1),(7,1)] [(0,(.int .i64 19)),(1,a2),(2,(.int .i64 7))]).bind fun aK=>lQ (lR 1 8 [(.int .i64 0),(.int .i64 0),(.int .i64 0),(.int .i64 0),(.int .i64 0),(.int .i64 0),(.int .i64 0),(.bool false)] [(0,aK)] aE) fun t36 aF=>lQ (nC 8 64 aF t32 t36) fun aL aG=>some (.ret,[aL],aG))) (.slice (Rw Ins.cells []) (.own (aa8 h0))) (h0++[.front 0 0])).bind (VX (aa8 h0))
theorem ZW (K:lN) (a0 a1 a2:lC) (h0:lD):qG Tryz.prog mY mX K 129 [a0,a1,a2] h0=agZ (mH mY K) a0 a1 a2 h0:=by kernel_rfl
def t129 (p0:Int) (p1:Int) (p2:Int):Option ((List Ins)) :=
 tb ((t134 p0 p1 p2)) fun Ap=>tc (!Ap) (some []) (tb ((t135 p1)) fun Eh=>tb ((t60 7 (IntKind.wrap .i64 (Eh+p0)))) fun aB=>tb ((p7 64 aB [(⟨19,p2,7,0,0,0,0,false⟩:Ins)])) fun aA=>some aA)
set_option maxHeartbeats 4000000 in
theorem atG (p0:Int) (p1:Int) (p2:Int):agZ KK (.int .i64 p0) (.int .i64 p1) (.int .i64 p2) []=tm (t129 p0 p1 p2) fun r=>(.ret (.slice (Rw Ins.cells r) (.own 0)),[oK 8 (aa8 r)]):=by
 simp +contextual -implicitDefEqProofs (maxSteps:=2000000) [-lM,-lF,-lE,-lG,-lK,-lI,-lH,agZ,t129,vM,CW,Ei,Y1,VX]
theorem aaO (p0:Int) (p1:Int) (p2:Int) (h:lD):KK 129 [(.int .i64 p0),(.int .i64 p1),(.int .i64 p2)] h=tm (t129 p0 p1 p2) fun r=>(.ret (.slice (Rw Ins.cells r) (.own (aa8 h))),h++[oK 8 (aa8 r)]):=F_ rfl rfl (ZW ..) (atG p0 p1 p2) fun r=>wN
def V7 (mm:Nat) (aB:R):Option (nB×lD) :=
 (fun aA aC=>Ex.nR aB.1 (nJ mm aA aC)) (gd aB.2.1 0) aB.2.2
theorem Zc (y0:Int) (y1:Int) (y2:Int) (y3:Int) (y4:Int) (y5:Int) (y6:Int) (y7:Bool) (h:lD):lR 1 8 [(.int .i64 0),(.int .i64 0),(.int .i64 0),(.int .i64 0),(.int .i64 0),(.int .i64 0),(.int .i64 0),(.bool false)] [(0,(.agg [(.int .i64 y0),(.int .i64 y1),(.int .i64 y2),(.int .i64 y3),(.int .i64 y4),(.int .i64 y5),(.int .i64 y6),(.bool y7)]))] h=some (.slice (Rw Ins.cells [(⟨y0,y1,y2,y3,y4,y5,y6,y7⟩:Ins)]) (.own h.length),h++[oK 8 1]):=by
 rfl
def ahA (K:lN) (a0 a1 a2:lC) (h0:lD):Option (nB×lD) :=
 ((fun(aM:lC) (aB:lD)=>ca (K 134 [(lC.lL a0),(lC.lL a1),(lC.lL a2)] aB) fun aH aA=>(xX .not aH).bind fun aI=>lS aI ((fun(aJ:lC) (aC:lD)=>some (.ret,[aJ],aC)) (.slice (Rw Ins.cells []) (.own (aa8 aA))) (aA++[.front 0 0])) (ca (K 135 [(lC.lL a1)] aA) fun t28 aD=>bo .add t28 a0 fun t31=>ca (K 60 [(lC.lL (.int .i64 7)),(lC.lL t31)] aD) fun t32 aE=>(mD [(.int .i64 0),(.int .i64 0),(.int .i64 0),(.int .i64 0),(.int .i64 0),(.int .i64 0),(.int .i64 0),(.bool false)] [(0,1),(1,1),(2,1),(3,1),(4,1),(5,1),(6,1),(7,1)] [(0,(.int .i64 20)),(1,a2),(2,(.int .i64 7))]).bind fun aK=>lQ (lR 1 8 [(.int .i64 0),(.int .i64 0),(.int .i64 0),(.int .i64 0),(.int .i64 0),(.int .i64 0),(.int .i64 0),(.bool false)] [(0,aK)] aE) fun t36 aF=>lQ (nC 8 64 aF t32 t36) fun aL aG=>some (.ret,[aL],aG))) (.slice (Rw Ins.cells []) (.own (aa8 h0))) (h0++[.front 0 0])).bind (V7 (aa8 h0))
theorem Z7 (K:lN) (a0 a1 a2:lC) (h0:lD):qG Tryz.prog mY mX K 139 [a0,a1,a2] h0=ahA (mH mY K) a0 a1 a2 h0:=by kernel_rfl
def t139 (p0:Int) (p1:Int) (p2:Int):Option ((List Ins)) :=
 tb ((t134 p0 p1 p2)) fun Ap=>tc (!Ap) (some []) (tb ((t135 p1)) fun Eh=>tb ((t60 7 (IntKind.wrap .i64 (Eh+p0)))) fun aB=>tb ((p7 64 aB [(⟨20,p2,7,0,0,0,0,false⟩:Ins)])) fun aA=>some aA)
set_option maxHeartbeats 4000000 in
theorem atS (p0:Int) (p1:Int) (p2:Int):ahA KK (.int .i64 p0) (.int .i64 p1) (.int .i64 p2) []=tm (t139 p0 p1 p2) fun r=>(.ret (.slice (Rw Ins.cells r) .no),[]):=by
 simp +contextual -implicitDefEqProofs (maxSteps:=2000000) [-lM,-lF,-lE,-lG,-lK,-lI,-lH,ahA,t139,vM,CW,Ei,Zc,V7]
theorem CX (p0:Int) (p1:Int) (p2:Int) (h:lD):KK 139 [(.int .i64 p0),(.int .i64 p1),(.int .i64 p2)] h=tm (t139 p0 p1 p2) fun r=>(.ret (.slice (Rw Ins.cells r) .no),h):=nZ rfl rfl (Z7 ..) (atS p0 p1 p2)
def R9 (mm:Nat) (aB:R):Option (nB×lD) :=
 (fun aA aC=>Ex.nR aB.1 (nJ mm aA aC)) (gd aB.2.1 0) aB.2.2
def Qt (K:lN) (aB:lC) (aA:lD):Option R :=
 some (.ret,[aB],aA)
def Iu (aA:Bool):Option (Bool) :=
 some aA
set_option maxHeartbeats 4000000 in
theorem ajP (w37:Bool) (p0:Op):((Qt KK (.bool w37) ([.cells [(.int .i64 p0.kind),(.int .i64 p0.dst),(.int .i64 p0.a),(.int .i64 p0.b),(.int .i64 p0.c),(.int .i64 p0.imm)]]:lD))).bind (R9 0)=tm (Iu w37) fun r=>(.ret (.bool r),[]):=by
 cases w37 <;> simp +contextual -implicitDefEqProofs (maxSteps:=2000000) [-lM,-lF,-lE,-lG,-lK,-lI,-lH,Qt,Iu,R9]
def m53 (K:lN) (a0:lC) (h0:lD):Option (nB×lD) :=
 (lQ (nA 6 h0 a0) fun aD aA=>fa 0 aD fun aF=>ld false 1 aA aF fun t23=>bo .eql t23 (.int .i64 18) fun t24=>gS false t24 (fa 0 aD fun aG=>lV aG aA) aA fun t26 aB=>gS false t24 (ld false 1 aB t26 fun t28=>lV t28 aB) aB fun t29 aC=>gS false t24 (bo .eql t29 (.int .i64 19) fun t31=>lV t31 aC) aC fun t32 aE=>(mJ t24 (.bool true) t32).bind fun aH=>Qt K aH aE).bind (R9 (aa8 h0))
theorem aiH (K:lN) (a0:lC) (h0:lD):qG Tryz.prog mY mX K 53 [a0] h0=m53 (mH mY K) a0 h0:=by kernel_rfl
def t53 (p0:Op):Option (Bool) :=
 tc (decide (p0.kind=18)) (Iu true) (Iu (decide (p0.kind=19)))
set_option maxHeartbeats 4000000 in
theorem b53 (p0:Op):m53 KK (.agg [(.int .i64 p0.kind),(.int .i64 p0.dst),(.int .i64 p0.a),(.int .i64 p0.b),(.int .i64 p0.c),(.int .i64 p0.imm)]) []=tm (t53 p0) fun r=>(.ret (.bool r),[]):=by
 simp +contextual -implicitDefEqProofs (maxSteps:=2000000) [-lM,-lF,-lE,-lG,-lK,-lI,-lH,m53,t53,R9,ajP]
theorem Ml (p0:Op) (h:lD):KK 53 [(.agg [(.int .i64 p0.kind),(.int .i64 p0.dst),(.int .i64 p0.a),(.int .i64 p0.b),(.int .i64 p0.c),(.int .i64 p0.imm)])] h=tm (t53 p0) fun r=>(.ret (.bool r),h):=nZ rfl rfl (aiH ..) (b53 p0)
def FF (mm:Nat) (aA:R):Option (nB×lD) :=
 (fun aB aC=>Ex.nR aA.1 ((lP true 3 aC aB).bind fun aD=>nJ mm aD aC)) (gd aA.2.1 0) aA.2.2
def PY (K:lN) (aO:lC) (aB:lD) (t24:lC) (aK:lC) (a0:lC) (aN:lC):Option R :=
 lS aO ((mD [(.int .i64 0),(.int .i64 0),(.bool false)] [(0,1),(1,1),(2,1)] []).bind fun aP=>(lW 3 aB t24 aP).bind fun aL=>some (.ret,[t24],aL)) (fa 5 aK fun aQ=>ld false 1 aB aQ fun aR=>ix 4 a0 aR fun aS=>ld true 4 aB aS fun aT=>lQ (nA 4 aB (.agg [(.int .i64 0),(.int .i64 0),(.int .i64 0),(.int .i64 0)])) fun aJ aM=>(lW 4 aM aJ aT).bind fun aA=>fa 0 aJ fun aU=>ld false 1 aA aU fun aV=>fa 1 aN fun aW=>ld false 1 aA aW fun aX=>fa 5 aK fun aY=>ld false 1 aA aY fun aZ=>ix 1 aX aZ fun aD=>ld false 1 aA aD fun aE=>fa 2 aJ fun aF=>ld false 1 aA aF fun aG=>bo .eql aG (.int .i64 1) fun aH=>(mD [(.int .i64 0),(.int .i64 0),(.bool false)] [(0,1),(1,1),(2,1)] [(0,aV),(1,aE),(2,aH)]).bind fun aI=>(lW 3 aA t24 aI).bind fun aC=>some (.ret,[t24],aC))
def Io (aC:Bool) (p1:u5) (p2:Op) (p0:(List mV)):Option (oE) :=
 tc aC (some (⟨0,0,false⟩:oE)) (tb ((oV p0 p2.imm)) fun aB=>tb ((oV p1.arrays p2.imm)) fun aA=>some (⟨aB.elem,aA,(decide (aB.kind=1))⟩:oE))
set_option maxHeartbeats 4000000 in
theorem QP (w83:Bool) (p1:u5) (p2:Op) (p0:(List mV)):((PY KK (.bool w83) ([.cells [(.int .i64 p1.image),(.slice (Rw (ci .i64) p1.arrays) .no),(.int .i64 p1.size)],.cells [(.int .i64 p2.kind),(.int .i64 p2.dst),(.int .i64 p2.a),(.int .i64 p2.b),(.int .i64 p2.c),(.int .i64 p2.imm)],.cells [(.int .i64 0),(.int .i64 0),(.bool false)]]:lD) (.ptr 2 0) (.ptr 1 0) (.slice (Rw mV.cells p0) .no) (.ptr 0 0))).bind (FF 0)=tm (Io w83 p1 p2 p0) fun r=>(.ret (.agg [(.int .i64 r.elem),(.int .i64 r.off),(.bool r.inp)]),[]):=by
 cases w83 <;> simp +contextual -implicitDefEqProofs (maxSteps:=2000000) [-lM,-lF,-lE,-lG,-lK,-lI,-lH,PY,Io,Ml,FF]
def PX (K:lN) (aA:lC) (aI:lC) (aD:lD) (aH:lC) (t24:lC) (a0:lC):Option R :=
 gS false aA (fa 5 aI fun aK=>lV aK aD) aD fun aL aB=>gS false aA (ld false 1 aB aL fun aM=>lV aM aB) aB fun aN aE=>gS false aA (fa 1 aH fun aO=>lV aO aE) aE fun aP aC=>gS false aA (ld false 1 aC aP fun aQ=>lV aQ aC) aC fun aR aF=>gS false aA (ln aR fun aS=>lV aS aF) aF fun aT aG=>gS false aA (bo .geq aN aT fun aU=>lV aU aG) aG fun aV aJ=>(mJ aA (.bool true) aV).bind fun aW=>PY K aW aJ t24 aI a0 aH
def Fb (aA:Bool) (p1:u5) (p2:Op) (p0:(List mV)):Option (oE) :=
 tc aA (Io true p1 p2 p0) (Io (decide (((aa8 p1.arrays:Nat):Int)≤p2.imm)) p1 p2 p0)
set_option maxHeartbeats 4000000 in
theorem Xb (w61:Bool) (p1:u5) (p2:Op) (p0:(List mV)):((PX KK (.bool w61) (.ptr 1 0) ([.cells [(.int .i64 p1.image),(.slice (Rw (ci .i64) p1.arrays) .no),(.int .i64 p1.size)],.cells [(.int .i64 p2.kind),(.int .i64 p2.dst),(.int .i64 p2.a),(.int .i64 p2.b),(.int .i64 p2.c),(.int .i64 p2.imm)],.cells [(.int .i64 0),(.int .i64 0),(.bool false)]]:lD) (.ptr 0 0) (.ptr 2 0) (.slice (Rw mV.cells p0) .no))).bind (FF 0)=tm (Fb w61 p1 p2 p0) fun r=>(.ret (.agg [(.int .i64 r.elem),(.int .i64 r.off),(.bool r.inp)]),[]):=by
 cases w61 <;> simp +contextual -implicitDefEqProofs (maxSteps:=2000000) [-lM,-lF,-lE,-lG,-lK,-lI,-lH,PX,Fb,Ml,FF,QP]
def PW (K:lN) (aA:lC) (aG:lC) (aC:lD) (a0:lC) (aI:lC) (t24:lC):Option R :=
 gS false aA (fa 5 aG fun aJ=>lV aJ aC) aC fun aK aB=>gS false aA (ld false 1 aB aK fun aL=>lV aL aB) aB fun aM aD=>gS false aA (lV a0 aD) aD fun aN aE=>gS false aA (ln aN fun aO=>lV aO aE) aE fun t53 aF=>gS false aA (bo .geq aM t53 fun aP=>lV aP aF) aF fun aQ aH=>(mJ aA (.bool true) aQ).bind fun aR=>PX K aR aG aH aI t24 a0
def Fa (aA:Bool) (p1:u5) (p2:Op) (p0:(List mV)):Option (oE) :=
 tc aA (Fb true p1 p2 p0) (Fb (decide (((aa8 p0:Nat):Int)≤p2.imm)) p1 p2 p0)
set_option maxHeartbeats 4000000 in
theorem ajC (w43:Bool) (p1:u5) (p2:Op) (p0:(List mV)):((PW KK (.bool w43) (.ptr 1 0) ([.cells [(.int .i64 p1.image),(.slice (Rw (ci .i64) p1.arrays) .no),(.int .i64 p1.size)],.cells [(.int .i64 p2.kind),(.int .i64 p2.dst),(.int .i64 p2.a),(.int .i64 p2.b),(.int .i64 p2.c),(.int .i64 p2.imm)],.cells [(.int .i64 0),(.int .i64 0),(.bool false)]]:lD) (.slice (Rw mV.cells p0) .no) (.ptr 0 0) (.ptr 2 0))).bind (FF 0)=tm (Fa w43 p1 p2 p0) fun r=>(.ret (.agg [(.int .i64 r.elem),(.int .i64 r.off),(.bool r.inp)]),[]):=by
 cases w43 <;> simp +contextual -implicitDefEqProofs (maxSteps:=2000000) [-lM,-lF,-lE,-lG,-lK,-lI,-lH,PW,Fa,Ml,FF,QP,Xb]
def m24 (K:lN) (a0 a1 a2:lC) (h0:lD):Option (nB×lD) :=
 (lQ (nA 3 h0 a1) fun aI aF=>lQ (nA 6 aF a2) fun aB aG=>lQ (nA 3 aG (.agg [(.int .i64 0),(.int .i64 0),(.bool false)])) fun t24 aC=>ld true 6 aC aB fun t26=>ca (K 53 [(lC.lL t26)] aC) fun aJ aD=>(xX .not aJ).bind fun t30=>gS false t30 (fa 5 aB fun t31=>lV t31 aD) aD fun t32 aA=>gS false t30 (ld false 1 aA t32 fun aK=>lV aK aA) aA fun aL aE=>gS false t30 (bo .lss aL (.int .i64 0) fun aM=>lV aM aE) aE fun aN aH=>(mJ t30 (.bool true) aN).bind fun aO=>PW K aO aB aH a0 aI t24).bind (FF (aa8 h0))
theorem ahV (K:lN) (a0 a1 a2:lC) (h0:lD):qG Tryz.prog mY mX K 24 [a0,a1,a2] h0=m24 (mH mY K) a0 a1 a2 h0:=by kernel_rfl
def t24 (p0:(List mV)) (p1:u5) (p2:Op):Option (oE) :=
 tb ((t53 p2)) fun DN=>tc (!DN) (Fa true p1 p2 p0) (Fa (decide (p2.imm<0)) p1 p2 p0)
set_option maxHeartbeats 4000000 in
theorem b24 (p0:(List mV)) (p1:u5) (p2:Op):m24 KK (.slice (Rw mV.cells p0) .no) (.agg [(.int .i64 p1.image),(.slice (Rw (ci .i64) p1.arrays) .no),(.int .i64 p1.size)]) (.agg [(.int .i64 p2.kind),(.int .i64 p2.dst),(.int .i64 p2.a),(.int .i64 p2.b),(.int .i64 p2.c),(.int .i64 p2.imm)]) []=tm (t24 p0 p1 p2) fun r=>(.ret (.agg [(.int .i64 r.elem),(.int .i64 r.off),(.bool r.inp)]),[]):=by
 simp +contextual -implicitDefEqProofs (maxSteps:=2000000) [-lM,-lF,-lE,-lG,-lK,-lI,-lH,m24,t24,Ml,FF,QP,Xb,ajC]
theorem Ap (p0:(List mV)) (p1:u5) (p2:Op) (h:lD):KK 24 [(.slice (Rw mV.cells p0) .no),(.agg [(.int .i64 p1.image),(.slice (Rw (ci .i64) p1.arrays) .no),(.int .i64 p1.size)]),(.agg [(.int .i64 p2.kind),(.int .i64 p2.dst),(.int .i64 p2.a),(.int .i64 p2.b),(.int .i64 p2.c),(.int .i64 p2.imm)])] h=tm (t24 p0 p1 p2) fun r=>(.ret (.agg [(.int .i64 r.elem),(.int .i64 r.off),(.bool r.inp)]),h):=nZ rfl rfl (ahV ..) (b24 p0 p1 p2)
end
noncomputable section
open Go Hk
def Ly (mm:Nat) (Eh:R):Option (nB×lD) :=
 (fun aA aB=>Ex.nR Eh.1 (nJ mm aA aB)) (gd Eh.2.1 0) Eh.2.2
def Lz (K:lN) (t26:lC) (aA:lD):Option R :=
 some (.ret,[t26],aA)
def D2 (aA:Bool):Option (Bool) :=
 some aA
set_option maxHeartbeats 4000000 in
theorem aaY (w29:Bool):((Lz KK (.bool w29) ([]:lD))).bind (Ly 0)=tm (D2 w29) fun r=>(.ret (.bool r),[]):=by
 cases w29 <;> simp +contextual -implicitDefEqProofs (maxSteps:=2000000) [-lM,-lF,-lE,-lG,-lK,-lI,-lH,Lz,D2,Ly]
def ahC (K:lN) (a0:lC) (h0:lD):Option (nB×lD) :=
 (bo .geq a0 (.int .i64 0) fun aA=>gS true aA (lV a0 h0) h0 fun aD aB=>gS true aA (bo .lss aD (.int .i64 16383) fun t23=>lV t23 aB) aB fun t24 aC=>(mJ aA t24 (.bool false)).bind fun t26=>Lz K t26 aC).bind (Ly (aa8 h0))
theorem Z8 (K:lN) (a0:lC) (h0:lD):qG Tryz.prog mY mX K 140 [a0] h0=ahC (mH mY K) a0 h0:=by kernel_rfl
def t140 (p0:Int):Option (Bool) :=
 tc (decide (0≤p0)) (D2 (decide (p0<16383))) (D2 false)
set_option maxHeartbeats 4000000 in
theorem atT (p0:Int):ahC KK (.int .i64 p0) []=tm (t140 p0) fun r=>(.ret (.bool r),[]):=by
 simp +contextual -implicitDefEqProofs (maxSteps:=2000000) [-lM,-lF,-lE,-lG,-lK,-lI,-lH,ahC,t140,Ly,aaY]
theorem CY (p0:Int) (h:lD):KK 140 [(.int .i64 p0)] h=tm (t140 p0) fun r=>(.ret (.bool r),h):=nZ rfl rfl (Z8 ..) (atT p0)
def yQ (mm:Nat) (aB:R):Option (nB×lD) :=
 (fun aA aC=>Ex.nR aB.1 (nJ mm aA aC)) (gd aB.2.1 0) aB.2.2
def LD (K:lN) (aB:lC) (aA:lD):Option R :=
 some (.ret,[aB],aA)
def B7 (aA:Bool):Option (Bool) :=
 some aA
set_option maxHeartbeats 4000000 in
theorem Gq (w93:Bool) (p0:Op) (p1:oE) (w94:Bool):((LD KK (.bool w93) ([.cells [(.int .i64 p0.kind),(.int .i64 p0.dst),(.int .i64 p0.a),(.int .i64 p0.b),(.int .i64 p0.c),(.int .i64 p0.imm)],.cells [(.int .i64 p1.elem),(.int .i64 p1.off),(.bool w94)]]:lD))).bind (yQ 0)=tm (B7 w93) fun r=>(.ret (.bool r),[]):=by
 cases w93 <;> simp +contextual -implicitDefEqProofs (maxSteps:=2000000) [-lM,-lF,-lE,-lG,-lK,-lI,-lH,LD,B7,yQ]
def LC (K:lN) (aA:lC) (aM:lC) (aE:lD) (aL:lC):Option R :=
 gS true aA (fa 2 aM fun aN=>lV aN aE) aE fun aO aC=>gS true aA (ld false 1 aC aO fun aP=>lV aP aC) aC fun t70 aF=>gS true aA (lV t70 aF) aF fun aB aG=>gS true aB (fa 0 aL fun aQ=>lV aQ aG) aG fun aR aD=>gS true aB (ld false 1 aD aR fun aS=>lV aS aD) aD fun aT aH=>gS true aB (bo .eql aT (.int .i64 19) fun aU=>lV aU aH) aH fun aV aI=>gS true aA ((mJ aB aV (.bool false)).bind fun aW=>lV aW aI) aI fun aX aJ=>gS true aA ((xX .not aX).bind fun aY=>lV aY aJ) aJ fun aZ aK=>(mJ aA aZ (.bool false)).bind fun a_=>LD K a_ aK
def D5 (aA:Bool) (p0:Op) (p1:oE):Option (Bool) :=
 tc aA (tc p1.inp (B7 (!(decide (p0.kind=19)))) (B7 (!false))) (B7 false)
set_option maxHeartbeats 4000000 in
theorem Mh (w65:Bool) (p0:Op) (p1:oE):((LC KK (.bool w65) (.ptr 1 0) ([.cells [(.int .i64 p0.kind),(.int .i64 p0.dst),(.int .i64 p0.a),(.int .i64 p0.b),(.int .i64 p0.c),(.int .i64 p0.imm)],.cells [(.int .i64 p1.elem),(.int .i64 p1.off),(.bool p1.inp)]]:lD) (.ptr 0 0))).bind (yQ 0)=tm (D5 w65 p0 p1) fun r=>(.ret (.bool r),[]):=by
 cases w65 <;> simp +contextual -implicitDefEqProofs (maxSteps:=2000000) [-lM,-lF,-lE,-lG,-lK,-lI,-lH,LC,D5,yQ,Gq]
def LB (K:lN) (aA:lC) (aE:lC) (aC:lD) (aG:lC):Option R :=
 gS true aA (fa 1 aE fun t53=>lV t53 aC) aC fun aH aB=>gS true aA (ld false 1 aB aH fun aI=>lV aI aB) aB fun aJ aD=>gS true aA (bo .leq aJ (.int .i64 65535) fun aK=>lV aK aD) aD fun t60 aF=>(mJ aA t60 (.bool false)).bind fun aL=>LC K aL aE aF aG
def D4 (aA:Bool) (p0:Op) (p1:oE):Option (Bool) :=
 tc aA (D5 (decide (p1.off≤65535)) p0 p1) (D5 false p0 p1)
set_option maxHeartbeats 4000000 in
theorem Sn (w52:Bool) (p0:Op) (p1:oE):((LB KK (.bool w52) (.ptr 1 0) ([.cells [(.int .i64 p0.kind),(.int .i64 p0.dst),(.int .i64 p0.a),(.int .i64 p0.b),(.int .i64 p0.c),(.int .i64 p0.imm)],.cells [(.int .i64 p1.elem),(.int .i64 p1.off),(.bool p1.inp)]]:lD) (.ptr 0 0))).bind (yQ 0)=tm (D4 w52 p0 p1) fun r=>(.ret (.bool r),[]):=by
 cases w52 <;> simp +contextual -implicitDefEqProofs (maxSteps:=2000000) [-lM,-lF,-lE,-lG,-lK,-lI,-lH,LB,D4,yQ,Gq,Mh]
def LA (K:lN) (t36:lC) (aD:lC) (aB:lD) (aF:lC):Option R :=
 gS true t36 (fa 1 aD fun aG=>lV aG aB) aB fun aH aA=>gS true t36 (ld false 1 aA aH fun aI=>lV aI aA) aA fun aJ aC=>gS true t36 (bo .geq aJ (.int .i64 0) fun aK=>lV aK aC) aC fun aL aE=>(mJ t36 aL (.bool false)).bind fun aM=>LB K aM aD aE aF
def D3 (aA:Bool) (p0:Op) (p1:oE):Option (Bool) :=
 tc aA (D4 (decide (0≤p1.off)) p0 p1) (D4 false p0 p1)
set_option maxHeartbeats 4000000 in
theorem aaZ (w39:Bool) (p0:Op) (p1:oE):((LA KK (.bool w39) (.ptr 1 0) ([.cells [(.int .i64 p0.kind),(.int .i64 p0.dst),(.int .i64 p0.a),(.int .i64 p0.b),(.int .i64 p0.c),(.int .i64 p0.imm)],.cells [(.int .i64 p1.elem),(.int .i64 p1.off),(.bool p1.inp)]]:lD) (.ptr 0 0))).bind (yQ 0)=tm (D3 w39 p0 p1) fun r=>(.ret (.bool r),[]):=by
 cases w39 <;> simp +contextual -implicitDefEqProofs (maxSteps:=2000000) [-lM,-lF,-lE,-lG,-lK,-lI,-lH,LA,D3,yQ,Gq,Mh,Sn]
def ahD (K:lN) (a0 a1:lC) (h0:lD):Option (nB×lD) :=
 (lQ (nA 6 h0 a0) fun aG aE=>lQ (nA 3 aE a1) fun aC aA=>fa 0 aC fun t24=>ld false 1 aA t24 fun aH=>bo .eql aH (.int .i64 1) fun t26=>gS false t26 (fa 0 aC fun aI=>lV aI aA) aA fun t28 aB=>gS false t26 (ld false 1 aB t28 fun t30=>lV t30 aB) aB fun t31 aD=>gS false t26 (bo .eql t31 (.int .i64 4) fun aJ=>lV aJ aD) aD fun aK aF=>(mJ t26 (.bool true) aK).bind fun t36=>LA K t36 aC aF aG).bind (yQ (aa8 h0))
theorem Z9 (K:lN) (a0 a1:lC) (h0:lD):qG Tryz.prog mY mX K 141 [a0,a1] h0=ahD (mH mY K) a0 a1 h0:=by kernel_rfl
def t141 (p0:Op) (p1:oE):Option (Bool) :=
 tc (decide (p1.elem=1)) (D3 true p0 p1) (D3 (decide (p1.elem=4)) p0 p1)
set_option maxHeartbeats 4000000 in
theorem atU (p0:Op) (p1:oE):ahD KK (.agg [(.int .i64 p0.kind),(.int .i64 p0.dst),(.int .i64 p0.a),(.int .i64 p0.b),(.int .i64 p0.c),(.int .i64 p0.imm)]) (.agg [(.int .i64 p1.elem),(.int .i64 p1.off),(.bool p1.inp)]) []=tm (t141 p0 p1) fun r=>(.ret (.bool r),[]):=by
 simp +contextual -implicitDefEqProofs (maxSteps:=2000000) [-lM,-lF,-lE,-lG,-lK,-lI,-lH,ahD,t141,yQ,Gq,Mh,Sn,aaZ]
theorem TZ (p0:Op) (p1:oE) (h:lD):KK 141 [(.agg [(.int .i64 p0.kind),(.int .i64 p0.dst),(.int .i64 p0.a),(.int .i64 p0.b),(.int .i64 p0.c),(.int .i64 p0.imm)]),(.agg [(.int .i64 p1.elem),(.int .i64 p1.off),(.bool p1.inp)])] h=tm (t141 p0 p1) fun r=>(.ret (.bool r),h):=nZ rfl rfl (Z9 ..) (atU p0 p1)
def yP (mm:Nat) (aA:R):Option (nB×lD) :=
 (fun aB aC=>Ex.nR aA.1 (nJ mm aB aC)) (gd aA.2.1 0) aA.2.2
def Gi (K:lN) (m:Nat) (s:List lC×lD):Option R :=
 (fun aD aE aF aG aB aC aA aH=>bo .lss aA aC fun aJ=>lS aJ (ix 1 aB aA fun aK=>ld false 1 aH aK fun aL=>ca (K 140 [(lC.lL aL)] aH) fun aM aI=>(xX .not aM).bind fun aN=>lS aN (lX m .ret [aD,aE,aF,(.bool false),aB,aC,aA] aI) (bo .add aA (.int .i64 1) fun aO=>lX m .normal [aD,aE,aF,aG,aB,aC,aO] aI)) (lX m (.exit 0) [aD,aE,aF,aG,aB,aC,aA] aH)) (gd s.1 0) (gd s.1 1) (gd s.1 2) (gd s.1 3) (gd s.1 4) (gd s.1 5) (gd s.1 6) s.2
def yE (aB:(List Int)) (aE:Int) (aA:Int):Option (Ey×Int) :=
 tc (decide (aA<aE)) (tb ((oV aB aA)) fun aD=>tb ((t140 aD)) fun aC=>tc (!aC) (some (.r,aA)) (some (.n,(IntKind.wrap .i64 (aA+1))))) (some ((.x 0),aA))
set_option maxHeartbeats 4000000 in
theorem YR (p2:Int) (r27:(List Int)) (w29:Int) (p0:Op) (p1:oE) (s30:Int):Gi KK 2 ([(.int .i64 p2),(.ptr 0 0),(.ptr 1 0),(.bool false),(.slice (Rw (ci .i64) r27) .no),(.int .i64 w29),(.int .i64 s30)],([.cells [(.int .i64 p0.kind),(.int .i64 p0.dst),(.int .i64 p0.a),(.int .i64 p0.b),(.int .i64 p0.c),(.int .i64 p0.imm)],.cells [(.int .i64 p1.elem),(.int .i64 p1.off),(.bool p1.inp)]]:lD))=tm (yE r27 w29 s30) fun r=>(r.1.ex,[(.int .i64 p2),(.ptr 0 0),(.ptr 1 0),(.bool false),(.slice (Rw (ci .i64) r27) .no),(.int .i64 w29),(.int .i64 r.2)],([.cells [(.int .i64 p0.kind),(.int .i64 p0.dst),(.int .i64 p0.a),(.int .i64 p0.b),(.int .i64 p0.c),(.int .i64 p0.imm)],.cells [(.int .i64 p1.elem),(.int .i64 p1.off),(.bool p1.inp)]]:lD)):=by
 simp +contextual -implicitDefEqProofs (maxSteps:=2000000) [-lM,-lF,-lE,-lG,-lK,-lI,-lH,Gi,yE,CY]
theorem DL (p2:Int) (r27:(List Int)) (w29:Int) (p0:Op) (p1:oE) (i4:Int):mX (Gi KK 2) ([(.int .i64 p2),(.ptr 0 0),(.ptr 1 0),(.bool false),(.slice (Rw (ci .i64) r27) .no),(.int .i64 w29),(.int .i64 i4)],([.cells [(.int .i64 p0.kind),(.int .i64 p0.dst),(.int .i64 p0.a),(.int .i64 p0.b),(.int .i64 p0.c),(.int .i64 p0.imm)],.cells [(.int .i64 p1.elem),(.int .i64 p1.off),(.bool p1.inp)]]:lD))=tm (tY (yE r27 w29) i4) fun r=>(r.1.ex,[(.int .i64 p2),(.ptr 0 0),(.ptr 1 0),(.bool false),(.slice (Rw (ci .i64) r27) .no),(.int .i64 w29),(.int .i64 r.2)],([.cells [(.int .i64 p0.kind),(.int .i64 p0.dst),(.int .i64 p0.a),(.int .i64 p0.b),(.int .i64 p0.c),(.int .i64 p0.imm)],.cells [(.int .i64 p1.elem),(.int .i64 p1.off),(.bool p1.inp)]]:lD)):=by
 exact uP (enc:=fun s30=>([(.int .i64 p2),(.ptr 0 0),(.ptr 1 0),(.bool false),(.slice (Rw (ci .i64) r27) .no),(.int .i64 w29),(.int .i64 s30)],([.cells [(.int .i64 p0.kind),(.int .i64 p0.dst),(.int .i64 p0.a),(.int .i64 p0.b),(.int .i64 p0.c),(.int .i64 p0.imm)],.cells [(.int .i64 p1.elem),(.int .i64 p1.off),(.bool p1.inp)]]:lD))) (fun s30=>YR p2 r27 w29 p0 p1 s30) i4
def Lr (K:lN) (m:Nat) (t125:lC) (aA:lC) (aB:lC) (aC:lC) (aD:lC) (aE:lD):Option R :=
 lS t125 (lX m .normal [aA,aB,aC,aD,t125] aE) (bo .eql aD (.int .i64 13) fun t127=>lX m .normal [aA,aB,aC,aD,t127] aE)
def B5 (aA:Bool) (p0:Op):Option (Bool) :=
 tc aA (some aA) (some (decide (p0.kind=13)))
set_option maxHeartbeats 4000000 in
theorem aaU (w126:Bool) (p0:Op) (p1:oE):(Lr KK 2 (.bool w126) (.ptr 0 0) (.ptr 1 0) (.bool false) (.int .i64 p0.kind) ([.cells [(.int .i64 p0.kind),(.int .i64 p0.dst),(.int .i64 p0.a),(.int .i64 p0.b),(.int .i64 p0.c),(.int .i64 p0.imm)],.cells [(.int .i64 p1.elem),(.int .i64 p1.off),(.bool p1.inp)]]:lD))=tm (B5 w126 p0) fun r=>(.normal,[(.ptr 0 0),(.ptr 1 0),(.bool false),(.int .i64 p0.kind),(.bool r)],([.cells [(.int .i64 p0.kind),(.int .i64 p0.dst),(.int .i64 p0.a),(.int .i64 p0.b),(.int .i64 p0.c),(.int .i64 p0.imm)],.cells [(.int .i64 p1.elem),(.int .i64 p1.off),(.bool p1.inp)]]:lD)):=by
 cases w126 <;> simp +contextual -implicitDefEqProofs (maxSteps:=2000000) [-lM,-lF,-lE,-lG,-lK,-lI,-lH,Lr,B5]
def Lq (K:lN) (m:Nat) (aJ:lC) (aC:lC) (aD:lC) (aE:lC) (aF:lC) (aL:lD):Option R :=
 lS aJ (lX m .normal [aC,aD,aE,aF,aJ] aL) (bo .eql aF (.int .i64 12) fun t125=>(Lr K (aa8 aL) t125 aC aD aE aF aL).bind fun wO=>(fun aG aH aI aA aB aK=>Ex.qZ wO.1 (lX m .normal [aG,aH,aI,aA,aB] aK)) (gd wO.2.1 0) (gd wO.2.1 1) (gd wO.2.1 2) (gd wO.2.1 3) (gd wO.2.1 4) wO.2.2)
def B4 (aA:Bool) (p0:Op):Option (Bool) :=
 tc aA (some aA) (tb (B5 (decide (p0.kind=12)) p0) fun wO=>some wO)
set_option maxHeartbeats 4000000 in
theorem DJ (w124:Bool) (p0:Op) (p1:oE):(Lq KK 2 (.bool w124) (.ptr 0 0) (.ptr 1 0) (.bool false) (.int .i64 p0.kind) ([.cells [(.int .i64 p0.kind),(.int .i64 p0.dst),(.int .i64 p0.a),(.int .i64 p0.b),(.int .i64 p0.c),(.int .i64 p0.imm)],.cells [(.int .i64 p1.elem),(.int .i64 p1.off),(.bool p1.inp)]]:lD))=tm (B4 w124 p0) fun r=>(.normal,[(.ptr 0 0),(.ptr 1 0),(.bool false),(.int .i64 p0.kind),(.bool r)],([.cells [(.int .i64 p0.kind),(.int .i64 p0.dst),(.int .i64 p0.a),(.int .i64 p0.b),(.int .i64 p0.c),(.int .i64 p0.imm)],.cells [(.int .i64 p1.elem),(.int .i64 p1.off),(.bool p1.inp)]]:lD)):=by
 cases w124 <;> simp +contextual -implicitDefEqProofs (maxSteps:=2000000) [-lM,-lF,-lE,-lG,-lK,-lI,-lH,Lq,B4,aaU]
def Ls (K:lN) (m:Nat) (aF:lC) (aA:lC) (aB:lC) (aC:lC) (aE:lD) (aD:lC):Option R :=
 lS aF (lX m .normal [aA,aB,aC,aF] aE) (bo .eql aD (.int .i64 19) fun aG=>lX m .normal [aA,aB,aC,aG] aE)
def DY (aA:Bool) (p0:Op):Option (Bool) :=
 tc aA (some aA) (some (decide (p0.kind=19)))
set_option maxHeartbeats 4000000 in
theorem DK (w159:Bool) (p0:Op) (p1:oE):(Ls KK 2 (.bool w159) (.ptr 0 0) (.ptr 1 0) (.bool false) ([.cells [(.int .i64 p0.kind),(.int .i64 p0.dst),(.int .i64 p0.a),(.int .i64 p0.b),(.int .i64 p0.c),(.int .i64 p0.imm)],.cells [(.int .i64 p1.elem),(.int .i64 p1.off),(.bool p1.inp)]]:lD) (.int .i64 p0.kind))=tm (DY w159 p0) fun r=>(.normal,[(.ptr 0 0),(.ptr 1 0),(.bool false),(.bool r)],([.cells [(.int .i64 p0.kind),(.int .i64 p0.dst),(.int .i64 p0.a),(.int .i64 p0.b),(.int .i64 p0.c),(.int .i64 p0.imm)],.cells [(.int .i64 p1.elem),(.int .i64 p1.off),(.bool p1.inp)]]:lD)):=by
 cases w159 <;> simp +contextual -implicitDefEqProofs (maxSteps:=2000000) [-lM,-lF,-lE,-lG,-lK,-lI,-lH,Ls,DY]
def Lv (K:lN) (aB:lC) (aA:lD):Option R :=
 some (.ret,[aB],aA)
def DZ (aA:Bool):Option (Bool) :=
 some aA
set_option maxHeartbeats 4000000 in
theorem Gp (w120:Bool) (p0:Op) (p1:oE):((Lv KK (.bool w120) ([.cells [(.int .i64 p0.kind),(.int .i64 p0.dst),(.int .i64 p0.a),(.int .i64 p0.b),(.int .i64 p0.c),(.int .i64 p0.imm)],.cells [(.int .i64 p1.elem),(.int .i64 p1.off),(.bool p1.inp)]]:lD))).bind (yP 0)=tm (DZ w120) fun r=>(.ret (.bool r),[]):=by
 cases w120 <;> simp +contextual -implicitDefEqProofs (maxSteps:=2000000) [-lM,-lF,-lE,-lG,-lK,-lI,-lH,Lv,DZ,Xd,DL,r73,CY,DJ,DK,TZ,yP]
def Lw (K:lN) (aB:lC) (aA:lD):Option R :=
 some (.ret,[aB],aA)
def D0 (aA:Bool):Option (Bool) :=
 some aA
set_option maxHeartbeats 4000000 in
theorem Mg (w157:Bool) (p0:Op) (p1:oE):((Lw KK (.bool w157) ([.cells [(.int .i64 p0.kind),(.int .i64 p0.dst),(.int .i64 p0.a),(.int .i64 p0.b),(.int .i64 p0.c),(.int .i64 p0.imm)],.cells [(.int .i64 p1.elem),(.int .i64 p1.off),(.bool p1.inp)]]:lD))).bind (yP 0)=tm (D0 w157) fun r=>(.ret (.bool r),[]):=by
 cases w157 <;> simp +contextual -implicitDefEqProofs (maxSteps:=2000000) [-lM,-lF,-lE,-lG,-lK,-lI,-lH,Lw,D0,Xd,DL,r73,CY,DJ,DK,TZ,yP,Gp]
def Lu (K:lN) (bW:lC) (aM:lD) (aC:lC) (aT:lC) (aU:lC):Option R :=
 lS bW (some (.ret,[(.bool false)],aM)) (fa 0 aC fun aZ=>ld false 1 aM aZ fun aN=>bo .eql aN (.int .i64 1) fun a_=>lS a_ (fa 5 aC fun bB=>ld false 1 aM bB fun bC=>bo .geq bC (.int .i64 0) fun aH=>gS true aH (fa 5 aC fun bD=>lV bD aM) aM fun bE aK=>gS true aH (ld false 1 aK bE fun bF=>lV bF aK) aK fun bG aR=>gS true aH (bo .leq bG (.int .i64 4294967295) fun bH=>lV bH aR) aR fun bI aV=>(mJ aH bI (.bool false)).bind fun bJ=>Lv K bJ aV) (bo .eql aN (.int .i64 11) fun bK=>(Lq K (aa8 aM) bK aC aT aU aN aM).bind fun CW=>(fun aA aO aQ aB aI aE=>Ex.qZ CW.1 (lS aI (fa 5 aA fun t142=>ld false 1 aE t142 fun t143=>bo .geq t143 (.int .i64 0) fun t144=>gS true t144 (fa 5 aA fun t145=>lV t145 aE) aE fun t146 aL=>gS true t144 (ld false 1 aL t146 fun t148=>lV t148 aL) aL fun bL aS=>gS true t144 (bo .lss bL (.int .i64 32) fun bM=>lV bM aS) aS fun bN aW=>(mJ t144 bN (.bool false)).bind fun bO=>Lw K bO aW) (bo .eql aB (.int .i64 18) fun bP=>(Ls K (aa8 aE) bP aA aO aQ aE aB).bind fun aD=>(fun aG aP bV aJ aF=>Ex.qZ aD.1 (lS aJ (ld true 6 aF aG fun bQ=>ld true 3 aF aP fun bR=>ca (K 141 [(lC.lL bQ),(lC.lL bR)] aF) fun bS aX=>some (.ret,[bS],aX)) (ld true 6 aF aG fun bT=>ca (K 73 [(lC.lL bT)] aF) fun bU aY=>some (.ret,[bU],aY)))) (gd aD.2.1 0) (gd aD.2.1 1) (gd aD.2.1 2) (gd aD.2.1 3) aD.2.2))) (gd CW.2.1 0) (gd CW.2.1 1) (gd CW.2.1 2) (gd CW.2.1 3) (gd CW.2.1 4) CW.2.2))
def Ax (aD:Bool) (p0:Op) (p1:oE):Option (Bool) :=
 tc aD (some false) (tc (decide (p0.kind=1)) (tc (decide (0≤p0.imm)) (DZ (decide (p0.imm≤4294967295))) (DZ false)) (tb (B4 (decide (p0.kind=11)) p0) fun CW=>tc CW (tc (decide (0≤p0.imm)) (D0 (decide (p0.imm<32))) (D0 false)) (tb (DY (decide (p0.kind=18)) p0) fun aA=>tc aA (tb ((t141 p0 p1)) fun aB=>some aB) (tb ((t73 p0)) fun aC=>some aC))))
set_option maxHeartbeats 4000000 in
theorem Sm (w101:Bool) (p0:Op) (p1:oE):((Lu KK (.bool w101) ([.cells [(.int .i64 p0.kind),(.int .i64 p0.dst),(.int .i64 p0.a),(.int .i64 p0.b),(.int .i64 p0.c),(.int .i64 p0.imm)],.cells [(.int .i64 p1.elem),(.int .i64 p1.off),(.bool p1.inp)]]:lD) (.ptr 0 0) (.ptr 1 0) (.bool false))).bind (yP 0)=tm (Ax w101 p0 p1) fun r=>(.ret (.bool r),[]):=by
 cases w101 <;> simp +contextual -implicitDefEqProofs (maxSteps:=2000000) [-lM,-lF,-lE,-lG,-lK,-lI,-lH,Lu,Ax,Xd,DL,r73,CY,DJ,DK,TZ,yP,Gp,Mg]
def Lt (K:lN) (aB:lC) (aA:lC) (aG:lD) (aC:lC) (aD:lC) (aE:lC):Option R :=
 gS false aB (lV aA aG) aG fun aN aH=>gS false aB (bo .neq aN (.int .i64 0) fun aO=>lV aO aH) aH fun aP aI=>gS false aB (lV aP aI) aI fun aF aJ=>gS true aF (lV aA aJ) aJ fun aQ aK=>gS true aF (bo .neq aQ (.int .i64 1) fun aR=>lV aR aK) aK fun aS aL=>gS false aB ((mJ aF aS (.bool false)).bind fun aT=>lV aT aL) aL fun aU aM=>(mJ aB (.bool true) aU).bind fun aV=>Lu K aV aM aC aD aE
def B6 (aA:Bool) (p2:Int) (p0:Op) (p1:oE):Option (Bool) :=
 tc aA (Ax true p0 p1) (tc (!decide (p2=0)) (Ax (!decide (p2=1)) p0 p1) (Ax false p0 p1))
set_option maxHeartbeats 4000000 in
theorem aaV (w80:Bool) (p2:Int) (p0:Op) (p1:oE):((Lt KK (.bool w80) (.int .i64 p2) ([.cells [(.int .i64 p0.kind),(.int .i64 p0.dst),(.int .i64 p0.a),(.int .i64 p0.b),(.int .i64 p0.c),(.int .i64 p0.imm)],.cells [(.int .i64 p1.elem),(.int .i64 p1.off),(.bool p1.inp)]]:lD) (.ptr 0 0) (.ptr 1 0) (.bool false))).bind (yP 0)=tm (B6 w80 p2 p0 p1) fun r=>(.ret (.bool r),[]):=by
 cases w80 <;> simp +contextual -implicitDefEqProofs (maxSteps:=2000000) [-lM,-lF,-lE,-lG,-lK,-lI,-lH,Lt,B6,Xd,DL,r73,CY,DJ,DK,TZ,yP,Gp,Mg,Sm]
def ag7 (K:lN) (a0 a1 a2:lC) (h0:lD):Option (nB×lD) :=
 (lQ (nA 6 h0 a0) fun aP aT=>lQ (nA 3 aT a1) fun aW aK=>ld true 6 aK aP fun t24=>ca (K 36 [(lC.lL t24)] aK) fun aQ aL=>ln aQ fun t28=>(mX (Gi K (aa8 aL)) ([a2,aP,aW,(.bool false),aQ,t28,(.int .i64 0)],aL)).bind fun aB=>(fun aD aA aE aC aH aI aJ aF=>Ex.mO aB.1 none (fun aR=>Ex.inBlock 0 aR (ld true 6 aF aA fun aX=>ca (K 73 [(lC.lL aX)] aF) fun t60 aM=>gS true t60 (fa 1 aA fun aY=>lV aY aM) aM fun aZ aG=>gS true t60 (ld false 1 aG aZ fun a_=>lV a_ aG) aG fun bB aN=>gS true t60 (cg (K 140 [(lC.lL bB)] aN) fun bC aU=>lV bC aU) aN fun bD aO=>gS true t60 ((xX .not bD).bind fun bE=>lV bE aO) aO fun bF aV=>(mJ t60 bF (.bool false)).bind fun bG=>Lt K bG aD aV aA aE aC) (fun aS=>some (aS,[aC],aF)))) (gd aB.2.1 0) (gd aB.2.1 1) (gd aB.2.1 2) (gd aB.2.1 3) (gd aB.2.1 4) (gd aB.2.1 5) (gd aB.2.1 6) aB.2.2).bind (yP (aa8 h0))
theorem Z4 (K:lN) (a0 a1 a2:lC) (h0:lD):qG Tryz.prog mY mX K 136 [a0,a1,a2] h0=ag7 (mH mY K) a0 a1 a2 h0:=by kernel_rfl
def t136 (p0:Op) (p1:oE) (p2:Int):Option (Bool) :=
 tb ((t36 p0)) fun aA=>tb (tY (yE aA ((aa8 aA:Nat):Int)) 0) fun aD=>xD aD.1 none fun aB=>xF 0 aB (tb ((t73 p0)) fun aE=>tc aE (tb ((t140 p0.dst)) fun aF=>B6 (!aF) p2 p0 p1) (B6 false p2 p0 p1)) fun aC=>JC aC (some false)
set_option maxHeartbeats 4000000 in
theorem atO (p0:Op) (p1:oE) (p2:Int):ag7 KK (.agg [(.int .i64 p0.kind),(.int .i64 p0.dst),(.int .i64 p0.a),(.int .i64 p0.b),(.int .i64 p0.c),(.int .i64 p0.imm)]) (.agg [(.int .i64 p1.elem),(.int .i64 p1.off),(.bool p1.inp)]) (.int .i64 p2) []=tm (t136 p0 p1 p2) fun r=>(.ret (.bool r),[]):=by
 simp +contextual -implicitDefEqProofs (maxSteps:=2000000) [-lM,-lF,-lE,-lG,-lK,-lI,-lH,ag7,t136,Xd,DL,r73,CY,DJ,DK,TZ,yP,Gp,Mg,Sm,aaV]
theorem apO (p0:Op) (p1:oE) (p2:Int) (h:lD):KK 136 [(.agg [(.int .i64 p0.kind),(.int .i64 p0.dst),(.int .i64 p0.a),(.int .i64 p0.b),(.int .i64 p0.c),(.int .i64 p0.imm)]),(.agg [(.int .i64 p1.elem),(.int .i64 p1.off),(.bool p1.inp)]),(.int .i64 p2)] h=tm (t136 p0 p1 p2) fun r=>(.ret (.bool r),h):=nZ rfl rfl (Z4 ..) (atO p0 p1 p2)
def V5 (mm:Nat) (aB:R):Option (nB×lD) :=
 (fun aA aC=>Ex.nR aB.1 (nJ mm aA aC)) (gd aB.2.1 0) aB.2.2
def Gj (K:lN) (m:Nat) (s:List lC×lD):Option R :=
 (fun aD aE aB aC aA aF=>bo .lss aA aC fun aH=>lS aH (ix 1 aB aA fun aI=>ld false 1 aF aI fun t36=>lQ (nC 8 64 aF aE t36) fun aJ aG=>bo .add aA (.int .i64 1) fun aK=>lX m .normal [aD,aJ,aB,aC,aK] aG) (lX m (.exit 0) [aD,aE,aB,aC,aA] aF)) (gd s.1 0) (gd s.1 1) (gd s.1 2) (gd s.1 3) (gd s.1 4) s.2
def yF (p0:(List (List Ins))) (aD:Int) (aA:(List Ins)×Int):Option (Ey×(List Ins)×Int) :=
 tc (decide (aA.2<aD)) (tb ((oV p0 aA.2)) fun aC=>tb ((p7 64 aA.1 aC)) fun aB=>some (.n,(aB,(IntKind.wrap .i64 (aA.2+1))))) (some ((.x 0),(aA.1,aA.2)))
set_option maxHeartbeats 4000000 in
theorem YS (p0:(List (List Ins))) (w25:Int) (s26:(List Ins)×Int):Gj KK 2 ([(.slice (Rw Ins.cells []) (.own 0)),(.slice (Rw Ins.cells s26.1) (.own 1)),(.slice (Rw (uN Ins.cells) p0) .no),(.int .i64 w25),(.int .i64 s26.2)],([.front 0 0,oK 8 (aa8 s26.1)]:lD))=tm (yF p0 w25 s26) fun r=>(r.1.ex,[(.slice (Rw Ins.cells []) (.own 0)),(.slice (Rw Ins.cells r.2.1) (.own 1)),(.slice (Rw (uN Ins.cells) p0) .no),(.int .i64 w25),(.int .i64 r.2.2)],([.front 0 0,oK 8 (aa8 r.2.1)]:lD)):=by
 simp +contextual -implicitDefEqProofs (maxSteps:=2000000) [-lM,-lF,-lE,-lG,-lK,-lI,-lH,Gj,yF]
theorem aaW (p0:(List (List Ins))) (w25:Int) (i4:Int):mX (Gj KK 2) ([(.slice (Rw Ins.cells []) (.own 0)),(.slice (Rw Ins.cells []) (.own 1)),(.slice (Rw (uN Ins.cells) p0) .no),(.int .i64 w25),(.int .i64 i4)],([.front 0 0,.front 0 0]:lD))=tm (tY (yF p0 w25) ([],i4)) fun r=>(r.1.ex,[(.slice (Rw Ins.cells []) (.own 0)),(.slice (Rw Ins.cells r.2.1) (.own 1)),(.slice (Rw (uN Ins.cells) p0) .no),(.int .i64 w25),(.int .i64 r.2.2)],([.front 0 0,oK 8 (aa8 r.2.1)]:lD)):=by
 exact uP (enc:=fun s26=>([(.slice (Rw Ins.cells []) (.own 0)),(.slice (Rw Ins.cells s26.1) (.own 1)),(.slice (Rw (uN Ins.cells) p0) .no),(.int .i64 w25),(.int .i64 s26.2)],([.front 0 0,oK 8 (aa8 s26.1)]:lD))) (fun s26=>YS p0 w25 s26) ([],i4)
def ag8 (K:lN) (a0:lC) (h0:lD):Option (nB×lD) :=
 ((fun(aL:lC) (aD:lD)=>(fun(t23:lC) (aE:lD)=>ln a0 fun t24=>(mX (Gj K (aa8 aE)) ([aL,t23,a0,t24,(.int .i64 0)],aE)).bind fun aA=>(fun aB aC aG aH aI aF=>Ex.mO aA.1 none (fun aJ=>Ex.inBlock 0 aJ (some (.ret,[aC],aF)) (fun aK=>some (aK,[aB],aF)))) (gd aA.2.1 0) (gd aA.2.1 1) (gd aA.2.1 2) (gd aA.2.1 3) (gd aA.2.1 4) aA.2.2) (.slice (Rw Ins.cells []) (.own (aa8 aD))) (aD++[.front 0 0])) (.slice (Rw Ins.cells []) (.own (aa8 h0))) (h0++[.front 0 0])).bind (V5 (aa8 h0))
theorem Z5 (K:lN) (a0:lC) (h0:lD):qG Tryz.prog mY mX K 137 [a0] h0=ag8 (mH mY K) a0 h0:=by kernel_rfl
def t137 (p0:(List (List Ins))):Option ((List Ins)) :=
 tb (tY (yF p0 ((aa8 p0:Nat):Int)) ([],0)) fun aA=>xD aA.1 none fun aB=>xF 0 aB (some aA.2.1) fun aC=>JC aC (some [])
set_option maxHeartbeats 4000000 in
theorem atP (p0:(List (List Ins))):ag8 KK (.slice (Rw (uN Ins.cells) p0) .no) []=tm (t137 p0) fun r=>(.ret (.slice (Rw Ins.cells r) .no),[]):=by
 simp +contextual -implicitDefEqProofs (maxSteps:=2000000) [-lM,-lF,-lE,-lG,-lK,-lI,-lH,ag8,t137,aaW,V5]
theorem apP (p0:(List (List Ins))) (h:lD):KK 137 [(.slice (Rw (uN Ins.cells) p0) .no)] h=tm (t137 p0) fun r=>(.ret (.slice (Rw Ins.cells r) .no),h):=nZ rfl rfl (Z5 ..) (atP p0)
def Wb (mm:Nat) (Ap:R):Option (nB×lD) :=
 (fun aA aB=>Ex.nR Ap.1 ((lP true 8 aB aA).bind fun aC=>nJ mm aC aB)) (gd Ap.2.1 0) Ap.2.2
def ahI (K:lN) (a0 a1 a2 a3:lC) (h0:lD):Option (nB×lD) :=
 (lQ (nA 8 h0 (.agg [(.int .i64 0),(.int .i64 0),(.int .i64 0),(.int .i64 0),(.int .i64 0),(.int .i64 0),(.int .i64 0),(.bool false)])) fun aA aB=>(mD [(.int .i64 0),(.int .i64 0),(.int .i64 0),(.int .i64 0),(.int .i64 0),(.int .i64 0),(.int .i64 0),(.bool false)] [(0,1),(1,1),(2,1),(3,1),(4,1),(5,1),(6,1),(7,1)] [(0,a0),(1,a1),(2,a2),(3,a3)]).bind fun aD=>(lW 8 aB aA aD).bind fun aC=>some (.ret,[aA],aC)).bind (Wb (aa8 h0))
theorem aaD (K:lN) (a0 a1 a2 a3:lC) (h0:lD):qG Tryz.prog mY mX K 146 [a0,a1,a2,a3] h0=ahI (mH mY K) a0 a1 a2 a3 h0:=by kernel_rfl
def t146 (p0:Int) (p1:Int) (p2:Int) (p3:Int):Option (Ins) :=
 some (⟨p0,p1,p2,p3,0,0,0,false⟩:Ins)
set_option maxHeartbeats 4000000 in
theorem atZ (p0:Int) (p1:Int) (p2:Int) (p3:Int):ahI KK (.int .i64 p0) (.int .i64 p1) (.int .i64 p2) (.int .i64 p3) []=tm (t146 p0 p1 p2 p3) fun r=>(.ret (.agg [(.int .i64 r.op),(.int .i64 r.rd),(.int .i64 r.rn),(.int .i64 r.rm),(.int .i64 r.ra),(.int .i64 r.imm),(.int .i64 r.cond),(.bool r.wide)]),[]):=by
 simp +contextual -implicitDefEqProofs (maxSteps:=2000000) [-lM,-lF,-lE,-lG,-lK,-lI,-lH,ahI,t146,Wb]
theorem DM (p0:Int) (p1:Int) (p2:Int) (p3:Int) (h:lD):KK 146 [(.int .i64 p0),(.int .i64 p1),(.int .i64 p2),(.int .i64 p3)] h=tm (t146 p0 p1 p2 p3) fun r=>(.ret (.agg [(.int .i64 r.op),(.int .i64 r.rd),(.int .i64 r.rn),(.int .i64 r.rm),(.int .i64 r.ra),(.int .i64 r.imm),(.int .i64 r.cond),(.bool r.wide)]),h):=nZ rfl rfl (aaD ..) (atZ p0 p1 p2 p3)
def V8 (mm:Nat) (aB:R):Option (nB×lD) :=
 (fun aA aC=>Ex.nR aB.1 ((lP true 8 aC aA).bind fun t36=>nJ mm t36 aC)) (gd aB.2.1 0) aB.2.2
def LF (K:lN) (m:Nat) (aC:lC) (a1:lC) (a2:lC) (a3:lC) (aB:lC) (aA:lD) (a0:lC):Option R :=
 lS aC (lX m .normal [(.int .i64 5),a1,a2,a3,aB] aA) (lX m .normal [a0,a1,a2,a3,aB] aA)
def yG (aA:Bool) (p0:Int):Option (Int) :=
 tc aA (some 5) (some p0)
set_option maxHeartbeats 4000000 in
theorem aa0 (w23:Bool) (p1:Int) (p2:Int) (p3:Int) (p0:Int):(LF KK 1 (.bool w23) (.int .i64 p1) (.int .i64 p2) (.int .i64 p3) (.ptr 0 0) ([.cells [(.int .i64 0),(.int .i64 0),(.int .i64 0),(.int .i64 0),(.int .i64 0),(.int .i64 0),(.int .i64 0),(.bool false)]]:lD) (.int .i64 p0))=tm (yG w23 p0) fun r=>(.normal,[(.int .i64 r),(.int .i64 p1),(.int .i64 p2),(.int .i64 p3),(.ptr 0 0)],([.cells [(.int .i64 0),(.int .i64 0),(.int .i64 0),(.int .i64 0),(.int .i64 0),(.int .i64 0),(.int .i64 0),(.bool false)]]:lD)):=by
 cases w23 <;> simp +contextual -implicitDefEqProofs (maxSteps:=2000000) [-lM,-lF,-lE,-lG,-lK,-lI,-lH,LF,yG]
def ahE (K:lN) (a0 a1 a2 a3:lC) (h0:lD):Option (nB×lD) :=
 (lQ (nA 8 h0 (.agg [(.int .i64 0),(.int .i64 0),(.int .i64 0),(.int .i64 0),(.int .i64 0),(.int .i64 0),(.int .i64 0),(.bool false)])) fun aI aF=>bo .eql a3 (.int .i64 0) fun aJ=>(LF K (aa8 aF) aJ a1 a2 a3 aI aF a0).bind fun Ap=>(fun aB aC aD aE aA aG=>Ex.qZ Ap.1 ((mD [(.int .i64 0),(.int .i64 0),(.int .i64 0),(.int .i64 0),(.int .i64 0),(.int .i64 0),(.int .i64 0),(.bool false)] [(0,1),(1,1),(2,1),(3,1),(4,1),(5,1),(6,1),(7,1)] [(0,aB),(1,aC),(3,aD),(5,aE)]).bind fun t31=>(lW 8 aG aA t31).bind fun aH=>some (.ret,[aA],aH))) (gd Ap.2.1 0) (gd Ap.2.1 1) (gd Ap.2.1 2) (gd Ap.2.1 3) (gd Ap.2.1 4) Ap.2.2).bind (V8 (aa8 h0))
theorem Z_ (K:lN) (a0 a1 a2 a3:lC) (h0:lD):qG Tryz.prog mY mX K 142 [a0,a1,a2,a3] h0=ahE (mH mY K) a0 a1 a2 a3 h0:=by kernel_rfl
def t142 (p0:Int) (p1:Int) (p2:Int) (p3:Int):Option (Ins) :=
 tb (yG (decide (p3=0)) p0) fun Ap=>some (⟨Ap,p1,0,p2,0,p3,0,false⟩:Ins)
set_option maxHeartbeats 4000000 in
theorem atV (p0:Int) (p1:Int) (p2:Int) (p3:Int):ahE KK (.int .i64 p0) (.int .i64 p1) (.int .i64 p2) (.int .i64 p3) []=tm (t142 p0 p1 p2 p3) fun r=>(.ret (.agg [(.int .i64 r.op),(.int .i64 r.rd),(.int .i64 r.rn),(.int .i64 r.rm),(.int .i64 r.ra),(.int .i64 r.imm),(.int .i64 r.cond),(.bool r.wide)]),[]):=by
 simp +contextual -implicitDefEqProofs (maxSteps:=2000000) [-lM,-lF,-lE,-lG,-lK,-lI,-lH,ahE,t142,aa0,V8]
theorem H_ (p0:Int) (p1:Int) (p2:Int) (p3:Int) (h:lD):KK 142 [(.int .i64 p0),(.int .i64 p1),(.int .i64 p2),(.int .i64 p3)] h=tm (t142 p0 p1 p2 p3) fun r=>(.ret (.agg [(.int .i64 r.op),(.int .i64 r.rd),(.int .i64 r.rn),(.int .i64 r.rm),(.int .i64 r.ra),(.int .i64 r.imm),(.int .i64 r.cond),(.bool r.wide)]),h):=nZ rfl rfl (Z_ ..) (atV p0 p1 p2 p3)
def V9 (mm:Nat) (aB:R):Option (nB×lD) :=
 (fun aA aC=>Ex.nR aB.1 (nJ mm aA aC)) (gd aB.2.1 0) aB.2.2
set_option maxHeartbeats 4000000 in
theorem Zd (y0:Int) (y1:Int) (y2:Int) (y3:Int) (y4:Int) (y5:Int) (y6:Int) (y7:Bool) (y8:Int) (y9:Int) (y10:Int) (y11:Int) (y12:Int) (y13:Int) (y14:Int) (y15:Bool) (y16:Int) (y17:Int) (y18:Int) (y19:Int) (y20:Int) (y21:Int) (y22:Int) (y23:Bool) (y24:Int) (y25:Int) (y26:Int) (y27:Int) (y28:Int) (y29:Int) (y30:Int) (y31:Bool) (y32:Int) (y33:Int) (y34:Int) (y35:Int) (y36:Int) (y37:Int) (y38:Int) (y39:Bool) (y40:Int) (y41:Int) (y42:Int) (y43:Int) (y44:Int) (y45:Int) (y46:Int) (y47:Bool) (y48:Int) (y49:Int) (y50:Int) (y51:Int) (y52:Int) (y53:Int) (y54:Int) (y55:Bool) (h:lD):lR 7 8 [(.int .i64 0),(.int .i64 0),(.int .i64 0),(.int .i64 0),(.int .i64 0),(.int .i64 0),(.int .i64 0),(.bool false)] [(0,(.agg [(.int .i64 y0),(.int .i64 y1),(.int .i64 y2),(.int .i64 y3),(.int .i64 y4),(.int .i64 y5),(.int .i64 y6),(.bool y7)])),(1,(.agg [(.int .i64 y8),(.int .i64 y9),(.int .i64 y10),(.int .i64 y11),(.int .i64 y12),(.int .i64 y13),(.int .i64 y14),(.bool y15)])),(2,(.agg [(.int .i64 y16),(.int .i64 y17),(.int .i64 y18),(.int .i64 y19),(.int .i64 y20),(.int .i64 y21),(.int .i64 y22),(.bool y23)])),(3,(.agg [(.int .i64 y24),(.int .i64 y25),(.int .i64 y26),(.int .i64 y27),(.int .i64 y28),(.int .i64 y29),(.int .i64 y30),(.bool y31)])),(4,(.agg [(.int .i64 y32),(.int .i64 y33),(.int .i64 y34),(.int .i64 y35),(.int .i64 y36),(.int .i64 y37),(.int .i64 y38),(.bool y39)])),(5,(.agg [(.int .i64 y40),(.int .i64 y41),(.int .i64 y42),(.int .i64 y43),(.int .i64 y44),(.int .i64 y45),(.int .i64 y46),(.bool y47)])),(6,(.agg [(.int .i64 y48),(.int .i64 y49),(.int .i64 y50),(.int .i64 y51),(.int .i64 y52),(.int .i64 y53),(.int .i64 y54),(.bool y55)]))] h=some (.slice (Rw Ins.cells [(⟨y0,y1,y2,y3,y4,y5,y6,y7⟩:Ins),(⟨y8,y9,y10,y11,y12,y13,y14,y15⟩:Ins),(⟨y16,y17,y18,y19,y20,y21,y22,y23⟩:Ins),(⟨y24,y25,y26,y27,y28,y29,y30,y31⟩:Ins),(⟨y32,y33,y34,y35,y36,y37,y38,y39⟩:Ins),(⟨y40,y41,y42,y43,y44,y45,y46,y47⟩:Ins),(⟨y48,y49,y50,y51,y52,y53,y54,y55⟩:Ins)]) (.own h.length),h++[oK 8 7]):=by
 rfl
def ahF (K:lN) (h0:lD):Option (nB×lD) :=
 ((fun(aN:lC) (aA:lD)=>ca (K 146 [(lC.lL (.int .i64 11)),(lC.lL (.int .i64 4)),(lC.lL (.int .i64 1)),(lC.lL (.int .i64 0))] aA) fun aI aB=>(mD [(.int .i64 0),(.int .i64 0),(.int .i64 0),(.int .i64 0),(.int .i64 0),(.int .i64 0),(.int .i64 0),(.bool false)] [(0,1),(1,1),(2,1),(3,1),(4,1),(5,1),(6,1),(7,1)] [(0,(.int .i64 9)),(1,(.int .i64 5)),(3,(.int .i64 0))]).bind fun aJ=>ca (K 146 [(lC.lL (.int .i64 12)),(lC.lL (.int .i64 6)),(lC.lL (.int .i64 5)),(lC.lL (.int .i64 1))] aB) fun t26 aC=>ca (K 146 [(lC.lL (.int .i64 15)),(lC.lL (.int .i64 5)),(lC.lL (.int .i64 0)),(lC.lL (.int .i64 1))] aC) fun t29 aD=>ca (K 146 [(lC.lL (.int .i64 10)),(lC.lL (.int .i64 2)),(lC.lL (.int .i64 6)),(lC.lL (.int .i64 5))] aD) fun t32 aE=>ca (K 146 [(lC.lL (.int .i64 12)),(lC.lL (.int .i64 6)),(lC.lL (.int .i64 4)),(lC.lL (.int .i64 2))] aE) fun aK aF=>ca (K 142 [(lC.lL (.int .i64 7)),(lC.lL (.int .i64 3)),(lC.lL (.int .i64 6)),(lC.lL (.int .i64 31))] aF) fun aL aG=>lQ (lR 7 8 [(.int .i64 0),(.int .i64 0),(.int .i64 0),(.int .i64 0),(.int .i64 0),(.int .i64 0),(.int .i64 0),(.bool false)] [(0,aI),(1,aJ),(2,t26),(3,t29),(4,t32),(5,aK),(6,aL)] aG) fun aM aH=>some (.ret,[aM],aH)) (.slice (Rw Ins.cells []) (.own (aa8 h0))) (h0++[.front 0 0])).bind (V9 (aa8 h0))
theorem aaA (K:lN) (h0:lD):qG Tryz.prog mY mX K 143 [] h0=ahF (mH mY K) h0:=by kernel_rfl
def t143:Option ((List Ins)) :=
 tb ((t146 11 4 1 0)) fun Ap=>tb ((t146 12 6 5 1)) fun Cq=>tb ((t146 15 5 0 1)) fun C_=>tb ((t146 10 2 6 5)) fun aA=>tb ((t146 12 6 4 2)) fun aB=>tb ((t142 7 3 6 31)) fun aC=>some [Ap,(⟨9,5,0,0,0,0,0,false⟩:Ins),Cq,C_,aA,aB,aC]
set_option maxHeartbeats 4000000 in
theorem atW:ahF KK  []=tm (t143 ) fun r=>(.ret (.slice (Rw Ins.cells r) .no),[]):=by
 simp +contextual -implicitDefEqProofs (maxSteps:=2000000) [-lM,-lF,-lE,-lG,-lK,-lI,-lH,ahF,t143,DM,H_,Zd,V9]
theorem avX (h:lD):KK 143 [] h=tm (t143 ) fun r=>(.ret (.slice (Rw Ins.cells r) .no),h):=nZ rfl rfl (aaA ..) (atW )
def V_ (mm:Nat) (aB:R):Option (nB×lD) :=
 (fun aA aC=>Ex.nR aB.1 (nJ mm aA aC)) (gd aB.2.1 0) aB.2.2
set_option maxHeartbeats 4000000 in
theorem Ze (y0:Int) (y1:Int) (y2:Int) (y3:Int) (y4:Int) (y5:Int) (y6:Int) (y7:Bool) (y8:Int) (y9:Int) (y10:Int) (y11:Int) (y12:Int) (y13:Int) (y14:Int) (y15:Bool) (y16:Int) (y17:Int) (y18:Int) (y19:Int) (y20:Int) (y21:Int) (y22:Int) (y23:Bool) (y24:Int) (y25:Int) (y26:Int) (y27:Int) (y28:Int) (y29:Int) (y30:Int) (y31:Bool) (y32:Int) (y33:Int) (y34:Int) (y35:Int) (y36:Int) (y37:Int) (y38:Int) (y39:Bool) (y40:Int) (y41:Int) (y42:Int) (y43:Int) (y44:Int) (y45:Int) (y46:Int) (y47:Bool) (y48:Int) (y49:Int) (y50:Int) (y51:Int) (y52:Int) (y53:Int) (y54:Int) (y55:Bool) (h:lD):lR 7 8 [(.int .i64 0),(.int .i64 0),(.int .i64 0),(.int .i64 0),(.int .i64 0),(.int .i64 0),(.int .i64 0),(.bool false)] [(0,(.agg [(.int .i64 y0),(.int .i64 y1),(.int .i64 y2),(.int .i64 y3),(.int .i64 y4),(.int .i64 y5),(.int .i64 y6),(.bool y7)])),(1,(.agg [(.int .i64 y8),(.int .i64 y9),(.int .i64 y10),(.int .i64 y11),(.int .i64 y12),(.int .i64 y13),(.int .i64 y14),(.bool y15)])),(2,(.agg [(.int .i64 y16),(.int .i64 y17),(.int .i64 y18),(.int .i64 y19),(.int .i64 y20),(.int .i64 y21),(.int .i64 y22),(.bool y23)])),(3,(.agg [(.int .i64 y24),(.int .i64 y25),(.int .i64 y26),(.int .i64 y27),(.int .i64 y28),(.int .i64 y29),(.int .i64 y30),(.bool y31)])),(4,(.agg [(.int .i64 y32),(.int .i64 y33),(.int .i64 y34),(.int .i64 y35),(.int .i64 y36),(.int .i64 y37),(.int .i64 y38),(.bool y39)])),(5,(.agg [(.int .i64 y40),(.int .i64 y41),(.int .i64 y42),(.int .i64 y43),(.int .i64 y44),(.int .i64 y45),(.int .i64 y46),(.bool y47)])),(6,(.agg [(.int .i64 y48),(.int .i64 y49),(.int .i64 y50),(.int .i64 y51),(.int .i64 y52),(.int .i64 y53),(.int .i64 y54),(.bool y55)]))] h=some (.slice (Rw Ins.cells [(⟨y0,y1,y2,y3,y4,y5,y6,y7⟩:Ins),(⟨y8,y9,y10,y11,y12,y13,y14,y15⟩:Ins),(⟨y16,y17,y18,y19,y20,y21,y22,y23⟩:Ins),(⟨y24,y25,y26,y27,y28,y29,y30,y31⟩:Ins),(⟨y32,y33,y34,y35,y36,y37,y38,y39⟩:Ins),(⟨y40,y41,y42,y43,y44,y45,y46,y47⟩:Ins),(⟨y48,y49,y50,y51,y52,y53,y54,y55⟩:Ins)]) (.own h.length),h++[oK 8 7]):=by
 rfl
def ahG (K:lN) (h0:lD):Option (nB×lD) :=
 ((fun(aL:lC) (aA:lD)=>ca (K 146 [(lC.lL (.int .i64 13)),(lC.lL (.int .i64 4)),(lC.lL (.int .i64 0)),(lC.lL (.int .i64 1))] aA) fun aH aB=>(mD [(.int .i64 0),(.int .i64 0),(.int .i64 0),(.int .i64 0),(.int .i64 0),(.int .i64 0),(.int .i64 0),(.bool false)] [(0,1),(1,1),(2,1),(3,1),(4,1),(5,1),(6,1),(7,1)] [(0,(.int .i64 3)),(1,(.int .i64 5))]).bind fun aI=>ca (K 146 [(lC.lL (.int .i64 15)),(lC.lL (.int .i64 6)),(lC.lL (.int .i64 5)),(lC.lL (.int .i64 4))] aB) fun t26 aC=>ca (K 146 [(lC.lL (.int .i64 12)),(lC.lL (.int .i64 2)),(lC.lL (.int .i64 4)),(lC.lL (.int .i64 6))] aC) fun t29 aD=>ca (K 142 [(lC.lL (.int .i64 6)),(lC.lL (.int .i64 4)),(lC.lL (.int .i64 2)),(lC.lL (.int .i64 31))] aD) fun t32 aE=>(mD [(.int .i64 0),(.int .i64 0),(.int .i64 0),(.int .i64 0),(.int .i64 0),(.int .i64 0),(.int .i64 0),(.bool false)] [(0,1),(1,1),(2,1),(3,1),(4,1),(5,1),(6,1),(7,1)] [(0,(.int .i64 3)),(1,(.int .i64 5)),(5,(.int .i64 1))]).bind fun aJ=>ca (K 146 [(lC.lL (.int .i64 15)),(lC.lL (.int .i64 3)),(lC.lL (.int .i64 4)),(lC.lL (.int .i64 5))] aE) fun t36 aF=>lQ (lR 7 8 [(.int .i64 0),(.int .i64 0),(.int .i64 0),(.int .i64 0),(.int .i64 0),(.int .i64 0),(.int .i64 0),(.bool false)] [(0,aH),(1,aI),(2,t26),(3,t29),(4,t32),(5,aJ),(6,t36)] aF) fun aK aG=>some (.ret,[aK],aG)) (.slice (Rw Ins.cells []) (.own (aa8 h0))) (h0++[.front 0 0])).bind (V_ (aa8 h0))
theorem aaB (K:lN) (h0:lD):qG Tryz.prog mY mX K 144 [] h0=ahG (mH mY K) h0:=by kernel_rfl
def t144:Option ((List Ins)) :=
 tb ((t146 13 4 0 1)) fun Ap=>tb ((t146 15 6 5 4)) fun Cq=>tb ((t146 12 2 4 6)) fun C_=>tb ((t142 6 4 2 31)) fun aA=>tb ((t146 15 3 4 5)) fun aB=>some [Ap,(⟨3,5,0,0,0,0,0,false⟩:Ins),Cq,C_,aA,(⟨3,5,0,0,0,1,0,false⟩:Ins),aB]
set_option maxHeartbeats 4000000 in
theorem atX:ahG KK  []=tm (t144 ) fun r=>(.ret (.slice (Rw Ins.cells r) .no),[]):=by
 simp +contextual -implicitDefEqProofs (maxSteps:=2000000) [-lM,-lF,-lE,-lG,-lK,-lI,-lH,ahG,t144,DM,H_,Ze,V_]
theorem Bo (h:lD):KK 144 [] h=tm (t144 ) fun r=>(.ret (.slice (Rw Ins.cells r) .no),h):=nZ rfl rfl (aaB ..) (atX )
def Wa (mm:Nat) (aB:R):Option (nB×lD) :=
 (fun aA aC=>Ex.nR aB.1 (nJ mm aA aC)) (gd aB.2.1 0) aB.2.2
set_option maxHeartbeats 4000000 in
theorem Zf (y0:Int) (y1:Int) (y2:Int) (y3:Int) (y4:Int) (y5:Int) (y6:Int) (y7:Bool) (y8:Int) (y9:Int) (y10:Int) (y11:Int) (y12:Int) (y13:Int) (y14:Int) (y15:Bool) (y16:Int) (y17:Int) (y18:Int) (y19:Int) (y20:Int) (y21:Int) (y22:Int) (y23:Bool) (y24:Int) (y25:Int) (y26:Int) (y27:Int) (y28:Int) (y29:Int) (y30:Int) (y31:Bool) (y32:Int) (y33:Int) (y34:Int) (y35:Int) (y36:Int) (y37:Int) (y38:Int) (y39:Bool) (y40:Int) (y41:Int) (y42:Int) (y43:Int) (y44:Int) (y45:Int) (y46:Int) (y47:Bool) (h:lD):lR 6 8 [(.int .i64 0),(.int .i64 0),(.int .i64 0),(.int .i64 0),(.int .i64 0),(.int .i64 0),(.int .i64 0),(.bool false)] [(0,(.agg [(.int .i64 y0),(.int .i64 y1),(.int .i64 y2),(.int .i64 y3),(.int .i64 y4),(.int .i64 y5),(.int .i64 y6),(.bool y7)])),(1,(.agg [(.int .i64 y8),(.int .i64 y9),(.int .i64 y10),(.int .i64 y11),(.int .i64 y12),(.int .i64 y13),(.int .i64 y14),(.bool y15)])),(2,(.agg [(.int .i64 y16),(.int .i64 y17),(.int .i64 y18),(.int .i64 y19),(.int .i64 y20),(.int .i64 y21),(.int .i64 y22),(.bool y23)])),(3,(.agg [(.int .i64 y24),(.int .i64 y25),(.int .i64 y26),(.int .i64 y27),(.int .i64 y28),(.int .i64 y29),(.int .i64 y30),(.bool y31)])),(4,(.agg [(.int .i64 y32),(.int .i64 y33),(.int .i64 y34),(.int .i64 y35),(.int .i64 y36),(.int .i64 y37),(.int .i64 y38),(.bool y39)])),(5,(.agg [(.int .i64 y40),(.int .i64 y41),(.int .i64 y42),(.int .i64 y43),(.int .i64 y44),(.int .i64 y45),(.int .i64 y46),(.bool y47)]))] h=some (.slice (Rw Ins.cells [(⟨y0,y1,y2,y3,y4,y5,y6,y7⟩:Ins),(⟨y8,y9,y10,y11,y12,y13,y14,y15⟩:Ins),(⟨y16,y17,y18,y19,y20,y21,y22,y23⟩:Ins),(⟨y24,y25,y26,y27,y28,y29,y30,y31⟩:Ins),(⟨y32,y33,y34,y35,y36,y37,y38,y39⟩:Ins),(⟨y40,y41,y42,y43,y44,y45,y46,y47⟩:Ins)]) (.own h.length),h++[oK 8 6]):=by
 rfl
def ahH (K:lN) (h0:lD):Option (nB×lD) :=
 ((fun(aN:lC) (aA:lD)=>ca (K 146 [(lC.lL (.int .i64 10)),(lC.lL (.int .i64 4)),(lC.lL (.int .i64 0)),(lC.lL (.int .i64 1))] aA) fun aI aB=>ca (K 146 [(lC.lL (.int .i64 14)),(lC.lL (.int .i64 5)),(lC.lL (.int .i64 0)),(lC.lL (.int .i64 1))] aB) fun aJ aC=>ca (K 146 [(lC.lL (.int .i64 12)),(lC.lL (.int .i64 6)),(lC.lL (.int .i64 0)),(lC.lL (.int .i64 1))] aC) fun t28 aD=>ca (K 146 [(lC.lL (.int .i64 11)),(lC.lL (.int .i64 2)),(lC.lL (.int .i64 6)),(lC.lL (.int .i64 5))] aD) fun t31 aE=>ca (K 146 [(lC.lL (.int .i64 12)),(lC.lL (.int .i64 6)),(lC.lL (.int .i64 4)),(lC.lL (.int .i64 2))] aE) fun aK aF=>ca (K 142 [(lC.lL (.int .i64 6)),(lC.lL (.int .i64 3)),(lC.lL (.int .i64 6)),(lC.lL (.int .i64 31))] aF) fun aL aG=>lQ (lR 6 8 [(.int .i64 0),(.int .i64 0),(.int .i64 0),(.int .i64 0),(.int .i64 0),(.int .i64 0),(.int .i64 0),(.bool false)] [(0,aI),(1,aJ),(2,t28),(3,t31),(4,aK),(5,aL)] aG) fun aM aH=>some (.ret,[aM],aH)) (.slice (Rw Ins.cells []) (.own (aa8 h0))) (h0++[.front 0 0])).bind (Wa (aa8 h0))
theorem aaC (K:lN) (h0:lD):qG Tryz.prog mY mX K 145 [] h0=ahH (mH mY K) h0:=by kernel_rfl
def t145:Option ((List Ins)) :=
 tb ((t146 10 4 0 1)) fun Ap=>tb ((t146 14 5 0 1)) fun aA=>tb ((t146 12 6 0 1)) fun Eh=>tb ((t146 11 2 6 5)) fun aB=>tb ((t146 12 6 4 2)) fun Xd=>tb ((t142 6 3 6 31)) fun aC=>some [Ap,aA,Eh,aB,Xd,aC]
set_option maxHeartbeats 4000000 in
theorem atY:ahH KK  []=tm (t145 ) fun r=>(.ret (.slice (Rw Ins.cells r) .no),[]):=by
 simp +contextual -implicitDefEqProofs (maxSteps:=2000000) [-lM,-lF,-lE,-lG,-lK,-lI,-lH,ahH,t145,DM,H_,Zf,Wa]
theorem avY (h:lD):KK 145 [] h=tm (t145 ) fun r=>(.ret (.slice (Rw Ins.cells r) .no),h):=nZ rfl rfl (aaC ..) (atY )
def Wc (mm:Nat) (aA:R):Option (nB×lD) :=
 (fun aB aC=>Ex.nR aA.1 (nJ mm aB aC)) (gd aA.2.1 0) aA.2.2
def LG (K:lN) (m:Nat) (t31:lC) (aB:lC) (aC:lC) (aD:lC) (t26:lC) (aA:lD):Option R :=
 lS t31 (lX m .normal [aB,aC,aD,(.int .i64 2),t26] aA) (lX m .normal [aB,aC,aD,(.int .i64 0),t26] aA)
def D6 (aA:Bool):Option (Int) :=
 tc aA (some 2) (some 0)
set_option maxHeartbeats 4000000 in
theorem aa1 (w32:Bool) (Cq:Int) (p0:Op) (p1:oE):(LG KK 3 (.bool w32) (.ptr 0 0) (.ptr 1 0) (.slice (Rw Ins.cells []) (.own 2)) (.int .i64 Cq) ([.cells [(.int .i64 p0.kind),(.int .i64 p0.dst),(.int .i64 p0.a),(.int .i64 p0.b),(.int .i64 p0.c),(.int .i64 p0.imm)],.cells [(.int .i64 p1.elem),(.int .i64 p1.off),(.bool p1.inp)],.front 0 0]:lD))=tm (D6 w32) fun r=>(.normal,[(.ptr 0 0),(.ptr 1 0),(.slice (Rw Ins.cells []) (.own 2)),(.int .i64 r),(.int .i64 Cq)],([.cells [(.int .i64 p0.kind),(.int .i64 p0.dst),(.int .i64 p0.a),(.int .i64 p0.b),(.int .i64 p0.c),(.int .i64 p0.imm)],.cells [(.int .i64 p1.elem),(.int .i64 p1.off),(.bool p1.inp)],.front 0 0]:lD)):=by
 cases w32 <;> simp +contextual -implicitDefEqProofs (maxSteps:=2000000) [-lM,-lF,-lE,-lG,-lK,-lI,-lH,LG,D6]
def LH (K:lN) (m:Nat) (aG:lC) (aA:lC) (aB:lC) (aC:lC) (aD:lC) (aF:lD) (aE:lC):Option R :=
 lS aG (lX m .normal [aA,aB,aC,aD,(.int .i64 536936448)] aF) (lX m .normal [aA,aB,aC,aD,aE] aF)
def D7 (p1:oE) (Cq:Int):Option (Int) :=
 tc p1.inp (some 536936448) (some Cq)
set_option maxHeartbeats 4000000 in
theorem aa2 (p1:oE) (r33:Int) (p0:Op) (Cq:Int):(LH KK 3 (.bool p1.inp) (.ptr 0 0) (.ptr 1 0) (.slice (Rw Ins.cells []) (.own 2)) (.int .i64 r33) ([.cells [(.int .i64 p0.kind),(.int .i64 p0.dst),(.int .i64 p0.a),(.int .i64 p0.b),(.int .i64 p0.c),(.int .i64 p0.imm)],.cells [(.int .i64 p1.elem),(.int .i64 p1.off),(.bool p1.inp)],.front 0 0]:lD) (.int .i64 Cq))=tm (D7 p1 Cq) fun r=>(.normal,[(.ptr 0 0),(.ptr 1 0),(.slice (Rw Ins.cells []) (.own 2)),(.int .i64 r33),(.int .i64 r)],([.cells [(.int .i64 p0.kind),(.int .i64 p0.dst),(.int .i64 p0.a),(.int .i64 p0.b),(.int .i64 p0.c),(.int .i64 p0.imm)],.cells [(.int .i64 p1.elem),(.int .i64 p1.off),(.bool p1.inp)],.front 0 0]:lD)):=by
 simp +contextual -implicitDefEqProofs (maxSteps:=2000000) [-lM,-lF,-lE,-lG,-lK,-lI,-lH,LH,D7]
set_option maxHeartbeats 4000000 in
theorem Zg (y0:Int) (y1:Int) (y2:Int) (y3:Int) (y4:Int) (y5:Int) (y6:Int) (y7:Bool) (y8:Int) (y9:Int) (y10:Int) (y11:Int) (y12:Int) (y13:Int) (y14:Int) (y15:Bool) (y16:Int) (y17:Int) (y18:Int) (y19:Int) (y20:Int) (y21:Int) (y22:Int) (y23:Bool) (y24:Int) (y25:Int) (y26:Int) (y27:Int) (y28:Int) (y29:Int) (y30:Int) (y31:Bool) (y32:Int) (y33:Int) (y34:Int) (y35:Int) (y36:Int) (y37:Int) (y38:Int) (y39:Bool) (y40:Int) (y41:Int) (y42:Int) (y43:Int) (y44:Int) (y45:Int) (y46:Int) (y47:Bool) (h:lD):lR 6 8 [(.int .i64 0),(.int .i64 0),(.int .i64 0),(.int .i64 0),(.int .i64 0),(.int .i64 0),(.int .i64 0),(.bool false)] [(0,(.agg [(.int .i64 y0),(.int .i64 y1),(.int .i64 y2),(.int .i64 y3),(.int .i64 y4),(.int .i64 y5),(.int .i64 y6),(.bool y7)])),(1,(.agg [(.int .i64 y8),(.int .i64 y9),(.int .i64 y10),(.int .i64 y11),(.int .i64 y12),(.int .i64 y13),(.int .i64 y14),(.bool y15)])),(2,(.agg [(.int .i64 y16),(.int .i64 y17),(.int .i64 y18),(.int .i64 y19),(.int .i64 y20),(.int .i64 y21),(.int .i64 y22),(.bool y23)])),(3,(.agg [(.int .i64 y24),(.int .i64 y25),(.int .i64 y26),(.int .i64 y27),(.int .i64 y28),(.int .i64 y29),(.int .i64 y30),(.bool y31)])),(4,(.agg [(.int .i64 y32),(.int .i64 y33),(.int .i64 y34),(.int .i64 y35),(.int .i64 y36),(.int .i64 y37),(.int .i64 y38),(.bool y39)])),(5,(.agg [(.int .i64 y40),(.int .i64 y41),(.int .i64 y42),(.int .i64 y43),(.int .i64 y44),(.int .i64 y45),(.int .i64 y46),(.bool y47)]))] h=some (.slice (Rw Ins.cells [(⟨y0,y1,y2,y3,y4,y5,y6,y7⟩:Ins),(⟨y8,y9,y10,y11,y12,y13,y14,y15⟩:Ins),(⟨y16,y17,y18,y19,y20,y21,y22,y23⟩:Ins),(⟨y24,y25,y26,y27,y28,y29,y30,y31⟩:Ins),(⟨y32,y33,y34,y35,y36,y37,y38,y39⟩:Ins),(⟨y40,y41,y42,y43,y44,y45,y46,y47⟩:Ins)]) (.own h.length),h++[oK 8 6]):=by
 rfl
def LI (K:lN) (m:Nat) (aG:lC) (aD:lD) (aC:lC) (aA:lC) (aB:lC) (aE:lC):Option R :=
 lS aG ((mD [(.int .i64 0),(.int .i64 0),(.int .i64 0),(.int .i64 0),(.int .i64 0),(.int .i64 0),(.int .i64 0),(.bool false)] [(0,1),(1,1),(2,1),(3,1),(4,1),(5,1),(6,1),(7,1)] [(0,(.int .i64 20)),(1,(.int .i64 1)),(2,(.int .i64 5))]).bind fun aH=>(lW 8 aD aC aH).bind fun aF=>lX m .normal [aA,aB,aE,aC] aF) (lX m .normal [aA,aB,aE,aC] aD)
def D8 (aA:Bool):Option (Ins) :=
 tc aA (some (⟨20,1,5,0,0,0,0,false⟩:Ins)) (some (⟨19,3,5,0,0,0,0,false⟩:Ins))
set_option maxHeartbeats 4000000 in
theorem aa3 (w73:Bool) (p0:Op) (p1:oE) (n72:Nat) (w72:(List Ins)):(LI KK 5 (.bool w73) ([.cells [(.int .i64 p0.kind),(.int .i64 p0.dst),(.int .i64 p0.a),(.int .i64 p0.b),(.int .i64 p0.c),(.int .i64 p0.imm)],.cells [(.int .i64 p1.elem),(.int .i64 p1.off),(.bool p1.inp)],.front 0 0,oK 8 n72,.cells [(.int .i64 19),(.int .i64 3),(.int .i64 5),(.int .i64 0),(.int .i64 0),(.int .i64 0),(.int .i64 0),(.bool false)]]:lD) (.ptr 4 0) (.ptr 1 0) (.slice (Rw Ins.cells []) (.own 2)) (.slice (Rw Ins.cells w72) (.own 3)))=tm (D8 w73) fun r=>(.normal,[(.ptr 1 0),(.slice (Rw Ins.cells []) (.own 2)),(.slice (Rw Ins.cells w72) (.own 3)),(.ptr 4 0)],([.cells [(.int .i64 p0.kind),(.int .i64 p0.dst),(.int .i64 p0.a),(.int .i64 p0.b),(.int .i64 p0.c),(.int .i64 p0.imm)],.cells [(.int .i64 p1.elem),(.int .i64 p1.off),(.bool p1.inp)],.front 0 0,oK 8 n72,.cells [(.int .i64 r.op),(.int .i64 r.rd),(.int .i64 r.rn),(.int .i64 r.rm),(.int .i64 r.ra),(.int .i64 r.imm),(.int .i64 r.cond),(.bool r.wide)]]:lD)):=by
 cases w73 <;> simp +contextual -implicitDefEqProofs (maxSteps:=2000000) [-lM,-lF,-lE,-lG,-lK,-lI,-lH,LI,D8]
def LJ (K:lN) (m:Nat) (aF:lC) (aA:lC) (aD:lD) (aB:lC) (aC:lC):Option R :=
 lS aF (fa 0 aA fun aG=>ld false 1 aD aG fun aH=>bo .add aH (.int .i64 2) fun aI=>fa 0 aA fun aJ=>(lW 1 aD aJ aI).bind fun aE=>lX m .normal [aB,aC,aA] aE) (lX m .normal [aB,aC,aA] aD)
def D9 (aB:Bool) (aA:Ins):Option (Ins) :=
 tc aB (some (⟨(IntKind.wrap .i64 (aA.op+2)),aA.rd,aA.rn,aA.rm,aA.ra,aA.imm,aA.cond,aA.wide⟩:Ins)) (some aA)
set_option maxHeartbeats 4000000 in
theorem aa4 (w86:Bool) (p0:Op) (p1:oE) (n85:Nat) (w85:(List Ins)) (r76:Ins):(LJ KK 5 (.bool w86) (.ptr 4 0) ([.cells [(.int .i64 p0.kind),(.int .i64 p0.dst),(.int .i64 p0.a),(.int .i64 p0.b),(.int .i64 p0.c),(.int .i64 p0.imm)],.cells [(.int .i64 p1.elem),(.int .i64 p1.off),(.bool p1.inp)],.front 0 0,oK 8 n85,.cells [(.int .i64 r76.op),(.int .i64 r76.rd),(.int .i64 r76.rn),(.int .i64 r76.rm),(.int .i64 r76.ra),(.int .i64 r76.imm),(.int .i64 r76.cond),(.bool r76.wide)]]:lD) (.slice (Rw Ins.cells []) (.own 2)) (.slice (Rw Ins.cells w85) (.own 3)))=tm (D9 w86 r76) fun r=>(.normal,[(.slice (Rw Ins.cells []) (.own 2)),(.slice (Rw Ins.cells w85) (.own 3)),(.ptr 4 0)],([.cells [(.int .i64 p0.kind),(.int .i64 p0.dst),(.int .i64 p0.a),(.int .i64 p0.b),(.int .i64 p0.c),(.int .i64 p0.imm)],.cells [(.int .i64 p1.elem),(.int .i64 p1.off),(.bool p1.inp)],.front 0 0,oK 8 n85,.cells [(.int .i64 r.op),(.int .i64 r.rd),(.int .i64 r.rn),(.int .i64 r.rm),(.int .i64 r.ra),(.int .i64 r.imm),(.int .i64 r.cond),(.bool r.wide)]]:lD)):=by
 cases w86 <;> simp +contextual -implicitDefEqProofs (maxSteps:=2000000) [-lM,-lF,-lE,-lG,-lK,-lI,-lH,LJ,D9]
set_option maxHeartbeats 4000000 in
theorem Zh (y0:Int) (y1:Int) (y2:Int) (y3:Int) (y4:Int) (y5:Int) (y6:Int) (y7:Bool) (h:lD):lR 1 8 [(.int .i64 0),(.int .i64 0),(.int .i64 0),(.int .i64 0),(.int .i64 0),(.int .i64 0),(.int .i64 0),(.bool false)] [(0,(.agg [(.int .i64 y0),(.int .i64 y1),(.int .i64 y2),(.int .i64 y3),(.int .i64 y4),(.int .i64 y5),(.int .i64 y6),(.bool y7)]))] h=some (.slice (Rw Ins.cells [(⟨y0,y1,y2,y3,y4,y5,y6,y7⟩:Ins)]) (.own h.length),h++[oK 8 1]):=by
 rfl
def ahJ (K:lN) (a0 a1 a2:lC) (h0:lD):Option (nB×lD) :=
 (lQ (nA 6 h0 a0) fun bO bI=>lQ (nA 3 bI a1) fun bF bC=>(fun(bP:lC) (bJ:lD)=>ca (K 135 [(lC.lL a2)] bJ) fun t26 aX=>fa 0 bF fun t29=>ld false 1 aX t29 fun t30=>bo .eql t30 (.int .i64 4) fun t31=>(LG K (aa8 aX) t31 bO bF bP t26 aX).bind fun aC=>(fun aJ aA aM aP aR aY=>Ex.qZ aC.1 (fa 2 aA fun bQ=>ld false 1 aY bQ fun bR=>(LH K (aa8 aY) bR aJ aA aM aP aY aR).bind fun aD=>(fun aK aB aN aQ aS aV=>Ex.qZ aD.1 (fa 1 aB fun aH=>ld false 1 aV aH fun bS=>(mD [(.int .i64 0),(.int .i64 0),(.int .i64 0),(.int .i64 0),(.int .i64 0),(.int .i64 0),(.int .i64 0),(.bool false)] [(0,1),(1,1),(2,1),(3,1),(4,1),(5,1),(6,1),(7,1)] [(0,(.int .i64 3)),(1,(.int .i64 5)),(5,bS)]).bind fun bT=>(mD [(.int .i64 0),(.int .i64 0),(.int .i64 0),(.int .i64 0),(.int .i64 0),(.int .i64 0),(.int .i64 0),(.bool false)] [(0,1),(1,1),(2,1),(3,1),(4,1),(5,1),(6,1),(7,1)] [(0,(.int .i64 3)),(1,(.int .i64 5))]).bind fun bU=>bo .shr aS (.int .u64 16) fun t53=>(mD [(.int .i64 0),(.int .i64 0),(.int .i64 0),(.int .i64 0),(.int .i64 0),(.int .i64 0),(.int .i64 0),(.bool false)] [(0,1),(1,1),(2,1),(3,1),(4,1),(5,1),(6,1),(7,1)] [(0,(.int .i64 4)),(1,(.int .i64 5)),(5,t53)]).bind fun bV=>(mD [(.int .i64 0),(.int .i64 0),(.int .i64 0),(.int .i64 0),(.int .i64 0),(.int .i64 0),(.int .i64 0),(.bool false)] [(0,1),(1,1),(2,1),(3,1),(4,1),(5,1),(6,1),(7,1)] [(0,(.int .i64 18)),(1,(.int .i64 5)),(2,(.int .i64 6)),(4,(.int .i64 16))]).bind fun bW=>ca (K 142 [(lC.lL (.int .i64 5)),(lC.lL (.int .i64 4)),(lC.lL (.int .i64 0)),(lC.lL aQ)] (r_ (mI [0] [aH]) aV)) fun bX bD=>ca (K 146 [(lC.lL (.int .i64 14)),(lC.lL (.int .i64 6)),(lC.lL (.int .i64 4)),(lC.lL (.int .i64 5))] (r_ (mI [0] [aH]) (nL (mI [0] [aH]) aV bD))) fun t60 bK=>lQ (lR 6 8 [(.int .i64 0),(.int .i64 0),(.int .i64 0),(.int .i64 0),(.int .i64 0),(.int .i64 0),(.int .i64 0),(.bool false)] [(0,bX),(1,bT),(2,t60),(3,bU),(4,bV),(5,bW)] (nL (mI [0] [aH]) (nL (mI [0] [aH]) aV bD) bK)) fun bY bL=>(mD [(.int .i64 0),(.int .i64 0),(.int .i64 0),(.int .i64 0),(.int .i64 0),(.int .i64 0),(.int .i64 0),(.bool false)] [(0,1),(1,1),(2,1),(3,1),(4,1),(5,1),(6,1),(7,1)] [(0,(.int .i64 19)),(1,(.int .i64 3)),(2,(.int .i64 5))]).bind fun bZ=>lQ (nA 8 bL (.agg [(.int .i64 0),(.int .i64 0),(.int .i64 0),(.int .i64 0),(.int .i64 0),(.int .i64 0),(.int .i64 0),(.bool false)])) fun bG bM=>(lW 8 bM bG bZ).bind fun aZ=>fa 0 aK fun b_=>ld false 1 aZ b_ fun t70=>bo .eql t70 (.int .i64 19) fun cA=>(LI K (aa8 aZ) cA aZ bG aB aN bY).bind fun aG=>(fun aL aO aT aE a_=>Ex.qZ aG.1 (fa 0 aL fun cB=>ld false 1 a_ cB fun cC=>bo .eql cC (.int .i64 1) fun cD=>(LJ K (aa8 a_) cD aE a_ aO aT).bind fun aI=>(fun bH aU aF bE=>Ex.qZ aI.1 (ld true 8 bE aF fun cE=>lQ (lR 1 8 [(.int .i64 0),(.int .i64 0),(.int .i64 0),(.int .i64 0),(.int .i64 0),(.int .i64 0),(.int .i64 0),(.bool false)] [(0,cE)] bE) fun cF bN=>lQ (nC 8 64 bN aU cF) fun bB aW=>some (.ret,[bB],aW))) (gd aI.2.1 0) (gd aI.2.1 1) (gd aI.2.1 2) aI.2.2)) (gd aG.2.1 0) (gd aG.2.1 1) (gd aG.2.1 2) (gd aG.2.1 3) aG.2.2)) (gd aD.2.1 0) (gd aD.2.1 1) (gd aD.2.1 2) (gd aD.2.1 3) (gd aD.2.1 4) aD.2.2)) (gd aC.2.1 0) (gd aC.2.1 1) (gd aC.2.1 2) (gd aC.2.1 3) (gd aC.2.1 4) aC.2.2) (.slice (Rw Ins.cells []) (.own (aa8 bC))) (bC++[.front 0 0])).bind (Wc (aa8 h0))
theorem aaE (K:lN) (a0 a1 a2:lC) (h0:lD):qG Tryz.prog mY mX K 147 [a0,a1,a2] h0=ahJ (mH mY K) a0 a1 a2 h0:=by kernel_rfl
def t147 (p0:Op) (p1:oE) (p2:Int):Option ((List Ins)) :=
 tb ((t135 p2)) fun Cq=>tb (D6 (decide (p1.elem=4))) fun aC=>tb (D7 p1 Cq) fun aD=>tb ((Rk .i64 aD 16)) fun aB=>tb ((t142 5 4 0 aC)) fun aE=>tb ((t146 14 6 4 5)) fun aF=>tb (D8 (decide (p0.kind=19))) fun aG=>tb (D9 (decide (p1.elem=1)) aG) fun aH=>tb ((p7 64 [aE,(⟨3,5,0,0,0,p1.off,0,false⟩:Ins),aF,(⟨3,5,0,0,0,0,0,false⟩:Ins),(⟨4,5,0,0,0,aB,0,false⟩:Ins),(⟨18,5,6,0,16,0,0,false⟩:Ins)] [aH])) fun aA=>some aA
set_option maxHeartbeats 4000000 in
theorem at0 (p0:Op) (p1:oE) (p2:Int):ahJ KK (.agg [(.int .i64 p0.kind),(.int .i64 p0.dst),(.int .i64 p0.a),(.int .i64 p0.b),(.int .i64 p0.c),(.int .i64 p0.imm)]) (.agg [(.int .i64 p1.elem),(.int .i64 p1.off),(.bool p1.inp)]) (.int .i64 p2) []=tm (t147 p0 p1 p2) fun r=>(.ret (.slice (Rw Ins.cells r) .no),[]):=by
 simp +contextual -implicitDefEqProofs (maxSteps:=2000000) [-lM,-lF,-lE,-lG,-lK,-lI,-lH,ahJ,t147,CW,aa1,aa2,H_,DM,Zg,aa3,aa4,Zh,Wc]
theorem AS (p0:Op) (p1:oE) (p2:Int) (h:lD):KK 147 [(.agg [(.int .i64 p0.kind),(.int .i64 p0.dst),(.int .i64 p0.a),(.int .i64 p0.b),(.int .i64 p0.c),(.int .i64 p0.imm)]),(.agg [(.int .i64 p1.elem),(.int .i64 p1.off),(.bool p1.inp)]),(.int .i64 p2)] h=tm (t147 p0 p1 p2) fun r=>(.ret (.slice (Rw Ins.cells r) .no),h):=nZ rfl rfl (aaE ..) (at0 p0 p1 p2)
def We (mm:Nat) (MR:R):Option (nB×lD) :=
 (fun aA aB=>Ex.nR MR.1 (nJ mm aA aB)) (gd MR.2.1 0) MR.2.2
def ahK (K:lN) (a0:lC) (h0:lD):Option (nB×lD) :=
 (bo .eql a0 (.int .i64 3) fun aA=>lS aA (some (.ret,[(.int .i64 14)],h0)) (bo .eql a0 (.int .i64 4) fun aB=>lS aB (some (.ret,[(.int .i64 15)],h0)) (bo .eql a0 (.int .i64 5) fun aC=>lS aC (some (.ret,[(.int .i64 16)],h0)) (bo .eql a0 (.int .i64 7) fun t23=>lS t23 (some (.ret,[(.int .i64 10)],h0)) (bo .eql a0 (.int .i64 8) fun t24=>lS t24 (some (.ret,[(.int .i64 12)],h0)) (bo .eql a0 (.int .i64 9) fun aD=>lS aD (some (.ret,[(.int .i64 13)],h0)) (some (.ret,[(.int .i64 0)],h0)))))))).bind (We (aa8 h0))
theorem aaF (K:lN) (a0:lC) (h0:lD):qG Tryz.prog mY mX K 148 [a0] h0=ahK (mH mY K) a0 h0:=by kernel_rfl
def t148 (p0:Int):Option (Int) :=
 tc (decide (p0=3)) (some 14) (tc (decide (p0=4)) (some 15) (tc (decide (p0=5)) (some 16) (tc (decide (p0=7)) (some 10) (tc (decide (p0=8)) (some 12) (tc (decide (p0=9)) (some 13) (some 0))))))
set_option maxHeartbeats 4000000 in
theorem at1 (p0:Int):ahK KK (.int .i64 p0) []=tm (t148 p0) fun r=>(.ret (.int .i64 r),[]):=by
 simp +contextual -implicitDefEqProofs (maxSteps:=2000000) [-lM,-lF,-lE,-lG,-lK,-lI,-lH,ahK,t148,We]
theorem EZ (p0:Int) (h:lD):KK 148 [(.int .i64 p0)] h=tm (t148 p0) fun r=>(.ret (.int .i64 r),h):=nZ rfl rfl (aaF ..) (at1 p0)
def V6 (mm:Nat) (sI:R):Option (nB×lD) :=
 (fun aA aB=>Ex.nR sI.1 (nJ mm aA aB)) (gd sI.2.1 0) sI.2.2
set_option maxHeartbeats 4000000 in
theorem Y5 (y0:Int) (y1:Int) (y2:Int) (y3:Int) (y4:Int) (y5:Int) (y6:Int) (y7:Bool) (h:lD):lR 1 8 [(.int .i64 0),(.int .i64 0),(.int .i64 0),(.int .i64 0),(.int .i64 0),(.int .i64 0),(.int .i64 0),(.bool false)] [(0,(.agg [(.int .i64 y0),(.int .i64 y1),(.int .i64 y2),(.int .i64 y3),(.int .i64 y4),(.int .i64 y5),(.int .i64 y6),(.bool y7)]))] h=some (.slice (Rw Ins.cells [(⟨y0,y1,y2,y3,y4,y5,y6,y7⟩:Ins)]) (.own h.length),h++[oK 8 1]):=by
 rfl
set_option maxHeartbeats 4000000 in
theorem Y6 (y0:Int) (y1:Int) (y2:Int) (y3:Int) (y4:Int) (y5:Int) (y6:Int) (y7:Bool) (h:lD):lR 1 8 [(.int .i64 0),(.int .i64 0),(.int .i64 0),(.int .i64 0),(.int .i64 0),(.int .i64 0),(.int .i64 0),(.bool false)] [(0,(.agg [(.int .i64 y0),(.int .i64 y1),(.int .i64 y2),(.int .i64 y3),(.int .i64 y4),(.int .i64 y5),(.int .i64 y6),(.bool y7)]))] h=some (.slice (Rw Ins.cells [(⟨y0,y1,y2,y3,y4,y5,y6,y7⟩:Ins)]) (.own h.length),h++[oK 8 1]):=by
 rfl
set_option maxHeartbeats 4000000 in
theorem Y7 (y0:Int) (y1:Int) (y2:Int) (y3:Int) (y4:Int) (y5:Int) (y6:Int) (y7:Bool) (h:lD):lR 1 8 [(.int .i64 0),(.int .i64 0),(.int .i64 0),(.int .i64 0),(.int .i64 0),(.int .i64 0),(.int .i64 0),(.bool false)] [(0,(.agg [(.int .i64 y0),(.int .i64 y1),(.int .i64 y2),(.int .i64 y3),(.int .i64 y4),(.int .i64 y5),(.int .i64 y6),(.bool y7)]))] h=some (.slice (Rw Ins.cells [(⟨y0,y1,y2,y3,y4,y5,y6,y7⟩:Ins)]) (.own h.length),h++[oK 8 1]):=by
 rfl
set_option maxHeartbeats 4000000 in
theorem Y8 (y0:Int) (y1:Int) (y2:Int) (y3:Int) (y4:Int) (y5:Int) (y6:Int) (y7:Bool) (h:lD):lR 1 8 [(.int .i64 0),(.int .i64 0),(.int .i64 0),(.int .i64 0),(.int .i64 0),(.int .i64 0),(.int .i64 0),(.bool false)] [(0,(.agg [(.int .i64 y0),(.int .i64 y1),(.int .i64 y2),(.int .i64 y3),(.int .i64 y4),(.int .i64 y5),(.int .i64 y6),(.bool y7)]))] h=some (.slice (Rw Ins.cells [(⟨y0,y1,y2,y3,y4,y5,y6,y7⟩:Ins)]) (.own h.length),h++[oK 8 1]):=by
 rfl
set_option maxHeartbeats 4000000 in
theorem Y9 (y0:Int) (y1:Int) (y2:Int) (y3:Int) (y4:Int) (y5:Int) (y6:Int) (y7:Bool) (h:lD):lR 1 8 [(.int .i64 0),(.int .i64 0),(.int .i64 0),(.int .i64 0),(.int .i64 0),(.int .i64 0),(.int .i64 0),(.bool false)] [(0,(.agg [(.int .i64 y0),(.int .i64 y1),(.int .i64 y2),(.int .i64 y3),(.int .i64 y4),(.int .i64 y5),(.int .i64 y6),(.bool y7)]))] h=some (.slice (Rw Ins.cells [(⟨y0,y1,y2,y3,y4,y5,y6,y7⟩:Ins)]) (.own h.length),h++[oK 8 1]):=by
 rfl
set_option maxHeartbeats 4000000 in
theorem Y_ (y0:Int) (y1:Int) (y2:Int) (y3:Int) (y4:Int) (y5:Int) (y6:Int) (y7:Bool) (h:lD):lR 1 8 [(.int .i64 0),(.int .i64 0),(.int .i64 0),(.int .i64 0),(.int .i64 0),(.int .i64 0),(.int .i64 0),(.bool false)] [(0,(.agg [(.int .i64 y0),(.int .i64 y1),(.int .i64 y2),(.int .i64 y3),(.int .i64 y4),(.int .i64 y5),(.int .i64 y6),(.bool y7)]))] h=some (.slice (Rw Ins.cells [(⟨y0,y1,y2,y3,y4,y5,y6,y7⟩:Ins)]) (.own h.length),h++[oK 8 1]):=by
 rfl
set_option maxHeartbeats 4000000 in
theorem Za (y0:Int) (y1:Int) (y2:Int) (y3:Int) (y4:Int) (y5:Int) (y6:Int) (y7:Bool) (y8:Int) (y9:Int) (y10:Int) (y11:Int) (y12:Int) (y13:Int) (y14:Int) (y15:Bool) (y16:Int) (y17:Int) (y18:Int) (y19:Int) (y20:Int) (y21:Int) (y22:Int) (y23:Bool) (h:lD):lR 3 8 [(.int .i64 0),(.int .i64 0),(.int .i64 0),(.int .i64 0),(.int .i64 0),(.int .i64 0),(.int .i64 0),(.bool false)] [(0,(.agg [(.int .i64 y0),(.int .i64 y1),(.int .i64 y2),(.int .i64 y3),(.int .i64 y4),(.int .i64 y5),(.int .i64 y6),(.bool y7)])),(1,(.agg [(.int .i64 y8),(.int .i64 y9),(.int .i64 y10),(.int .i64 y11),(.int .i64 y12),(.int .i64 y13),(.int .i64 y14),(.bool y15)])),(2,(.agg [(.int .i64 y16),(.int .i64 y17),(.int .i64 y18),(.int .i64 y19),(.int .i64 y20),(.int .i64 y21),(.int .i64 y22),(.bool y23)]))] h=some (.slice (Rw Ins.cells [(⟨y0,y1,y2,y3,y4,y5,y6,y7⟩:Ins),(⟨y8,y9,y10,y11,y12,y13,y14,y15⟩:Ins),(⟨y16,y17,y18,y19,y20,y21,y22,y23⟩:Ins)]) (.own h.length),h++[oK 8 3]):=by
 rfl
def Lx (K:lN) (m:Nat) (aF:lC) (a2:lC) (aC:lC) (aD:lC) (aE:lC) (aB:lD) (aG:lC):Option R :=
 lS aF (lX m .normal [a2,aC,aD,aE,aF] aB) (bo .eql aG (.int .i64 19) fun aA=>lX m .normal [a2,aC,aD,aE,aA] aB)
def D1 (aA:Bool) (p0:Op):Option (Bool) :=
 tc aA (some aA) (some (decide (p0.kind=19)))
set_option maxHeartbeats 4000000 in
theorem aaX (w108:Bool) (p2:Int) (p0:Op) (p1:oE):(Lx KK 3 (.bool w108) (.int .i64 p2) (.ptr 0 0) (.ptr 1 0) (.slice (Rw Ins.cells []) (.own 2)) ([.cells [(.int .i64 p0.kind),(.int .i64 p0.dst),(.int .i64 p0.a),(.int .i64 p0.b),(.int .i64 p0.c),(.int .i64 p0.imm)],.cells [(.int .i64 p1.elem),(.int .i64 p1.off),(.bool p1.inp)],.front 0 0]:lD) (.int .i64 p0.kind))=tm (D1 w108 p0) fun r=>(.normal,[(.int .i64 p2),(.ptr 0 0),(.ptr 1 0),(.slice (Rw Ins.cells []) (.own 2)),(.bool r)],([.cells [(.int .i64 p0.kind),(.int .i64 p0.dst),(.int .i64 p0.a),(.int .i64 p0.b),(.int .i64 p0.c),(.int .i64 p0.imm)],.cells [(.int .i64 p1.elem),(.int .i64 p1.off),(.bool p1.inp)],.front 0 0]:lD)):=by
 cases w108 <;> simp +contextual -implicitDefEqProofs (maxSteps:=2000000) [-lM,-lF,-lE,-lG,-lK,-lI,-lH,Lx,D1]
set_option maxHeartbeats 4000000 in
theorem Zb (y0:Int) (y1:Int) (y2:Int) (y3:Int) (y4:Int) (y5:Int) (y6:Int) (y7:Bool) (h:lD):lR 1 8 [(.int .i64 0),(.int .i64 0),(.int .i64 0),(.int .i64 0),(.int .i64 0),(.int .i64 0),(.int .i64 0),(.bool false)] [(0,(.agg [(.int .i64 y0),(.int .i64 y1),(.int .i64 y2),(.int .i64 y3),(.int .i64 y4),(.int .i64 y5),(.int .i64 y6),(.bool y7)]))] h=some (.slice (Rw Ins.cells [(⟨y0,y1,y2,y3,y4,y5,y6,y7⟩:Ins)]) (.own h.length),h++[oK 8 1]):=by
 rfl
def ag9 (K:lN) (a0 a1 a2:lC) (h0:lD):Option (nB×lD) :=
 (lQ (nA 6 h0 a0) fun aI aU=>lQ (nA 3 aU a1) fun bN aT=>(fun(bO:lC) (aA:lD)=>fa 0 aI fun t26=>ld false 1 aA t26 fun aC=>bo .eql aC (.int .i64 1) fun t28=>lS t28 (fa 5 aI fun t29=>ld false 1 aA t29 fun t30=>ca (K 60 [(lC.lL (.int .i64 3)),(lC.lL t30)] aA) fun t31 aV=>some (.ret,[t31],aV)) (bo .eql aC (.int .i64 2) fun bP=>lS bP (ca (K 142 [(lC.lL (.int .i64 5)),(lC.lL (.int .i64 3)),(lC.lL (.int .i64 0)),(lC.lL (.int .i64 0))] aA) fun bQ aW=>lQ (lR 1 8 [(.int .i64 0),(.int .i64 0),(.int .i64 0),(.int .i64 0),(.int .i64 0),(.int .i64 0),(.int .i64 0),(.bool false)] [(0,bQ)] aW) fun bR aX=>some (.ret,[bR],aX)) (bo .eql aC (.int .i64 6) fun bS=>lS bS ((mD [(.int .i64 0),(.int .i64 0),(.int .i64 0),(.int .i64 0),(.int .i64 0),(.int .i64 0),(.int .i64 0),(.bool false)] [(0,1),(1,1),(2,1),(3,1),(4,1),(5,1),(6,1),(7,1)] [(0,(.int .i64 17)),(1,(.int .i64 4)),(4,(.int .i64 3)),(2,(.int .i64 0)),(3,(.int .i64 1))]).bind fun bT=>lQ (lR 1 8 [(.int .i64 0),(.int .i64 0),(.int .i64 0),(.int .i64 0),(.int .i64 0),(.int .i64 0),(.int .i64 0),(.bool false)] [(0,bT)] aA) fun bU aY=>some (.ret,[bU],aY)) (bo .eql aC (.int .i64 10) fun bV=>lS bV ((mD [(.int .i64 0),(.int .i64 0),(.int .i64 0),(.int .i64 0),(.int .i64 0),(.int .i64 0),(.int .i64 0),(.bool false)] [(0,1),(1,1),(2,1),(3,1),(4,1),(5,1),(6,1),(7,1)] [(0,(.int .i64 9)),(1,(.int .i64 3)),(3,(.int .i64 0))]).bind fun bW=>lQ (lR 1 8 [(.int .i64 0),(.int .i64 0),(.int .i64 0),(.int .i64 0),(.int .i64 0),(.int .i64 0),(.int .i64 0),(.bool false)] [(0,bW)] aA) fun bX aZ=>some (.ret,[bX],aZ)) (bo .eql aC (.int .i64 11) fun bY=>lS bY (fa 5 aI fun bZ=>ld false 1 aA bZ fun b_=>ca (K 142 [(lC.lL (.int .i64 5)),(lC.lL (.int .i64 3)),(lC.lL (.int .i64 0)),(lC.lL b_)] aA) fun cA a_=>lQ (lR 1 8 [(.int .i64 0),(.int .i64 0),(.int .i64 0),(.int .i64 0),(.int .i64 0),(.int .i64 0),(.int .i64 0),(.bool false)] [(0,cA)] a_) fun cB bB=>some (.ret,[cB],bB)) (bo .eql aC (.int .i64 12) fun cC=>lS cC (fa 5 aI fun cD=>ld false 1 aA cD fun cE=>ca (K 142 [(lC.lL (.int .i64 6)),(lC.lL (.int .i64 3)),(lC.lL (.int .i64 0)),(lC.lL cE)] aA) fun cF bC=>lQ (lR 1 8 [(.int .i64 0),(.int .i64 0),(.int .i64 0),(.int .i64 0),(.int .i64 0),(.int .i64 0),(.int .i64 0),(.bool false)] [(0,cF)] bC) fun cG bD=>some (.ret,[cG],bD)) (bo .eql aC (.int .i64 13) fun cH=>lS cH (fa 5 aI fun cI=>ld false 1 aA cI fun cJ=>ca (K 142 [(lC.lL (.int .i64 8)),(lC.lL (.int .i64 3)),(lC.lL (.int .i64 0)),(lC.lL cJ)] aA) fun cK bE=>lQ (lR 1 8 [(.int .i64 0),(.int .i64 0),(.int .i64 0),(.int .i64 0),(.int .i64 0),(.int .i64 0),(.int .i64 0),(.bool false)] [(0,cK)] bE) fun t70 bF=>some (.ret,[t70],bF)) (bo .eql aC (.int .i64 14) fun cL=>lS cL (ca (K 143 [] aA) fun t73 bG=>some (.ret,[t73],bG)) (bo .eql aC (.int .i64 15) fun cM=>lS cM (ca (K 144 [] aA) fun cN bH=>some (.ret,[cN],bH)) (bo .eql aC (.int .i64 16) fun cO=>lS cO (ca (K 145 [] aA) fun cP bI=>some (.ret,[cP],bI)) (bo .eql aC (.int .i64 17) fun cQ=>lS cQ (ca (K 146 [(lC.lL (.int .i64 10)),(lC.lL (.int .i64 4)),(lC.lL (.int .i64 0)),(lC.lL (.int .i64 2))] aA) fun cR bJ=>ca (K 146 [(lC.lL (.int .i64 11)),(lC.lL (.int .i64 5)),(lC.lL (.int .i64 1)),(lC.lL (.int .i64 2))] bJ) fun cS bK=>ca (K 146 [(lC.lL (.int .i64 12)),(lC.lL (.int .i64 3)),(lC.lL (.int .i64 4)),(lC.lL (.int .i64 5))] bK) fun cT bL=>lQ (lR 3 8 [(.int .i64 0),(.int .i64 0),(.int .i64 0),(.int .i64 0),(.int .i64 0),(.int .i64 0),(.int .i64 0),(.bool false)] [(0,cR),(1,cS),(2,cT)] bL) fun cU bM=>some (.ret,[cU],bM)) (bo .eql aC (.int .i64 18) fun cV=>(Lx K (aa8 aA) cV a2 aI bN bO aA aC).bind fun aB=>(fun aG aE aH aS aF aD=>Ex.qZ aB.1 (lS aF (ld true 6 aD aE fun aN=>ld true 3 aD aH fun aO=>ca (K 147 [(lC.lL aN),(lC.lL aO),(lC.lL aG)] aD) fun aP aJ=>some (.ret,[aP],aJ)) (fa 0 aE fun aQ=>ld false 1 aD aQ fun aR=>ca (K 148 [(lC.lL aR)] aD) fun t124 aK=>ca (K 146 [(lC.lL t124),(lC.lL (.int .i64 3)),(lC.lL (.int .i64 0)),(lC.lL (.int .i64 1))] aK) fun t127 aL=>lQ (lR 1 8 [(.int .i64 0),(.int .i64 0),(.int .i64 0),(.int .i64 0),(.int .i64 0),(.int .i64 0),(.int .i64 0),(.bool false)] [(0,t127)] aL) fun t130 aM=>some (.ret,[t130],aM)))) (gd aB.2.1 0) (gd aB.2.1 1) (gd aB.2.1 2) (gd aB.2.1 3) (gd aB.2.1 4) aB.2.2)))))))))))) (.slice (Rw Ins.cells []) (.own (aa8 aT))) (aT++[.front 0 0])).bind (V6 (aa8 h0))
theorem Z6 (K:lN) (a0 a1 a2:lC) (h0:lD):qG Tryz.prog mY mX K 138 [a0,a1,a2] h0=ag9 (mH mY K) a0 a1 a2 h0:=by kernel_rfl
def t138 (p0:Op) (p1:oE) (p2:Int):Option ((List Ins)) :=
 tc (decide (p0.kind=1)) (tb ((t60 3 p0.imm)) fun aC=>some aC) (tc (decide (p0.kind=2)) (tb ((t142 5 3 0 0)) fun aD=>some [aD]) (tc (decide (p0.kind=6)) (some [(⟨17,4,0,1,3,0,0,false⟩:Ins)]) (tc (decide (p0.kind=10)) (some [(⟨9,3,0,0,0,0,0,false⟩:Ins)]) (tc (decide (p0.kind=11)) (tb ((t142 5 3 0 p0.imm)) fun Ml=>some [Ml]) (tc (decide (p0.kind=12)) (tb ((t142 6 3 0 p0.imm)) fun aE=>some [aE]) (tc (decide (p0.kind=13)) (tb ((t142 8 3 0 p0.imm)) fun aF=>some [aF]) (tc (decide (p0.kind=14)) (tb ((t143 )) fun aG=>some aG) (tc (decide (p0.kind=15)) (tb ((t144 )) fun aH=>some aH) (tc (decide (p0.kind=16)) (tb ((t145 )) fun aI=>some aI) (tc (decide (p0.kind=17)) (tb ((t146 10 4 0 2)) fun aJ=>tb ((t146 11 5 1 2)) fun aK=>tb ((t146 12 3 4 5)) fun aL=>some [aJ,aK,aL]) (tb (D1 (decide (p0.kind=18)) p0) fun aA=>tc aA (tb ((t147 p0 p1 p2)) fun aB=>some aB) (tb ((t148 p0.kind)) fun aaN=>tb ((t146 aaN 3 0 1)) fun aaO=>some [aaO]))))))))))))
set_option maxHeartbeats 4000000 in
theorem atQ (p0:Op) (p1:oE) (p2:Int):ag9 KK (.agg [(.int .i64 p0.kind),(.int .i64 p0.dst),(.int .i64 p0.a),(.int .i64 p0.b),(.int .i64 p0.c),(.int .i64 p0.imm)]) (.agg [(.int .i64 p1.elem),(.int .i64 p1.off),(.bool p1.inp)]) (.int .i64 p2) []=tm (t138 p0 p1 p2) fun r=>(.ret (.slice (Rw Ins.cells r) .no),[]):=by
 simp -implicitDefEqProofs (maxSteps:=2000000) [-lM,-lF,-lE,-lG,-lK,-lI,-lH,ag9,t138,Ei,H_,Y5,Y6,Y7,Y8,Y9,Y_,avX,Bo,avY,DM,Za,aaX,AS,EZ,Zb,V6]
theorem apQ (p0:Op) (p1:oE) (p2:Int) (h:lD):KK 138 [(.agg [(.int .i64 p0.kind),(.int .i64 p0.dst),(.int .i64 p0.a),(.int .i64 p0.b),(.int .i64 p0.c),(.int .i64 p0.imm)]),(.agg [(.int .i64 p1.elem),(.int .i64 p1.off),(.bool p1.inp)]),(.int .i64 p2)] h=tm (t138 p0 p1 p2) fun r=>(.ret (.slice (Rw Ins.cells r) .no),h):=nZ rfl rfl (Z6 ..) (atQ p0 p1 p2)
def VZ (mm:Nat) (aA:R):Option (nB×lD) :=
 (fun aB aC aD=>Ex.nR aA.1 (nJ mm (.tuple [aB,aC]) aD)) (gd aA.2.1 0) (gd aA.2.1 1) aA.2.2
def Gg (K:lN) (m:Nat) (s:List lC×lD):Option R :=
 (fun aD aE aF aG aH aI aB aC aA aJ=>bo .lss aA aC fun aN=>lS aN (ix 1 aB aA fun aO=>ld false 1 aJ aO fun aP=>ca (K 130 [(lC.lL aP)] aJ) fun aQ aK=>ca (K 129 [(lC.lL aQ),(lC.lL aD),(lC.lL aA)] aK) fun aR aL=>lQ (nC 8 64 aL aI aR) fun aS aM=>bo .add aA (.int .i64 1) fun aT=>lX m .normal [aD,aE,aF,aG,aH,aS,aB,aC,aT] aM) (lX m (.exit 0) [aD,aE,aF,aG,aH,aI,aB,aC,aA] aJ)) (gd s.1 0) (gd s.1 1) (gd s.1 2) (gd s.1 3) (gd s.1 4) (gd s.1 5) (gd s.1 6) (gd s.1 7) (gd s.1 8) s.2
def Aw (p2:Int) (aC:(List Int)) (aF:Int) (aA:(List Ins)×Int):Option (Ey×(List Ins)×Int) :=
 tc (decide (aA.2<aF)) (tb ((oV aC aA.2)) fun aE=>tb ((t130 aE)) fun Ei=>tb ((t129 Ei p2 aA.2)) fun aD=>tb ((p7 64 aA.1 aD)) fun aB=>some (.n,(aB,(IntKind.wrap .i64 (aA.2+1))))) (some ((.x 0),(aA.1,aA.2)))
set_option maxHeartbeats 4000000 in
theorem YQ (p2:Int) (r39:(List Int)) (w42:Int) (p0:Op) (p1:oE) (s43:(List Ins)×Int):Gg KK 4 ([(.int .i64 p2),(.ptr 0 0),(.ptr 1 0),(.slice (Rw Ins.cells []) (.own 2)),(.int .i64 0),(.slice (Rw Ins.cells s43.1) (.own 3)),(.slice (Rw (ci .i64) r39) .no),(.int .i64 w42),(.int .i64 s43.2)],([.cells [(.int .i64 p0.kind),(.int .i64 p0.dst),(.int .i64 p0.a),(.int .i64 p0.b),(.int .i64 p0.c),(.int .i64 p0.imm)],.cells [(.int .i64 p1.elem),(.int .i64 p1.off),(.bool p1.inp)],.front 0 0,oK 8 (aa8 s43.1)]:lD))=tm (Aw p2 r39 w42 s43) fun r=>(r.1.ex,[(.int .i64 p2),(.ptr 0 0),(.ptr 1 0),(.slice (Rw Ins.cells []) (.own 2)),(.int .i64 0),(.slice (Rw Ins.cells r.2.1) (.own 3)),(.slice (Rw (ci .i64) r39) .no),(.int .i64 w42),(.int .i64 r.2.2)],([.cells [(.int .i64 p0.kind),(.int .i64 p0.dst),(.int .i64 p0.a),(.int .i64 p0.b),(.int .i64 p0.c),(.int .i64 p0.imm)],.cells [(.int .i64 p1.elem),(.int .i64 p1.off),(.bool p1.inp)],.front 0 0,oK 8 (aa8 r.2.1)]:lD)):=by
 simp +contextual -implicitDefEqProofs (maxSteps:=2000000) [-lM,-lF,-lE,-lG,-lK,-lI,-lH,Gg,Aw,ai6,aaO]
theorem aaS (p2:Int) (r39:(List Int)) (w42:Int) (p0:Op) (p1:oE) (i6:Int):mX (Gg KK 4) ([(.int .i64 p2),(.ptr 0 0),(.ptr 1 0),(.slice (Rw Ins.cells []) (.own 2)),(.int .i64 0),(.slice (Rw Ins.cells []) (.own 3)),(.slice (Rw (ci .i64) r39) .no),(.int .i64 w42),(.int .i64 i6)],([.cells [(.int .i64 p0.kind),(.int .i64 p0.dst),(.int .i64 p0.a),(.int .i64 p0.b),(.int .i64 p0.c),(.int .i64 p0.imm)],.cells [(.int .i64 p1.elem),(.int .i64 p1.off),(.bool p1.inp)],.front 0 0,.front 0 0]:lD))=tm (tY (Aw p2 r39 w42) ([],i6)) fun r=>(r.1.ex,[(.int .i64 p2),(.ptr 0 0),(.ptr 1 0),(.slice (Rw Ins.cells []) (.own 2)),(.int .i64 0),(.slice (Rw Ins.cells r.2.1) (.own 3)),(.slice (Rw (ci .i64) r39) .no),(.int .i64 w42),(.int .i64 r.2.2)],([.cells [(.int .i64 p0.kind),(.int .i64 p0.dst),(.int .i64 p0.a),(.int .i64 p0.b),(.int .i64 p0.c),(.int .i64 p0.imm)],.cells [(.int .i64 p1.elem),(.int .i64 p1.off),(.bool p1.inp)],.front 0 0,oK 8 (aa8 r.2.1)]:lD)):=by
 exact uP (enc:=fun s43=>([(.int .i64 p2),(.ptr 0 0),(.ptr 1 0),(.slice (Rw Ins.cells []) (.own 2)),(.int .i64 0),(.slice (Rw Ins.cells s43.1) (.own 3)),(.slice (Rw (ci .i64) r39) .no),(.int .i64 w42),(.int .i64 s43.2)],([.cells [(.int .i64 p0.kind),(.int .i64 p0.dst),(.int .i64 p0.a),(.int .i64 p0.b),(.int .i64 p0.c),(.int .i64 p0.imm)],.cells [(.int .i64 p1.elem),(.int .i64 p1.off),(.bool p1.inp)],.front 0 0,oK 8 (aa8 s43.1)]:lD))) (fun s43=>YQ p2 r39 w42 p0 p1 s43) ([],i6)
set_option maxHeartbeats 4000000 in
theorem Y3 (y0:List Ins) (y1:List Ins) (h:lD):lR 2 1 [(.slice (Rw Ins.cells []) .nil)] [(0,(.slice (Rw Ins.cells y0) (.own 3))),(1,(.slice (Rw Ins.cells y1) .no))] h=some (.slice (Rw (uN Ins.cells) [y0,y1]) (.own h.length),h++[oK 1 2]):=by
 rfl
set_option maxHeartbeats 4000000 in
theorem Y4 (y0:List Ins) (y1:List Ins) (h:lD):lR 2 1 [(.slice (Rw Ins.cells []) .nil)] [(0,(.slice (Rw Ins.cells y0) .no)),(1,(.slice (Rw Ins.cells y1) .no))] h=some (.slice (Rw (uN Ins.cells) [y0,y1]) (.own h.length),h++[oK 1 2]):=by
 rfl
def Ll (K:lN) (m:Nat) (aP:lC) (aD:lC) (aI:lD) (aC:lC) (aO:lC) (aA:lC) (aB:lC):Option R :=
 lS aP (fa 1 aD fun aQ=>ld false 1 aI aQ fun aJ=>ca (K 130 [(lC.lL aJ)] aI) fun aK aE=>ca (K 139 [(lC.lL aK),(lC.lL aC),(lC.lL (.int .i64 3))] aE) fun aL aF=>lQ (lR 2 1 [(.slice (Rw Ins.cells []) .nil)] [(0,aO),(1,aL)] aF) fun aM aG=>ca (K 137 [(lC.lL aM)] aG) fun aN aH=>lX m .normal [aA,aB,aN] aH) (lX m .normal [aA,aB,aO] aI)
def DU (aE:Bool) (p0:Op) (p2:Int) (aD:(List Ins)):Option ((List Ins)) :=
 tc aE (tb ((t130 p0.dst)) fun aA=>tb ((t139 aA p2 3)) fun aB=>tb ((t137 [aD,aB])) fun aC=>some aC) (some aD)
set_option maxHeartbeats 4000000 in
theorem aaR (r94:Bool) (p0:Op) (p1:oE) (w97:Nat) (w98:Nat) (p2:Int) (r90:(List Ins)):(Ll KK 5 (.bool r94) (.ptr 0 0) ([.cells [(.int .i64 p0.kind),(.int .i64 p0.dst),(.int .i64 p0.a),(.int .i64 p0.b),(.int .i64 p0.c),(.int .i64 p0.imm)],.cells [(.int .i64 p1.elem),(.int .i64 p1.off),(.bool p1.inp)],.front 0 0,oK 8 w97,oK 1 w98]:lD) (.int .i64 p2) (.slice (Rw Ins.cells r90) .no) (.slice (Rw Ins.cells []) (.own 2)) (.int .i64 0))=tm (DU r94 p0 p2 r90) fun r=>(.normal,[(.slice (Rw Ins.cells []) (.own 2)),(.int .i64 0),(.slice (Rw Ins.cells r) .no)],([.cells [(.int .i64 p0.kind),(.int .i64 p0.dst),(.int .i64 p0.a),(.int .i64 p0.b),(.int .i64 p0.c),(.int .i64 p0.imm)],.cells [(.int .i64 p1.elem),(.int .i64 p1.off),(.bool p1.inp)],.front 0 0,oK 8 w97,oK 1 w98]:lD)):=by
 cases r94 <;> simp +contextual -implicitDefEqProofs (maxSteps:=2000000) [-lM,-lF,-lE,-lG,-lK,-lI,-lH,Ll,DU,ai6,CX,Y4,apP]
def ag3 (K:lN) (a0 a1 a2:lC) (h0:lD):Option (nB×lD) :=
 (lQ (nA 6 h0 a0) fun aN bC=>lQ (nA 3 bC a1) fun aY aT=>(fun(bG:lC) (aM:lD)=>ld true 6 aM aN fun t26=>ld true 3 aM aY fun bH=>ca (K 136 [(lC.lL t26),(lC.lL bH),(lC.lL a2)] aM) fun t28 aJ=>(xX .not t28).bind fun t31=>lS t31 ((fun(bI:lC) (bD:lD)=>some (.ret,[bI,(.int .i64 2)],bD)) (.slice (Rw Ins.cells []) (.own (aa8 aJ))) (aJ++[.front 0 0])) ((fun(bJ:lC) (aU:lD)=>ld true 6 aU aN fun t36=>ca (K 36 [(lC.lL t36)] aU) fun aZ aV=>ln aZ fun bK=>(mX (Gg K (aa8 aV)) ([a2,aN,aY,bG,(.int .i64 0),bJ,aZ,bK,(.int .i64 0)],aV)).bind fun aB=>(fun aD aC aH aE aF aI aO aP aQ aK=>Ex.mO aB.1 none (fun a_=>Ex.inBlock 0 a_ (ld true 6 aK aC fun bL=>ld true 3 aK aH fun bM=>ca (K 138 [(lC.lL bL),(lC.lL bM),(lC.lL aD)] aK) fun bN bE=>lQ (lR 2 1 [(.slice (Rw Ins.cells []) .nil)] [(0,aI),(1,bN)] bE) fun bO bF=>ca (K 137 [(lC.lL bO)] bF) fun bP aW=>ld true 6 aW aC fun bQ=>ca (K 73 [(lC.lL bQ)] aW) fun bR aX=>(Ll K (aa8 aX) bR aC aX aD bP aE aF).bind fun aA=>(fun aR aS aG aL=>Ex.qZ aA.1 (some (.ret,[aG,(.int .i64 0)],aL))) (gd aA.2.1 0) (gd aA.2.1 1) (gd aA.2.1 2) aA.2.2) (fun bB=>some (bB,[aE,aF],aK)))) (gd aB.2.1 0) (gd aB.2.1 1) (gd aB.2.1 2) (gd aB.2.1 3) (gd aB.2.1 4) (gd aB.2.1 5) (gd aB.2.1 6) (gd aB.2.1 7) (gd aB.2.1 8) aB.2.2) (.slice (Rw Ins.cells []) (.own (aa8 aJ))) (aJ++[.front 0 0]))) (.slice (Rw Ins.cells []) (.own (aa8 aT))) (aT++[.front 0 0])).bind (VZ (aa8 h0))
theorem Z0 (K:lN) (a0 a1 a2:lC) (h0:lD):qG Tryz.prog mY mX K 132 [a0,a1,a2] h0=ag3 (mH mY K) a0 a1 a2 h0:=by kernel_rfl
def t132 (p0:Op) (p1:oE) (p2:Int):Option ((List Ins)×Int) :=
 tb ((t136 p0 p1 p2)) fun Eh=>tc (!Eh) (some ([],2)) (tb ((t36 p0)) fun aB=>tb (tY (Aw p2 aB ((aa8 aB:Nat):Int)) ([],0)) fun aC=>xD aC.1 none fun aD=>xF 0 aD (tb ((t138 p0 p1 p2)) fun aF=>tb ((t137 [aC.2.1,aF])) fun aG=>tb ((t73 p0)) fun aH=>tb (DU aH p0 p2 aG) fun aA=>some (aA,0)) fun aE=>JC aE (some ([],0)))
set_option maxHeartbeats 4000000 in
theorem atK (p0:Op) (p1:oE) (p2:Int):ag3 KK (.agg [(.int .i64 p0.kind),(.int .i64 p0.dst),(.int .i64 p0.a),(.int .i64 p0.b),(.int .i64 p0.c),(.int .i64 p0.imm)]) (.agg [(.int .i64 p1.elem),(.int .i64 p1.off),(.bool p1.inp)]) (.int .i64 p2) []=tm (t132 p0 p1 p2) fun r=>(.ret (.tuple [(.slice (Rw Ins.cells r.1) .no),(.int .i64 r.2)]),[]):=by
 simp +contextual -implicitDefEqProofs (maxSteps:=2000000) [-lM,-lF,-lE,-lG,-lK,-lI,-lH,ag3,t132,apO,Xd,aaS,apQ,Y3,apP,r73,aaR,VZ]
theorem sI (p0:Op) (p1:oE) (p2:Int) (h:lD):KK 132 [(.agg [(.int .i64 p0.kind),(.int .i64 p0.dst),(.int .i64 p0.a),(.int .i64 p0.b),(.int .i64 p0.c),(.int .i64 p0.imm)]),(.agg [(.int .i64 p1.elem),(.int .i64 p1.off),(.bool p1.inp)]),(.int .i64 p2)] h=tm (t132 p0 p1 p2) fun r=>(.ret (.tuple [(.slice (Rw Ins.cells r.1) .no),(.int .i64 r.2)]),h):=nZ rfl rfl (Z0 ..) (atK p0 p1 p2)
end
end Go.Proofs.YtgllbnabmglcfaaGreatDoor
