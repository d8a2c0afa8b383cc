/-
  The texts YM.C, YM.O, YM.E0, YM.TA, YM.GT, YM.S1, YM.TB, YM.TC, one behind another. No conditions.
-/
import Derived.Test.YtgllbnabmglcfaaGreatDoorIm1
import Derived.Test.YtgllbnabmglcfaaGreatDoorVt1
set_option linter.unusedVariables false
set_option linter.unusedSimpArgs false
set_option linter.all false
open List renaming length → aa5
namespace Go.Proofs.YtgllbnabmglcfaaGreatDoor
section
open Go Hk
theorem Op.pW (x:Op):x.cells=[.int .i64 x.kind,.int .i64 x.dst,.int .i64 x.a,.int .i64 x.b,.int .i64 x.c,.int .i64 x.imm]:=(rfl)
theorem Term.pW (x:Term):x.cells=[.int .i64 x.kind,.int .i64 x.a,.int .i64 x.yes,.int .i64 x.no]:=(rfl)
theorem nH.pW (x:nH):x.cells=[.int .i64 x.elem,.int .i64 x.len,.int .i64 x.kind,.int .i64 x.off]:=(rfl)
theorem mU.pW (x:mU):x.cells=[.slice (Rw Op.cells x.ops) .no,.int .i64 x.term.kind,.int .i64 x.term.a,.int .i64 x.term.yes,.int .i64 x.term.no]:=(rfl)
attribute [simp] Op.pW Term.pW nH.pW mU.pW
structure Span where
 first:Int
 last:Int
 deriving DecidableEq
def Span.cells (x:Span):List lS:=[.int .i64 x.first,.int .i64 x.last]
theorem Span.pW (x:Span):x.cells=[.int .i64 x.first,.int .i64 x.last]:=(rfl)
structure m_ where
 slots:List Int
 most:Int
 bad:Bool
attribute [simp] Span.pW
def JO (o:Op):Option Bool:=some (oH o.kind).dst
theorem apQ (o:Op) (h:lT):KK 73 [.agg [.int .i64 o.kind,.int .i64 o.dst,.int .i64 o.a,.int .i64 o.b,.int .i64 o.c,.int .i64 o.imm]] h=tm (JO o) fun r=>(.ret (.bool r),h):=c73 o h
def Kv (o:Op):Option (List Int):=some (pK o)
theorem awT (o:Op) (h:lT):KK 36 [.agg [.int .i64 o.kind,.int .i64 o.dst,.int .i64 o.a,.int .i64 o.b,.int .i64 o.c,.int .i64 o.imm]] h=tm (Kv o) fun r=>(.ret (.slice (Rw (ci .i64) r) .no),h):=c36 o h
theorem awU (a b c d e f:Int) (h:lT):KK 36 [.agg [.int .i64 a,.int .i64 b,.int .i64 c,.int .i64 d,.int .i64 e,.int .i64 f]] h=tm (Kv ⟨a,b,c,d,e,f⟩) fun r=>(.ret (.slice (Rw (ci .i64) r) .no),h):=c36 ⟨a,b,c,d,e,f⟩ h
def Wf (p:IR):Option Int:=some (pB p)
theorem rt9 (p:IR) (h:lT):KK 9 [.agg [.int .i64 p.temps,.slice (Rw nH.cells p.arrays) .no,.slice (Rw mU.cells p.blocks) .no,.int .i64 p.inn,.int .i64 p.out]] h=tm (Wf p) fun r=>(.ret (.int .i64 r),h):=c9 p h
end
end Go.Proofs.YtgllbnabmglcfaaGreatDoor
namespace Hk
section
open Go
def fO (rows:List (List lS)) (j:Nat) (h:lT) (b:Option mT):Option (nT×lT):=match b with
 | some (.front a c)=>some (.ret (.slice rows (.own 0)),[.front a c])
 | _=>De 0 (.slice rows (.own j)) h
@[simp] theorem au4 {rows:List (List lS)}{j:Nat}{h:lT}:De 0 (.slice rows (.own j)) h=fO rows j h h[j]?:=by
 unfold fO
 split
 ·rename_i b a c hj
  have e:IV 0 (.slice rows (.own j)) h=[j]:=by
   simp [IV,reach,Mh,LW,lS.refs,lS.yQ,uS,hj]
  unfold De
  rw [e]
  have hd:h.getD j .free=.front a c:=by simp [List.getD,hj]
  simp [Xh,Um,yI,tG,lS.ok,lS.JV,lS.vH,lS.Ak,uS,AF,hj,hd]
 ·rfl
@[simp] theorem aAZ {rows:List (List lS)}{j sz n:Nat}{h:lT}:fO rows j h (some (oR sz n))=some (.ret (.slice rows (.own 0)),[oR sz n]):=(rfl)
@[simp] theorem auZ {rows:List (List lS)}{j a c:Nat}{h:lT}:fO rows j h (some (.front a c))=some (.ret (.slice rows (.own 0)),[.front a c]):=(rfl)
theorem q7 {rows:List (List lS)}{sz n:Nat}{h:lT}:tW true h (.ret (.slice rows (.own 0)),[oR sz n])=some (.ret (.slice rows (.own h.length)),h++[oR sz n]):=by
 simp [tW,lS.ok,lS.JV,lS.vH,lS.Ak,uS,nT.vH,nT.ok]
end
end Hk
namespace Go.Proofs.YtgllbnabmglcfaaGreatDoor
section
open Go Hk
structure Sz where
 inn:Int
 outt:Int
 rail:Int
 deriving DecidableEq
def Sz.cells (x:Sz):List lS:=[.int .i64 x.inn,.int .i64 x.outt,.int .i64 x.rail]
@[simp] theorem Sz.pW (x:Sz):x.cells=[.int .i64 x.inn,.int .i64 x.outt,.int .i64 x.rail]:=(rfl)
structure Ins where
 op:Int
 rd:Int
 rn:Int
 rm:Int
 ra:Int
 imm:Int
 cond:Int
 wide:Bool
 deriving DecidableEq
def Ins.cells (x:Ins):List lS:=[.int .i64 x.op,.int .i64 x.rd,.int .i64 x.rn,.int .i64 x.rm,.int .i64 x.ra,.int .i64 x.imm,.int .i64 x.cond,.bool x.wide]
@[simp] theorem Ins.pW (x:Ins):x.cells=[.int .i64 x.op,.int .i64 x.rd,.int .i64 x.rn,.int .i64 x.rm,.int .i64 x.ra,.int .i64 x.imm,.int .i64 x.cond,.bool x.wide]:=(rfl)
structure mS where
 kind:Int
 label:Int
 ins:Ins
 deriving DecidableEq
def mS.cells (x:mS):List lS:=[.int .i64 x.kind,.int .i64 x.label,.int .i64 x.ins.op,.int .i64 x.ins.rd,.int .i64 x.ins.rn,.int .i64 x.ins.rm,.int .i64 x.ins.ra,.int .i64 x.ins.imm,.int .i64 x.ins.cond,.bool x.ins.wide]
@[simp] theorem mS.pW (x:mS):x.cells=[.int .i64 x.kind,.int .i64 x.label,.int .i64 x.ins.op,.int .i64 x.ins.rd,.int .i64 x.ins.rn,.int .i64 x.ins.rm,.int .i64 x.ins.ra,.int .i64 x.ins.imm,.int .i64 x.ins.cond,.bool x.ins.wide]:=(rfl)
structure uV where
 image:Int
 arrays:List Int
 size:Int
 deriving DecidableEq
def uV.cells (x:uV):List lS:=[.int .i64 x.image,.slice (Rw (ci .i64) x.arrays) .no,.int .i64 x.size]
@[simp] theorem uV.pW (x:uV):x.cells=[.int .i64 x.image,.slice (Rw (ci .i64) x.arrays) .no,.int .i64 x.size]:=(rfl)
structure oW where
 elem:Int
 off:Int
 inp:Bool
 deriving DecidableEq
def oW.cells (x:oW):List lS:=[.int .i64 x.elem,.int .i64 x.off,.bool x.inp]
@[simp] theorem oW.pW (x:oW):x.cells=[.int .i64 x.elem,.int .i64 x.off,.bool x.inp]:=(rfl)
structure Fm where
 rd:Int
 rn:Int
 rm:Int
 ra:Int
 least:Int
 most:Int
 deriving DecidableEq
def Fm.cells (x:Fm):List lS:=[.int .i64 x.rd,.int .i64 x.rn,.int .i64 x.rm,.int .i64 x.ra,.int .i64 x.least,.int .i64 x.most]
@[simp] theorem Fm.pW (x:Fm):x.cells=[.int .i64 x.rd,.int .i64 x.rn,.int .i64 x.rm,.int .i64 x.ra,.int .i64 x.least,.int .i64 x.most]:=(rfl)
structure Lay where
 n:Int
 deriving DecidableEq
def Lay.cells (x:Lay):List lS:=[.int .i64 x.n]
@[simp] theorem Lay.pW (x:Lay):x.cells=[.int .i64 x.n]:=(rfl)
structure Bf where
 lay:Lay
 deriving DecidableEq
def Bf.cells (x:Bf):List lS:=[.int .i64 x.lay.n]
@[simp] theorem Bf.pW (x:Bf):x.cells=[.int .i64 x.lay.n]:=(rfl)
abbrev t36:=Kv
abbrev t73:=JO
abbrev t9:=Wf
theorem Pz (o:Op) (h:lT):KK 36 [.agg [.int .i64 o.kind,.int .i64 o.dst,.int .i64 o.a,.int .i64 o.b,.int .i64 o.c,.int .i64 o.imm]] h=tm (t36 o) fun r=>(.ret (.slice (Rw (ci .i64) r) .no),h):=awT o h
theorem r73 (o:Op) (h:lT):KK 73 [.agg [.int .i64 o.kind,.int .i64 o.dst,.int .i64 o.a,.int .i64 o.b,.int .i64 o.c,.int .i64 o.imm]] h=tm (t73 o) fun r=>(.ret (.bool r),h):=apQ o h
theorem r9 (p:IR) (h:lT):KK 9 [.agg [.int .i64 p.temps,.slice (Rw nH.cells p.arrays) .no,.slice (Rw mU.cells p.blocks) .no,.int .i64 p.inn,.int .i64 p.out]] h=tm (t9 p) fun r=>(.ret (.int .i64 r),h):=rt9 p h
end
noncomputable section
open Go Hk
def TW (mm:Nat) (Hf:R):Option (nT×lT) :=
 (fun aA aB=>Ex.oA Hf.1 (nZ mm aA aB)) (gd Hf.2.1 0) Hf.2.2
def RQ (K:mA) (t28:lS) (aA:lT):Option R :=
 some (.ret,[t28],aA)
def B2 (aA:Bool):Option (Bool) :=
 some aA
theorem ao6 (w31:Bool):((RQ KK (.bool w31) ([]:lT))).bind (TW 0)=tm (B2 w31) fun r=>(.ret (.bool r),[]):=by
 cases w31 <;> simp [-l9,-lV,-lU,-lW,-lZ,-lY,-lX,RQ,B2,TW]
def m31 (K:mA) (a0 a1 a2:lS) (h0:lT):Option (nT×lT) :=
 (bo .geq a0 a1 fun aA=>gS true aA (mM a0 h0) h0 fun aE aB=>gS true aA (mM a2 aB) aB fun t23 aC=>gS true aA (bo .leq aE t23 fun aF=>mM aF aC) aC fun t26 aD=>(nA aA t26 (.bool false)).bind fun t28=>RQ K t28 aD).bind (TW (aa5 h0))
theorem anF (K:mA) (a0 a1 a2:lS) (h0:lT):p9 Tryz.prog nM nL K 31 [a0,a1,a2] h0=m31 (mW nM K) a0 a1 a2 h0:=by kernel_rfl
def t31 (p0:Int) (p1:Int) (p2:Int):Option (Bool) :=
 tc (decide (p1≤p0)) (B2 (decide (p0≤p2))) (B2 false)
theorem b31 (p0:Int) (p1:Int) (p2:Int):m31 KK (.int .i64 p0) (.int .i64 p1) (.int .i64 p2) []=tm (t31 p0 p1 p2) fun r=>(.ret (.bool r),[]):=by
 simp +contextual [-l9,-lV,-lU,-lW,-lZ,-lY,-lX,m31,t31,TW,ao6]
theorem Bk (p0:Int) (p1:Int) (p2:Int) (h:lT):KK 31 [(.int .i64 p0),(.int .i64 p1),(.int .i64 p2)] h=tm (t31 p0 p1 p2) fun r=>(.ret (.bool r),h):=oE rfl rfl (anF ..) (b31 p0 p1 p2)
def aiF (mm:Nat) (Px:R):Option (nT×lT) :=
 (fun aA aB aC=>Ex.oA Px.1 ((mF true 6 aC aA).bind fun t163=>nZ mm (.tuple [t163,aB]) aC)) (gd Px.2.1 0) (gd Px.2.1 1) Px.2.2
def Rz (K:mA) (m:Nat) (t28:lS) (aB:lS) (a0:lS) (aA:lT):Option R :=
 mH t28 (mK m .normal [aB,(.bool false),a0,t28] aA) (bo .eql a0 (.int .i64 4) fun t32=>mK m .normal [aB,(.bool false),a0,t32] aA)
def B1 (aA:Bool) (p0:Int):Option (Bool) :=
 tc aA (some aA) (some (decide (p0=4)))
theorem aoW (w31:Bool) (p0:Int):(Rz KK 1 (.bool w31) (.ptr 0 0) (.int .i64 p0) ([.cells [(.int .i64 0),(.int .i64 0),(.int .i64 0),(.int .i64 0),(.int .i64 0),(.int .i64 0)]]:lT))=tm (B1 w31 p0) fun r=>(.normal,[(.ptr 0 0),(.bool false),(.int .i64 p0),(.bool r)],([.cells [(.int .i64 0),(.int .i64 0),(.int .i64 0),(.int .i64 0),(.int .i64 0),(.int .i64 0)]]:lT)):=by
 cases w31 <;> simp [-l9,-lV,-lU,-lW,-lZ,-lY,-lX,Rz,B1]
def RI (K:mA) (m:Nat) (aE:lS) (aB:lS) (aC:lS) (aA:lS) (aD:lT):Option R :=
 mH aE (mK m .normal [aB,aC,aA,aE] aD) (bo .eql aA (.int .i64 8) fun aF=>mK m .normal [aB,aC,aA,aF] aD)
def Jo (aA:Bool) (p0:Int):Option (Bool) :=
 tc aA (some aA) (some (decide (p0=8)))
theorem aoY (w48:Bool) (p0:Int):(RI KK 1 (.bool w48) (.ptr 0 0) (.bool false) (.int .i64 p0) ([.cells [(.int .i64 0),(.int .i64 0),(.int .i64 0),(.int .i64 0),(.int .i64 0),(.int .i64 0)]]:lT))=tm (Jo w48 p0) fun r=>(.normal,[(.ptr 0 0),(.bool false),(.int .i64 p0),(.bool r)],([.cells [(.int .i64 0),(.int .i64 0),(.int .i64 0),(.int .i64 0),(.int .i64 0),(.int .i64 0)]]:lT)):=by
 cases w48 <;> simp [-l9,-lV,-lU,-lW,-lZ,-lY,-lX,RI,Jo]
def RH (K:mA) (m:Nat) (aJ:lS) (aB:lS) (aC:lS) (aA:lS) (aI:lT):Option R :=
 mH aJ (mK m .normal [aB,aC,aA,aJ] aI) (bo .eql aA (.int .i64 7) fun aL=>(RI K (aa5 aI) aL aB aC aA aI).bind fun aE=>(fun aF aG aH aD aK=>Ex.rQ aE.1 (mK m .normal [aF,aG,aH,aD] aK)) (gd aE.2.1 0) (gd aE.2.1 1) (gd aE.2.1 2) (gd aE.2.1 3) aE.2.2)
def Jn (aA:Bool) (p0:Int):Option (Bool) :=
 tc aA (some aA) (tb (Jo (decide (p0=7)) p0) fun aB=>some aB)
theorem aoX (w46:Bool) (p0:Int):(RH KK 1 (.bool w46) (.ptr 0 0) (.bool false) (.int .i64 p0) ([.cells [(.int .i64 0),(.int .i64 0),(.int .i64 0),(.int .i64 0),(.int .i64 0),(.int .i64 0)]]:lT))=tm (Jn w46 p0) fun r=>(.normal,[(.ptr 0 0),(.bool false),(.int .i64 p0),(.bool r)],([.cells [(.int .i64 0),(.int .i64 0),(.int .i64 0),(.int .i64 0),(.int .i64 0),(.int .i64 0)]]:lT)):=by
 cases w46 <;> simp [-l9,-lV,-lU,-lW,-lZ,-lY,-lX,RH,Jn,aoY]
def RO (K:mA) (m:Nat) (aE:lS) (aB:lS) (aC:lS) (aA:lS) (aD:lT):Option R :=
 mH aE (mK m .normal [aB,aC,aA,aE] aD) (bo .eql aA (.int .i64 16) fun aF=>mK m .normal [aB,aC,aA,aF] aD)
def NV (aA:Bool) (p0:Int):Option (Bool) :=
 tc aA (some aA) (some (decide (p0=16)))
theorem ao4 (w79:Bool) (p0:Int):(RO KK 1 (.bool w79) (.ptr 0 0) (.bool false) (.int .i64 p0) ([.cells [(.int .i64 0),(.int .i64 0),(.int .i64 0),(.int .i64 0),(.int .i64 0),(.int .i64 0)]]:lT))=tm (NV w79 p0) fun r=>(.normal,[(.ptr 0 0),(.bool false),(.int .i64 p0),(.bool r)],([.cells [(.int .i64 0),(.int .i64 0),(.int .i64 0),(.int .i64 0),(.int .i64 0),(.int .i64 0)]]:lT)):=by
 cases w79 <;> simp [-l9,-lV,-lU,-lW,-lZ,-lY,-lX,RO,NV]
def RN (K:mA) (m:Nat) (aJ:lS) (aB:lS) (aC:lS) (aA:lS) (aI:lT):Option R :=
 mH aJ (mK m .normal [aB,aC,aA,aJ] aI) (bo .eql aA (.int .i64 15) fun aL=>(RO K (aa5 aI) aL aB aC aA aI).bind fun aE=>(fun aF aG aH aD aK=>Ex.rQ aE.1 (mK m .normal [aF,aG,aH,aD] aK)) (gd aE.2.1 0) (gd aE.2.1 1) (gd aE.2.1 2) (gd aE.2.1 3) aE.2.2)
def NU (aA:Bool) (p0:Int):Option (Bool) :=
 tc aA (some aA) (tb (NV (decide (p0=15)) p0) fun aB=>some aB)
theorem ao3 (w77:Bool) (p0:Int):(RN KK 1 (.bool w77) (.ptr 0 0) (.bool false) (.int .i64 p0) ([.cells [(.int .i64 0),(.int .i64 0),(.int .i64 0),(.int .i64 0),(.int .i64 0),(.int .i64 0)]]:lT))=tm (NU w77 p0) fun r=>(.normal,[(.ptr 0 0),(.bool false),(.int .i64 p0),(.bool r)],([.cells [(.int .i64 0),(.int .i64 0),(.int .i64 0),(.int .i64 0),(.int .i64 0),(.int .i64 0)]]:lT)):=by
 cases w77 <;> simp [-l9,-lV,-lU,-lW,-lZ,-lY,-lX,RN,NU,ao4]
def RM (K:mA) (m:Nat) (aJ:lS) (aB:lS) (aC:lS) (aA:lS) (aI:lT):Option R :=
 mH aJ (mK m .normal [aB,aC,aA,aJ] aI) (bo .eql aA (.int .i64 14) fun aL=>(RN K (aa5 aI) aL aB aC aA aI).bind fun aE=>(fun aF aG aH aD aK=>Ex.rQ aE.1 (mK m .normal [aF,aG,aH,aD] aK)) (gd aE.2.1 0) (gd aE.2.1 1) (gd aE.2.1 2) (gd aE.2.1 3) aE.2.2)
def NT (aA:Bool) (p0:Int):Option (Bool) :=
 tc aA (some aA) (tb (NU (decide (p0=14)) p0) fun aB=>some aB)
theorem ao2 (w75:Bool) (p0:Int):(RM KK 1 (.bool w75) (.ptr 0 0) (.bool false) (.int .i64 p0) ([.cells [(.int .i64 0),(.int .i64 0),(.int .i64 0),(.int .i64 0),(.int .i64 0),(.int .i64 0)]]:lT))=tm (NT w75 p0) fun r=>(.normal,[(.ptr 0 0),(.bool false),(.int .i64 p0),(.bool r)],([.cells [(.int .i64 0),(.int .i64 0),(.int .i64 0),(.int .i64 0),(.int .i64 0),(.int .i64 0)]]:lT)):=by
 cases w75 <;> simp [-l9,-lV,-lU,-lW,-lZ,-lY,-lX,RM,NT,ao3]
def RL (K:mA) (m:Nat) (aJ:lS) (aB:lS) (aC:lS) (aA:lS) (aI:lT):Option R :=
 mH aJ (mK m .normal [aB,aC,aA,aJ] aI) (bo .eql aA (.int .i64 13) fun aL=>(RM K (aa5 aI) aL aB aC aA aI).bind fun aE=>(fun aF aG aH aD aK=>Ex.rQ aE.1 (mK m .normal [aF,aG,aH,aD] aK)) (gd aE.2.1 0) (gd aE.2.1 1) (gd aE.2.1 2) (gd aE.2.1 3) aE.2.2)
def NS (aA:Bool) (p0:Int):Option (Bool) :=
 tc aA (some aA) (tb (NT (decide (p0=13)) p0) fun aB=>some aB)
theorem ao1 (w73:Bool) (p0:Int):(RL KK 1 (.bool w73) (.ptr 0 0) (.bool false) (.int .i64 p0) ([.cells [(.int .i64 0),(.int .i64 0),(.int .i64 0),(.int .i64 0),(.int .i64 0),(.int .i64 0)]]:lT))=tm (NS w73 p0) fun r=>(.normal,[(.ptr 0 0),(.bool false),(.int .i64 p0),(.bool r)],([.cells [(.int .i64 0),(.int .i64 0),(.int .i64 0),(.int .i64 0),(.int .i64 0),(.int .i64 0)]]:lT)):=by
 cases w73 <;> simp [-l9,-lV,-lU,-lW,-lZ,-lY,-lX,RL,NS,ao2]
def RK (K:mA) (m:Nat) (t70:lS) (aC:lS) (aD:lS) (aA:lS) (aJ:lT):Option R :=
 mH t70 (mK m .normal [aC,aD,aA,t70] aJ) (bo .eql aA (.int .i64 12) fun aK=>(RL K (aa5 aJ) aK aC aD aA aJ).bind fun aH=>(fun aE aF aG aB aI=>Ex.rQ aH.1 (mK m .normal [aE,aF,aG,aB] aI)) (gd aH.2.1 0) (gd aH.2.1 1) (gd aH.2.1 2) (gd aH.2.1 3) aH.2.2)
def NR (aA:Bool) (p0:Int):Option (Bool) :=
 tc aA (some aA) (tb (NS (decide (p0=12)) p0) fun aB=>some aB)
theorem ao0 (w71:Bool) (p0:Int):(RK KK 1 (.bool w71) (.ptr 0 0) (.bool false) (.int .i64 p0) ([.cells [(.int .i64 0),(.int .i64 0),(.int .i64 0),(.int .i64 0),(.int .i64 0),(.int .i64 0)]]:lT))=tm (NR w71 p0) fun r=>(.normal,[(.ptr 0 0),(.bool false),(.int .i64 p0),(.bool r)],([.cells [(.int .i64 0),(.int .i64 0),(.int .i64 0),(.int .i64 0),(.int .i64 0),(.int .i64 0)]]:lT)):=by
 cases w71 <;> simp [-l9,-lV,-lU,-lW,-lZ,-lY,-lX,RK,NR,ao1]
def RJ (K:mA) (m:Nat) (aK:lS) (aD:lS) (aE:lS) (aB:lS) (aJ:lT):Option R :=
 mH aK (mK m .normal [aD,aE,aB,aK] aJ) (bo .eql aB (.int .i64 11) fun t70=>(RK K (aa5 aJ) t70 aD aE aB aJ).bind fun aA=>(fun aF aG aH aC aI=>Ex.rQ aA.1 (mK m .normal [aF,aG,aH,aC] aI)) (gd aA.2.1 0) (gd aA.2.1 1) (gd aA.2.1 2) (gd aA.2.1 3) aA.2.2)
def NQ (aB:Bool) (p0:Int):Option (Bool) :=
 tc aB (some aB) (tb (NR (decide (p0=11)) p0) fun aA=>some aA)
theorem aoZ (w69:Bool) (p0:Int):(RJ KK 1 (.bool w69) (.ptr 0 0) (.bool false) (.int .i64 p0) ([.cells [(.int .i64 0),(.int .i64 0),(.int .i64 0),(.int .i64 0),(.int .i64 0),(.int .i64 0)]]:lT))=tm (NQ w69 p0) fun r=>(.normal,[(.ptr 0 0),(.bool false),(.int .i64 p0),(.bool r)],([.cells [(.int .i64 0),(.int .i64 0),(.int .i64 0),(.int .i64 0),(.int .i64 0),(.int .i64 0)]]:lT)):=by
 cases w69 <;> simp [-l9,-lV,-lU,-lW,-lZ,-lY,-lX,RJ,NQ,ao0]
def M9 (K:mA) (m:Nat) (t131:lS) (aB:lS) (aC:lS) (aA:lS) (aD:lT):Option R :=
 mH t131 (mK m .normal [aB,aC,aA,t131] aD) (bo .eql aA (.int .i64 22) fun t133=>mK m .normal [aB,aC,aA,t133] aD)
def Hm (aA:Bool) (p0:Int):Option (Bool) :=
 tc aA (some aA) (some (decide (p0=22)))
theorem afK (w132:Bool) (p0:Int):(M9 KK 1 (.bool w132) (.ptr 0 0) (.bool false) (.int .i64 p0) ([.cells [(.int .i64 0),(.int .i64 0),(.int .i64 0),(.int .i64 0),(.int .i64 0),(.int .i64 0)]]:lT))=tm (Hm w132 p0) fun r=>(.normal,[(.ptr 0 0),(.bool false),(.int .i64 p0),(.bool r)],([.cells [(.int .i64 0),(.int .i64 0),(.int .i64 0),(.int .i64 0),(.int .i64 0),(.int .i64 0)]]:lT)):=by
 cases w132 <;> simp [-l9,-lV,-lU,-lW,-lZ,-lY,-lX,M9,Hm]
def M8 (K:mA) (m:Nat) (t129:lS) (aB:lS) (aC:lS) (aA:lS) (aE:lT):Option R :=
 mH t129 (mK m .normal [aB,aC,aA,t129] aE) (bo .eql aA (.int .i64 21) fun t131=>(M9 K (aa5 aE) t131 aB aC aA aE).bind fun wD=>(fun aF aG aH aD aI=>Ex.rQ wD.1 (mK m .normal [aF,aG,aH,aD] aI)) (gd wD.2.1 0) (gd wD.2.1 1) (gd wD.2.1 2) (gd wD.2.1 3) wD.2.2)
def Hl (aA:Bool) (p0:Int):Option (Bool) :=
 tc aA (some aA) (tb (Hm (decide (p0=21)) p0) fun wD=>some wD)
theorem afJ (w130:Bool) (p0:Int):(M8 KK 1 (.bool w130) (.ptr 0 0) (.bool false) (.int .i64 p0) ([.cells [(.int .i64 0),(.int .i64 0),(.int .i64 0),(.int .i64 0),(.int .i64 0),(.int .i64 0)]]:lT))=tm (Hl w130 p0) fun r=>(.normal,[(.ptr 0 0),(.bool false),(.int .i64 p0),(.bool r)],([.cells [(.int .i64 0),(.int .i64 0),(.int .i64 0),(.int .i64 0),(.int .i64 0),(.int .i64 0)]]:lT)):=by
 cases w130 <;> simp [-l9,-lV,-lU,-lW,-lZ,-lY,-lX,M8,Hl,afK]
def RP (K:mA) (m:Nat) (t125:lS) (aB:lS) (aC:lS) (aA:lS) (aE:lT):Option R :=
 mH t125 (mK m .normal [aB,aC,aA,t125] aE) (bo .eql aA (.int .i64 20) fun t129=>(M8 K (aa5 aE) t129 aB aC aA aE).bind fun Ds=>(fun aF aG aH aD aI=>Ex.rQ Ds.1 (mK m .normal [aF,aG,aH,aD] aI)) (gd Ds.2.1 0) (gd Ds.2.1 1) (gd Ds.2.1 2) (gd Ds.2.1 3) Ds.2.2)
def NW (aA:Bool) (p0:Int):Option (Bool) :=
 tc aA (some aA) (tb (Hl (decide (p0=20)) p0) fun Ds=>some Ds)
theorem ao5 (w128:Bool) (p0:Int):(RP KK 1 (.bool w128) (.ptr 0 0) (.bool false) (.int .i64 p0) ([.cells [(.int .i64 0),(.int .i64 0),(.int .i64 0),(.int .i64 0),(.int .i64 0),(.int .i64 0)]]:lT))=tm (NW w128 p0) fun r=>(.normal,[(.ptr 0 0),(.bool false),(.int .i64 p0),(.bool r)],([.cells [(.int .i64 0),(.int .i64 0),(.int .i64 0),(.int .i64 0),(.int .i64 0),(.int .i64 0)]]:lT)):=by
 cases w128 <;> simp [-l9,-lV,-lU,-lW,-lZ,-lY,-lX,RP,NW,afJ]
def m30 (K:mA) (a0:lS) (h0:lT):Option (nT×lT) :=
 (mC (nP 6 h0 (.agg [(.int .i64 0),(.int .i64 0),(.int .i64 0),(.int .i64 0),(.int .i64 0),(.int .i64 0)])) fun aS aV=>bo .eql a0 (.int .i64 1) fun bR=>mH bR ((mV [(.int .i64 0),(.int .i64 0),(.int .i64 0),(.int .i64 0),(.int .i64 0),(.int .i64 0)] [(0,1),(1,1),(2,1),(3,1),(4,1),(5,1)] [(0,(.int .i64 (-1))),(1,(.int .i64 (-1))),(2,(.int .i64 (-1))),(3,(.int .i64 (-1))),(4,(.int .i64 0)),(5,(.int .i64 0))]).bind fun t23=>(mL 6 aV aS t23).bind fun bL=>some (.ret,[aS,(.bool true)],bL)) (bo .eql a0 (.int .i64 2) fun bS=>mH bS ((mV [(.int .i64 0),(.int .i64 0),(.int .i64 0),(.int .i64 0),(.int .i64 0),(.int .i64 0)] [(0,1),(1,1),(2,1),(3,1),(4,1),(5,1)] [(0,(.int .i64 (-1))),(1,(.int .i64 (-1))),(2,(.int .i64 (-1))),(3,(.int .i64 (-1))),(4,(.int .i64 0)),(5,(.int .i64 255))]).bind fun t26=>(mL 6 aV aS t26).bind fun bM=>some (.ret,[aS,(.bool true)],bM)) (bo .eql a0 (.int .i64 3) fun t28=>(Rz K (aa5 aV) t28 aS a0 aV).bind fun aQ=>(fun aD aT aH aM aW=>Ex.rQ aQ.1 (mH aM ((mV [(.int .i64 0),(.int .i64 0),(.int .i64 0),(.int .i64 0),(.int .i64 0),(.int .i64 0)] [(0,1),(1,1),(2,1),(3,1),(4,1),(5,1)] [(0,(.int .i64 12)),(1,(.int .i64 (-1))),(2,(.int .i64 (-1))),(3,(.int .i64 (-1))),(4,(.int .i64 0)),(5,(.int .i64 65535))]).bind fun bT=>(mL 6 aW aD bT).bind fun bN=>some (.ret,[aD,(.bool true)],bN)) (bo .eql aH (.int .i64 5) fun bU=>mH bU ((mV [(.int .i64 0),(.int .i64 0),(.int .i64 0),(.int .i64 0),(.int .i64 0),(.int .i64 0)] [(0,1),(1,1),(2,1),(3,1),(4,1),(5,1)] [(0,(.int .i64 12)),(1,(.int .i64 (-1))),(2,(.int .i64 12)),(3,(.int .i64 (-1))),(4,(.int .i64 0)),(5,(.int .i64 31))]).bind fun bV=>(mL 6 aW aD bV).bind fun bO=>some (.ret,[aD,(.bool true)],bO)) (bo .eql aH (.int .i64 6) fun bW=>(RH K (aa5 aW) bW aD aT aH aW).bind fun aR=>(fun aE aU aI aN aX=>Ex.rQ aR.1 (mH aN ((mV [(.int .i64 0),(.int .i64 0),(.int .i64 0),(.int .i64 0),(.int .i64 0),(.int .i64 0)] [(0,1),(1,1),(2,1),(3,1),(4,1),(5,1)] [(0,(.int .i64 12)),(1,(.int .i64 (-1))),(2,(.int .i64 12)),(3,(.int .i64 (-1))),(4,(.int .i64 1)),(5,(.int .i64 31))]).bind fun bX=>(mL 6 aX aE bX).bind fun bP=>some (.ret,[aE,(.bool true)],bP)) (bo .eql aI (.int .i64 9) fun bY=>mH bY ((mV [(.int .i64 0),(.int .i64 0),(.int .i64 0),(.int .i64 0),(.int .i64 0),(.int .i64 0)] [(0,1),(1,1),(2,1),(3,1),(4,1),(5,1)] [(0,(.int .i64 12)),(1,(.int .i64 (-1))),(2,(.int .i64 12)),(3,(.int .i64 (-1))),(4,(.int .i64 0)),(5,(.int .i64 0))]).bind fun bZ=>(mL 6 aX aE bZ).bind fun bQ=>some (.ret,[aE,(.bool true)],bQ)) (bo .eql aI (.int .i64 10) fun b_=>(RJ K (aa5 aX) b_ aE aU aI aX).bind fun aF=>(fun aA aO aC aJ aG=>Ex.rQ aF.1 (mH aJ ((mV [(.int .i64 0),(.int .i64 0),(.int .i64 0),(.int .i64 0),(.int .i64 0),(.int .i64 0)] [(0,1),(1,1),(2,1),(3,1),(4,1),(5,1)] [(0,(.int .i64 12)),(1,(.int .i64 12)),(2,(.int .i64 12)),(3,(.int .i64 (-1))),(4,(.int .i64 0)),(5,(.int .i64 0))]).bind fun bE=>(mL 6 aG aA bE).bind fun aY=>some (.ret,[aA,(.bool true)],aY)) (bo .eql aC (.int .i64 17) fun bF=>mH bF ((mV [(.int .i64 0),(.int .i64 0),(.int .i64 0),(.int .i64 0),(.int .i64 0),(.int .i64 0)] [(0,1),(1,1),(2,1),(3,1),(4,1),(5,1)] [(0,(.int .i64 12)),(1,(.int .i64 12)),(2,(.int .i64 12)),(3,(.int .i64 12)),(4,(.int .i64 0)),(5,(.int .i64 0))]).bind fun bG=>(mL 6 aG aA bG).bind fun aZ=>some (.ret,[aA,(.bool true)],aZ)) (bo .eql aC (.int .i64 18) fun bH=>mH bH ((mV [(.int .i64 0),(.int .i64 0),(.int .i64 0),(.int .i64 0),(.int .i64 0),(.int .i64 0)] [(0,1),(1,1),(2,1),(3,1),(4,1),(5,1)] [(0,(.int .i64 12)),(1,(.int .i64 12)),(2,(.int .i64 (-1))),(3,(.int .i64 32)),(4,(.int .i64 0)),(5,(.int .i64 31))]).bind fun bI=>(mL 6 aG aA bI).bind fun a_=>some (.ret,[aA,(.bool true)],a_)) (bo .eql aC (.int .i64 19) fun t125=>(RP K (aa5 aG) t125 aA aO aC aG).bind fun El=>(fun aB bK aP aK aL=>Ex.rQ El.1 (mH aK ((mV [(.int .i64 0),(.int .i64 0),(.int .i64 0),(.int .i64 0),(.int .i64 0),(.int .i64 0)] [(0,1),(1,1),(2,1),(3,1),(4,1),(5,1)] [(0,(.int .i64 7)),(1,(.int .i64 7)),(2,(.int .i64 (-1))),(3,(.int .i64 (-1))),(4,(.int .i64 0)),(5,(.int .i64 0))]).bind fun bJ=>(mL 6 aL aB bJ).bind fun bB=>some (.ret,[aB,(.bool true)],bB)) (bo .eql aP (.int .i64 23) fun t154=>mH t154 ((mV [(.int .i64 0),(.int .i64 0),(.int .i64 0),(.int .i64 0),(.int .i64 0),(.int .i64 0)] [(0,1),(1,1),(2,1),(3,1),(4,1),(5,1)] [(0,(.int .i64 (-1))),(1,(.int .i64 7)),(2,(.int .i64 7)),(3,(.int .i64 (-1))),(4,(.int .i64 0)),(5,(.int .i64 0))]).bind fun t155=>(mL 6 aL aB t155).bind fun bC=>some (.ret,[aB,(.bool true)],bC)) ((mV [(.int .i64 0),(.int .i64 0),(.int .i64 0),(.int .i64 0),(.int .i64 0),(.int .i64 0)] [(0,1),(1,1),(2,1),(3,1),(4,1),(5,1)] []).bind fun t157=>(mL 6 aL aB t157).bind fun bD=>some (.ret,[aB,(.bool false)],bD))))) (gd El.2.1 0) (gd El.2.1 1) (gd El.2.1 2) (gd El.2.1 3) El.2.2))))) (gd aF.2.1 0) (gd aF.2.1 1) (gd aF.2.1 2) (gd aF.2.1 3) aF.2.2)))) (gd aR.2.1 0) (gd aR.2.1 1) (gd aR.2.1 2) (gd aR.2.1 3) aR.2.2)))) (gd aQ.2.1 0) (gd aQ.2.1 1) (gd aQ.2.1 2) (gd aQ.2.1 3) aQ.2.2))).bind (aiF (aa5 h0))
theorem anE (K:mA) (a0:lS) (h0:lT):p9 Tryz.prog nM nL K 30 [a0] h0=m30 (mW nM K) a0 h0:=by kernel_rfl
def t30 (p0:Int):Option (Fm×Bool) :=
 tc (decide (p0=1)) (some ((⟨(-1),(-1),(-1),(-1),0,0⟩:Fm),true)) (tc (decide (p0=2)) (some ((⟨(-1),(-1),(-1),(-1),0,255⟩:Fm),true)) (tb (B1 (decide (p0=3)) p0) fun aB=>tc aB (some ((⟨12,(-1),(-1),(-1),0,65535⟩:Fm),true)) (tc (decide (p0=5)) (some ((⟨12,(-1),12,(-1),0,31⟩:Fm),true)) (tb (Jn (decide (p0=6)) p0) fun aC=>tc aC (some ((⟨12,(-1),12,(-1),1,31⟩:Fm),true)) (tc (decide (p0=9)) (some ((⟨12,(-1),12,(-1),0,0⟩:Fm),true)) (tb (NQ (decide (p0=10)) p0) fun aA=>tc aA (some ((⟨12,12,12,(-1),0,0⟩:Fm),true)) (tc (decide (p0=17)) (some ((⟨12,12,12,12,0,0⟩:Fm),true)) (tc (decide (p0=18)) (some ((⟨12,12,(-1),32,0,31⟩:Fm),true)) (tb (NW (decide (p0=19)) p0) fun El=>tc El (some ((⟨7,7,(-1),(-1),0,0⟩:Fm),true)) (tc (decide (p0=23)) (some ((⟨(-1),7,7,(-1),0,0⟩:Fm),true)) (some ((⟨0,0,0,0,0,0⟩:Fm),false))))))))))))
theorem b30 (p0:Int):m30 KK (.int .i64 p0) []=tm (t30 p0) fun r=>(.ret (.tuple [(.agg [(.int .i64 r.1.rd),(.int .i64 r.1.rn),(.int .i64 r.1.rm),(.int .i64 r.1.ra),(.int .i64 r.1.least),(.int .i64 r.1.most)]),(.bool r.2)]),[]):=by
 simp -implicitDefEqProofs (maxSteps:=2000000) [-l9,-lV,-lU,-lW,-lZ,-lY,-lX,m30,t30,aoW,aoX,aoZ,ao5,aiF]
theorem AM (p0:Int) (h:lT):KK 30 [(.int .i64 p0)] h=tm (t30 p0) fun r=>(.ret (.tuple [(.agg [(.int .i64 r.1.rd),(.int .i64 r.1.rn),(.int .i64 r.1.rm),(.int .i64 r.1.ra),(.int .i64 r.1.least),(.int .i64 r.1.most)]),(.bool r.2)]),h):=oE rfl rfl (anE ..) (b30 p0)
def aiG (mm:Nat) (aB:R):Option (nT×lT) :=
 (fun aA aC=>Ex.oA aB.1 (nZ mm aA aC)) (gd aB.2.1 0) aB.2.2
def m32 (K:mA) (a0 a1:lS) (h0:lT):Option (nT×lT) :=
 (bo .eql a1 (.int .i64 (-1)) fun aB=>mH aB (bo .eql a0 (.int .i64 0) fun aC=>some (.ret,[aC],h0)) (ca (K 31 [(lS.l_ a0),(lS.l_ (.int .i64 0)),(lS.l_ a1)] h0) fun aD aA=>some (.ret,[aD],aA))).bind (aiG (aa5 h0))
theorem anG (K:mA) (a0 a1:lS) (h0:lT):p9 Tryz.prog nM nL K 32 [a0,a1] h0=m32 (mW nM K) a0 a1 h0:=by kernel_rfl
def t32 (p0:Int) (p1:Int):Option (Bool) :=
 tc (decide (p1=(-1))) (some (decide (p0=0))) (tb ((t31 p0 0 p1)) fun yE=>some yE)
theorem b32 (p0:Int) (p1:Int):m32 KK (.int .i64 p0) (.int .i64 p1) []=tm (t32 p0 p1) fun r=>(.ret (.bool r),[]):=by
 simp [-l9,-lV,-lU,-lW,-lZ,-lY,-lX,m32,t32,Bk,aiG]
theorem Hf (p0:Int) (p1:Int) (h:lT):KK 32 [(.int .i64 p0),(.int .i64 p1)] h=tm (t32 p0 p1) fun r=>(.ret (.bool r),h):=oE rfl rfl (anG ..) (b32 p0 p1)
def aiL (mm:Nat) (aC:R):Option (nT×lT) :=
 (fun aA aB aD=>Ex.oA aC.1 (nZ mm (.tuple [aA,aB]) aD)) (gd aC.2.1 0) (gd aC.2.1 1) aC.2.2
def Se (K:mA) (m:Nat) (a1:lS) (h0:lT):Option R :=
 mH a1 (mK m .normal [(.int .i64 0),(.int .i64 0),(.int .i64 16777216)] h0) (mK m .normal [(.int .i64 0),(.int .i64 0),(.int .i64 2048)] h0)
def N1 (p1:Bool):Option (Int) :=
 tc p1 (some 16777216) (some 2048)
theorem apD (p1:Bool):(Se KK 0 (.bool p1) ([]:lT))=tm (N1 p1) fun r=>(.normal,[(.int .i64 0),(.int .i64 0),(.int .i64 r)],([]:lT)):=by
 cases p1 <;> simp [-l9,-lV,-lU,-lW,-lZ,-lY,-lX,Se,N1]
def Sf (K:mA) (m:Nat) (a1:lS) (h0:lT):Option R :=
 mH a1 (mK m .normal [(.int .i64 0),(.int .i64 0),(.int .i64 1048576)] h0) (mK m .normal [(.int .i64 0),(.int .i64 0),(.int .i64 256)] h0)
def N2 (p1:Bool):Option (Int) :=
 tc p1 (some 1048576) (some 256)
theorem apE (p1:Bool):(Sf KK 0 (.bool p1) ([]:lT))=tm (N2 p1) fun r=>(.normal,[(.int .i64 0),(.int .i64 0),(.int .i64 r)],([]:lT)):=by
 cases p1 <;> simp [-l9,-lV,-lU,-lW,-lZ,-lY,-lX,Sf,N2]
def Sd (K:mA) (m:Nat) (aJ:lS) (h0:lT) (a1:lS) (a0:lS):Option R :=
 mH aJ ((Se K (aa5 h0) a1 h0).bind fun aA=>(fun aB aD aF aH=>Ex.rQ aA.1 (mK m .normal [aB,aD,aF] aH)) (gd aA.2.1 0) (gd aA.2.1 1) (gd aA.2.1 2) aA.2.2) (bo .eql a0 (.int .i64 25) fun aK=>mH aK ((Sf K (aa5 h0) a1 h0).bind fun CX=>(fun aC aE aG aI=>Ex.rQ CX.1 (mK m .normal [aC,aE,aG] aI)) (gd CX.2.1 0) (gd CX.2.1 1) (gd CX.2.1 2) CX.2.2) (mK m .ret [(.int .i64 0),(.int .i64 0),(.int .i64 0)] h0))
def N0 (aB:Bool) (p1:Bool) (p0:Int):Option (Ey×Int) :=
 tc aB (tb (N1 p1) fun aA=>some (.n,aA)) (tc (decide (p0=25)) (tb (N2 p1) fun CX=>some (.n,CX)) (some (.r,0)))
theorem apC (w21:Bool) (p1:Bool) (p0:Int):(Sd KK 0 (.bool w21) ([]:lT) (.bool p1) (.int .i64 p0))=tm (N0 w21 p1 p0) fun r=>(r.1.ex,[(.int .i64 0),(.int .i64 0),(.int .i64 r.2)],([]:lT)):=by
 cases w21 <;> simp [-l9,-lV,-lU,-lW,-lZ,-lY,-lX,Sd,N0,apD,apE]
def Sc (K:mA) (m:Nat) (a0:lS) (h0:lT) (a1:lS):Option R :=
 bo .eql a0 (.int .i64 24) fun aG=>(Sd K (aa5 h0) aG h0 a1 a0).bind fun aD=>(fun aA aB aC aE=>Ex.nC aD.1 (mK m .normal [aA,aB,aC] aE) (fun aF=>mK m aF [aA,aB,aC] aE)) (gd aD.2.1 0) (gd aD.2.1 1) (gd aD.2.1 2) aD.2.2
def NZ (p0:Int) (p1:Bool):Option (Ey×Int) :=
 tb (N0 (decide (p0=24)) p1 p0) fun aA=>uW aA.1 (some (.n,aA.2)) fun aB=>some (aB,aA.2)
theorem apB (p0:Int) (p1:Bool):(Sc KK 0 (.int .i64 p0) ([]:lT) (.bool p1))=tm (NZ p0 p1) fun r=>(r.1.ex,[(.int .i64 0),(.int .i64 0),(.int .i64 r.2)],([]:lT)):=by
 cases p1 <;> simp [-l9,-lV,-lU,-lW,-lZ,-lY,-lX,Sc,NZ,apC]
def m70 (K:mA) (a0 a1:lS) (h0:lT):Option (nT×lT) :=
 ((Sc K (aa5 h0) a0 h0 a1).bind fun aB=>(fun aC aD aA aE=>Ex.inBlock 0 aB.1 ((yD .neg aA).bind fun aG=>bo .sub aA (.int .i64 2) fun aH=>some (.ret,[aG,aH],aE)) (fun aF=>some (aF,[aC,aD],aE))) (gd aB.2.1 0) (gd aB.2.1 1) (gd aB.2.1 2) aB.2.2).bind (aiL (aa5 h0))
theorem anY (K:mA) (a0 a1:lS) (h0:lT):p9 Tryz.prog nM nL K 70 [a0,a1] h0=m70 (mW nM K) a0 a1 h0:=by kernel_rfl
def t70 (p0:Int) (p1:Bool):Option (Int×Int) :=
 tb (NZ p0 p1) fun aA=>vA 0 aA.1 (some ((IntKind.wrap .i64 (0-aA.2)),(IntKind.wrap .i64 (aA.2-2)))) fun aB=>Ga aB (some (0,0))
theorem b70 (p0:Int) (p1:Bool):m70 KK (.int .i64 p0) (.bool p1) []=tm (t70 p0 p1) fun r=>(.ret (.tuple [(.int .i64 r.1),(.int .i64 r.2)]),[]):=by
 simp [-l9,-lV,-lU,-lW,-lZ,-lY,-lX,m70,t70,apB,aiL]
theorem r70 (p0:Int) (p1:Bool) (h:lT):KK 70 [(.int .i64 p0),(.bool p1)] h=tm (t70 p0 p1) fun r=>(.ret (.tuple [(.int .i64 r.1),(.int .i64 r.2)]),h):=oE rfl rfl (anY ..) (b70 p0 p1)
def yN (mm:Nat) (Bj:R):Option (nT×lT) :=
 (fun aA aB=>Ex.oA Bj.1 (nZ mm aA aB)) (gd Bj.2.1 0) Bj.2.2
def Ry (K:mA) (t140:lS) (aA:lT):Option R :=
 mH t140 (some (.ret,[(.int .i64 6)],aA)) (some (.ret,[(.int .i64 0)],aA))
def Jm (aA:Bool):Option (Int) :=
 tc aA (some 6) (some 0)
theorem FA (w143:Bool) (p0:Ins):((Ry KK (.bool w143) ([.cells [(.int .i64 p0.op),(.int .i64 p0.rd),(.int .i64 p0.rn),(.int .i64 p0.rm),(.int .i64 p0.ra),(.int .i64 p0.imm),(.int .i64 p0.cond),(.bool p0.wide)]]:lT))).bind (yN 0)=tm (Jm w143) fun r=>(.ret (.int .i64 r),[]):=by
 cases w143 <;> simp [-l9,-lV,-lU,-lW,-lZ,-lY,-lX,Ry,Jm,Bk,r70,yN]
def Rx (K:mA) (aM:lS) (aB:lT) (aJ:lS):Option R :=
 mH aM (some (.ret,[(.int .i64 2)],aB)) (fa 0 aJ fun aN=>ld false 1 aB aN fun aO=>fa 7 aJ fun aP=>ld false 1 aB aP fun aQ=>ca (K 70 [(lS.l_ aO),(lS.l_ aQ)] aB) fun aI aC=>(nO 0 aI).bind fun aR=>(nO 1 aI).bind fun aS=>fa 5 aJ fun aT=>ld false 1 aC aT fun aU=>bo .and aU (.int .i64 1) fun aV=>bo .neq aV (.int .i64 0) fun aA=>gS false aA (fa 5 aJ fun aW=>mM aW aC) aC fun aX aD=>gS false aA (ld false 1 aD aX fun t125=>mM t125 aD) aD fun t126 aE=>gS false aA (mM aR aE) aE fun t128 aF=>gS false aA (mM aS aF) aF fun t130 aG=>gS false aA (cg (K 31 [(lS.l_ t126),(lS.l_ t128),(lS.l_ t130)] aG) fun t132 aK=>mM t132 aK) aG fun t135 aH=>gS false aA ((yD .not t135).bind fun t137=>mM t137 aH) aH fun t138 aL=>(nA aA (.bool true) t138).bind fun t140=>Ry K t140 aL)
def Jl (aB:Bool) (p0:Ins):Option (Int) :=
 tc aB (some 2) (tb ((t70 p0.op p0.wide)) fun aA=>tc (!decide ((GS .i64 p0.imm 1)=0)) (Jm true) (tb ((t31 p0.imm aA.1 aA.2)) fun wD=>Jm (!wD)))
theorem I6 (w108:Bool) (p0:Ins):((Rx KK (.bool w108) ([.cells [(.int .i64 p0.op),(.int .i64 p0.rd),(.int .i64 p0.rn),(.int .i64 p0.rm),(.int .i64 p0.ra),(.int .i64 p0.imm),(.int .i64 p0.cond),(.bool p0.wide)]]:lT) (.ptr 0 0))).bind (yN 0)=tm (Jl w108 p0) fun r=>(.ret (.int .i64 r),[]):=by
 cases w108 <;> simp +contextual [-l9,-lV,-lU,-lW,-lZ,-lY,-lX,Rx,Jl,Bk,r70,yN,FA]
def Rv (K:mA) (aB:lS) (aK:lS) (aI:lT):Option R :=
 gS false aB (fa 6 aK fun aM=>mM aM aI) aI fun aN aD=>gS false aB (ld false 1 aD aN fun aO=>mM aO aD) aD fun aP aJ=>gS false aB (cg (K 31 [(lS.l_ aP),(lS.l_ (.int .i64 0)),(lS.l_ (.int .i64 13))] aJ) fun aQ aL=>mM aQ aL) aJ fun aE aA=>gS false aB ((yD .not aE).bind fun aF=>mM aF aA) aA fun aG aC=>(nA aB (.bool true) aG).bind fun aH=>Rx K aH aC aK
def FM (aB:Bool) (p0:Ins):Option (Int) :=
 tc aB (Jl true p0) (tb ((t31 p0.cond 0 13)) fun aA=>Jl (!aA) p0)
theorem NA (w90:Bool) (p0:Ins):((Rv KK (.bool w90) (.ptr 0 0) ([.cells [(.int .i64 p0.op),(.int .i64 p0.rd),(.int .i64 p0.rn),(.int .i64 p0.rm),(.int .i64 p0.ra),(.int .i64 p0.imm),(.int .i64 p0.cond),(.bool p0.wide)]]:lT))).bind (yN 0)=tm (FM w90 p0) fun r=>(.ret (.int .i64 r),[]):=by
 cases w90 <;> simp [-l9,-lV,-lU,-lW,-lZ,-lY,-lX,Rv,FM,Bk,r70,yN,FA,I6]
def Ru (K:mA) (t60:lS) (aC:lS) (aD:lT):Option R :=
 gS false t60 (fa 0 aC fun aK=>mM aK aD) aD fun aL aA=>gS false t60 (ld false 1 aA aL fun aM=>mM aM aA) aA fun aN aE=>gS false t60 (bo .eql aN (.int .i64 24) fun t70=>mM t70 aE) aE fun aO aF=>gS false t60 (mM aO aF) aF fun t73 aG=>gS true t73 (fa 6 aC fun aP=>mM aP aG) aG fun aQ aB=>gS true t73 (ld false 1 aB aQ fun aR=>mM aR aB) aB fun aS aH=>gS true t73 (bo .neq aS (.int .i64 0) fun aT=>mM aT aH) aH fun aU aI=>gS false t60 ((nA t73 aU (.bool false)).bind fun aV=>mM aV aI) aI fun aW aJ=>(nA t60 (.bool true) aW).bind fun aX=>Rv K aX aC aJ
def Jk (aA:Bool) (p0:Ins):Option (Int) :=
 tc aA (FM true p0) (tc (decide (p0.op=24)) (FM (!decide (p0.cond=0)) p0) (FM false p0))
theorem SE (w63:Bool) (p0:Ins):((Ru KK (.bool w63) (.ptr 0 0) ([.cells [(.int .i64 p0.op),(.int .i64 p0.rd),(.int .i64 p0.rn),(.int .i64 p0.rm),(.int .i64 p0.ra),(.int .i64 p0.imm),(.int .i64 p0.cond),(.bool p0.wide)]]:lT))).bind (yN 0)=tm (Jk w63 p0) fun r=>(.ret (.int .i64 r),[]):=by
 cases w63 <;> simp +contextual [-l9,-lV,-lU,-lW,-lZ,-lY,-lX,Ru,Jk,Bk,r70,yN,FA,I6,NA]
def Rt (K:mA) (aA:lS) (aE:lS) (aC:lT):Option R :=
 gS false aA (fa 4 aE fun aG=>mM aG aC) aC fun aH aB=>gS false aA (ld false 1 aB aH fun aI=>mM aI aB) aB fun aJ aD=>gS false aA (bo .neq aJ (.int .i64 0) fun aK=>mM aK aD) aD fun aL aF=>(nA aA (.bool true) aL).bind fun t60=>Ru K t60 aE aF
def Jj (aA:Bool) (p0:Ins):Option (Int) :=
 tc aA (Jk true p0) (Jk (!decide (p0.ra=0)) p0)
theorem Y_ (w50:Bool) (p0:Ins):((Rt KK (.bool w50) (.ptr 0 0) ([.cells [(.int .i64 p0.op),(.int .i64 p0.rd),(.int .i64 p0.rn),(.int .i64 p0.rm),(.int .i64 p0.ra),(.int .i64 p0.imm),(.int .i64 p0.cond),(.bool p0.wide)]]:lT))).bind (yN 0)=tm (Jj w50 p0) fun r=>(.ret (.int .i64 r),[]):=by
 cases w50 <;> simp [-l9,-lV,-lU,-lW,-lZ,-lY,-lX,Rt,Jj,Bk,r70,yN,FA,I6,NA,SE]
def Rs (K:mA) (aA:lS) (aE:lS) (aC:lT):Option R :=
 gS false aA (fa 3 aE fun aG=>mM aG aC) aC fun aH aB=>gS false aA (ld false 1 aB aH fun aI=>mM aI aB) aB fun aJ aD=>gS false aA (bo .neq aJ (.int .i64 0) fun aK=>mM aK aD) aD fun aL aF=>(nA aA (.bool true) aL).bind fun aM=>Rt K aM aE aF
def Ji (aA:Bool) (p0:Ins):Option (Int) :=
 tc aA (Jj true p0) (Jj (!decide (p0.rm=0)) p0)
theorem aoV (w37:Bool) (p0:Ins):((Rs KK (.bool w37) (.ptr 0 0) ([.cells [(.int .i64 p0.op),(.int .i64 p0.rd),(.int .i64 p0.rn),(.int .i64 p0.rm),(.int .i64 p0.ra),(.int .i64 p0.imm),(.int .i64 p0.cond),(.bool p0.wide)]]:lT))).bind (yN 0)=tm (Ji w37 p0) fun r=>(.ret (.int .i64 r),[]):=by
 cases w37 <;> simp [-l9,-lV,-lU,-lW,-lZ,-lY,-lX,Rs,Ji,Bk,r70,yN,FA,I6,NA,SE,Y_]
def m29 (K:mA) (a0:lS) (h0:lT):Option (nT×lT) :=
 (mC (nP 8 h0 a0) fun aC aA=>fa 1 aC fun aF=>ld false 1 aA aF fun t23=>bo .neq t23 (.int .i64 0) fun t24=>gS false t24 (fa 2 aC fun aG=>mM aG aA) aA fun t26 aB=>gS false t24 (ld false 1 aB t26 fun t28=>mM t28 aB) aB fun t29 aD=>gS false t24 (bo .neq t29 (.int .i64 0) fun t31=>mM t31 aD) aD fun t32 aE=>(nA t24 (.bool true) t32).bind fun aH=>Rs K aH aC aE).bind (yN (aa5 h0))
theorem anD (K:mA) (a0:lS) (h0:lT):p9 Tryz.prog nM nL K 29 [a0] h0=m29 (mW nM K) a0 h0:=by kernel_rfl
def t29 (p0:Ins):Option (Int) :=
 tc (!decide (p0.rd=0)) (Ji true p0) (Ji (!decide (p0.rn=0)) p0)
theorem b29 (p0:Ins):m29 KK (.agg [(.int .i64 p0.op),(.int .i64 p0.rd),(.int .i64 p0.rn),(.int .i64 p0.rm),(.int .i64 p0.ra),(.int .i64 p0.imm),(.int .i64 p0.cond),(.bool p0.wide)]) []=tm (t29 p0) fun r=>(.ret (.int .i64 r),[]):=by
 simp +contextual [-l9,-lV,-lU,-lW,-lZ,-lY,-lX,m29,t29,Bk,r70,yN,FA,I6,NA,SE,Y_,aoV]
theorem CX (p0:Ins) (h:lT):KK 29 [(.agg [(.int .i64 p0.op),(.int .i64 p0.rd),(.int .i64 p0.rn),(.int .i64 p0.rm),(.int .i64 p0.ra),(.int .i64 p0.imm),(.int .i64 p0.cond),(.bool p0.wide)])] h=tm (t29 p0) fun r=>(.ret (.int .i64 r),h):=oE rfl rfl (anD ..) (b29 p0)
def uP (mm:Nat) (aA:R):Option (nT×lT) :=
 (fun aB aC=>Ex.oA aA.1 (nZ mm aB aC)) (gd aA.2.1 0) aA.2.2
def Rk (K:mA) (aB:lS) (aA:lT):Option R :=
 mH aB (some (.ret,[(.int .i64 2)],aA)) (some (.ret,[(.int .i64 0)],aA))
def zO (aA:Bool):Option (Int) :=
 tc aA (some 2) (some 0)
theorem AL (w255:Bool) (p0:Ins) (w64:Int) (w65:Int) (w66:Int) (w67:Int) (w68:Int) (w69:Int):((Rk KK (.bool w255) ([.cells [(.int .i64 p0.op),(.int .i64 p0.rd),(.int .i64 p0.rn),(.int .i64 p0.rm),(.int .i64 p0.ra),(.int .i64 p0.imm),(.int .i64 p0.cond),(.bool p0.wide)],.cells [(.int .i64 w64),(.int .i64 w65),(.int .i64 w66),(.int .i64 w67),(.int .i64 w68),(.int .i64 w69)]]:lT))).bind (uP 0)=tm (zO w255) fun r=>(.ret (.int .i64 r),[]):=by
 cases w255 <;> simp [-l9,-lV,-lU,-lW,-lZ,-lY,-lX,Rk,zO,CX,AM,Bk,Hf,uP]
def Rj (K:mA) (aB:lS) (aQ:lS) (aF:lT):Option R :=
 gS false aB (fa 0 aQ fun aR=>mM aR aF) aF fun aS aC=>gS false aB (ld false 1 aC aS fun aT=>mM aT aC) aC fun aU aG=>gS false aB (bo .eql aU (.int .i64 18) fun aV=>mM aV aG) aG fun aW aH=>gS false aB (mM aW aH) aH fun aA aI=>gS true aA (fa 4 aQ fun aX=>mM aX aI) aI fun aY aD=>gS true aA (ld false 1 aD aY fun aZ=>mM aZ aD) aD fun a_ aJ=>gS true aA (fa 5 aQ fun bB=>mM bB aJ) aJ fun bC aE=>gS true aA (ld false 1 aE bC fun bD=>mM bD aE) aE fun bE aK=>gS true aA (bo .sub (.int .i64 32) bE fun bF=>mM bF aK) aK fun bG aL=>gS true aA (cg (K 31 [(lS.l_ a_),(lS.l_ (.int .i64 1)),(lS.l_ bG)] aL) fun bH aO=>mM bH aO) aL fun bI aM=>gS true aA ((yD .not bI).bind fun bJ=>mM bJ aM) aM fun bK aN=>gS false aB ((nA aA bK (.bool false)).bind fun bL=>mM bL aN) aN fun bM aP=>(nA aB (.bool true) bM).bind fun bN=>Rk K bN aP
def A0 (aB:Bool) (p0:Ins):Option (Int) :=
 tc aB (zO true) (tc (decide (p0.op=18)) (tb ((t31 p0.ra 1 (IntKind.wrap .i64 (32-p0.imm)))) fun aA=>zO (!aA)) (zO false))
theorem BP (w214:Bool) (p0:Ins) (w64:Int) (w65:Int) (w66:Int) (w67:Int) (w68:Int) (w69:Int):((Rj KK (.bool w214) (.ptr 0 0) ([.cells [(.int .i64 p0.op),(.int .i64 p0.rd),(.int .i64 p0.rn),(.int .i64 p0.rm),(.int .i64 p0.ra),(.int .i64 p0.imm),(.int .i64 p0.cond),(.bool p0.wide)],.cells [(.int .i64 w64),(.int .i64 w65),(.int .i64 w66),(.int .i64 w67),(.int .i64 w68),(.int .i64 w69)]]:lT))).bind (uP 0)=tm (A0 w214 p0) fun r=>(.ret (.int .i64 r),[]):=by
 cases w214 <;> simp +contextual [-l9,-lV,-lU,-lW,-lZ,-lY,-lX,Rj,A0,CX,AM,Bk,Hf,uP,AL]
def Ri (K:mA) (aI:lS) (aB:lT) (aG:lS):Option R :=
 mH aI (some (.ret,[(.int .i64 2)],aB)) (fa 0 aG fun aJ=>ld false 1 aB aJ fun aK=>bo .eql aK (.int .i64 17) fun aA=>gS true aA (fa 4 aG fun aL=>mM aL aB) aB fun aM aC=>gS true aA (ld false 1 aC aM fun aN=>mM aN aC) aC fun aO aE=>gS true aA (fa 1 aG fun aP=>mM aP aE) aE fun aQ aD=>gS true aA (ld false 1 aD aQ fun aR=>mM aR aD) aD fun aS aF=>gS true aA (bo .eql aO aS fun aT=>mM aT aF) aF fun aU aH=>(nA aA aU (.bool false)).bind fun aV=>Rj K aV aG aH)
def AZ (aA:Bool) (p0:Ins):Option (Int) :=
 tc aA (some 2) (tc (decide (p0.op=17)) (A0 (decide (p0.ra=p0.rd)) p0) (A0 false p0))
theorem Dt (w192:Bool) (p0:Ins) (w64:Int) (w65:Int) (w66:Int) (w67:Int) (w68:Int) (w69:Int):((Ri KK (.bool w192) ([.cells [(.int .i64 p0.op),(.int .i64 p0.rd),(.int .i64 p0.rn),(.int .i64 p0.rm),(.int .i64 p0.ra),(.int .i64 p0.imm),(.int .i64 p0.cond),(.bool p0.wide)],.cells [(.int .i64 w64),(.int .i64 w65),(.int .i64 w66),(.int .i64 w67),(.int .i64 w68),(.int .i64 w69)]]:lT) (.ptr 0 0))).bind (uP 0)=tm (AZ w192 p0) fun r=>(.ret (.int .i64 r),[]):=by
 cases w192 <;> simp +contextual [-l9,-lV,-lU,-lW,-lZ,-lY,-lX,Ri,AZ,CX,AM,Bk,Hf,uP,AL,BP]
def Rh (K:mA) (t165:lS) (aV:lS) (aC:lT) (aW:lS):Option R :=
 gS false t165 (fa 4 aV fun aI=>mM aI aC) aC fun aJ aA=>gS false t165 (ld false 1 aA aJ fun aK=>mM aK aA) aA fun aL aD=>gS false t165 (fa 3 aW fun aM=>mM aM aD) aD fun aN aB=>gS false t165 (ld false 1 aB aN fun aO=>mM aO aB) aB fun aP aE=>gS false t165 (cg (K 32 [(lS.l_ aL),(lS.l_ aP)] aE) fun aQ aG=>mM aQ aG) aE fun aR aF=>gS false t165 ((yD .not aR).bind fun aS=>mM aS aF) aF fun aT aH=>(nA t165 (.bool true) aT).bind fun aU=>Ri K aU aH aV
def AY (aB:Bool) (p0:Ins) (aC:Int):Option (Int) :=
 tc aB (AZ true p0) (tb ((t32 p0.ra aC)) fun aA=>AZ (!aA) p0)
theorem Fy (w168:Bool) (p0:Ins) (w64:Int) (w65:Int) (w66:Int) (w67:Int) (w68:Int) (w69:Int):((Rh KK (.bool w168) (.ptr 0 0) ([.cells [(.int .i64 p0.op),(.int .i64 p0.rd),(.int .i64 p0.rn),(.int .i64 p0.rm),(.int .i64 p0.ra),(.int .i64 p0.imm),(.int .i64 p0.cond),(.bool p0.wide)],.cells [(.int .i64 w64),(.int .i64 w65),(.int .i64 w66),(.int .i64 w67),(.int .i64 w68),(.int .i64 w69)]]:lT) (.ptr 1 0))).bind (uP 0)=tm (AY w168 p0 w67) fun r=>(.ret (.int .i64 r),[]):=by
 cases w168 <;> simp [-l9,-lV,-lU,-lW,-lZ,-lY,-lX,Rh,AY,CX,AM,Bk,Hf,uP,AL,BP,Dt]
def Rg (K:mA) (t141:lS) (aJ:lS) (aC:lT) (aK:lS):Option R :=
 gS false t141 (fa 3 aJ fun t145=>mM t145 aC) aC fun t146 aA=>gS false t141 (ld false 1 aA t146 fun t148=>mM t148 aA) aA fun t149 aD=>gS false t141 (fa 2 aK fun t151=>mM t151 aD) aD fun aI aB=>gS false t141 (ld false 1 aB aI fun t154=>mM t154 aB) aB fun t155 aE=>gS false t141 (cg (K 32 [(lS.l_ t149),(lS.l_ t155)] aE) fun t157 aG=>mM t157 aG) aE fun t160 aF=>gS false t141 ((yD .not t160).bind fun t162=>mM t162 aF) aF fun t163 aH=>(nA t141 (.bool true) t163).bind fun t165=>Rh K t165 aJ aH aK
def AX (aA:Bool) (p0:Ins) (aC:Int) (aB:Int):Option (Int) :=
 tc aA (AY true p0 aB) (tb ((t32 p0.rm aC)) fun Px=>AY (!Px) p0 aB)
theorem I5 (w144:Bool) (p0:Ins) (w64:Int) (w65:Int) (w66:Int) (w67:Int) (w68:Int) (w69:Int):((Rg KK (.bool w144) (.ptr 0 0) ([.cells [(.int .i64 p0.op),(.int .i64 p0.rd),(.int .i64 p0.rn),(.int .i64 p0.rm),(.int .i64 p0.ra),(.int .i64 p0.imm),(.int .i64 p0.cond),(.bool p0.wide)],.cells [(.int .i64 w64),(.int .i64 w65),(.int .i64 w66),(.int .i64 w67),(.int .i64 w68),(.int .i64 w69)]]:lT) (.ptr 1 0))).bind (uP 0)=tm (AX w144 p0 w66 w67) fun r=>(.ret (.int .i64 r),[]):=by
 cases w144 <;> simp [-l9,-lV,-lU,-lW,-lZ,-lY,-lX,Rg,AX,CX,AM,Bk,Hf,uP,AL,BP,Dt,Fy]
def Rf (K:mA) (aK:lS) (aB:lT) (aS:lS) (aT:lS):Option R :=
 mH aK (some (.ret,[(.int .i64 2)],aB)) (fa 1 aS fun aL=>ld false 1 aB aL fun aM=>fa 0 aT fun aN=>ld false 1 aB aN fun aO=>ca (K 32 [(lS.l_ aM),(lS.l_ aO)] aB) fun aP aE=>(yD .not aP).bind fun aA=>gS false aA (fa 2 aS fun aQ=>mM aQ aE) aE fun aR aC=>gS false aA (ld false 1 aC aR fun t124=>mM t124 aC) aC fun t125 aF=>gS false aA (fa 1 aT fun t127=>mM t127 aF) aF fun t128 aD=>gS false aA (ld false 1 aD t128 fun t130=>mM t130 aD) aD fun t131 aG=>gS false aA (cg (K 32 [(lS.l_ t125),(lS.l_ t131)] aG) fun t133 aI=>mM t133 aI) aG fun t136 aH=>gS false aA ((yD .not t136).bind fun t138=>mM t138 aH) aH fun t139 aJ=>(nA aA (.bool true) t139).bind fun t141=>Rg K t141 aS aJ aT)
def AW (aB:Bool) (p0:Ins) (aE:Int) (aF:Int) (aC:Int) (aD:Int):Option (Int) :=
 tc aB (some 2) (tb ((t32 p0.rd aE)) fun aA=>tc (!aA) (AX true p0 aC aD) (tb ((t32 p0.rn aF)) fun Dr=>AX (!Dr) p0 aC aD))
theorem Nz (w112:Bool) (p0:Ins) (w64:Int) (w65:Int) (w66:Int) (w67:Int) (w68:Int) (w69:Int):((Rf KK (.bool w112) ([.cells [(.int .i64 p0.op),(.int .i64 p0.rd),(.int .i64 p0.rn),(.int .i64 p0.rm),(.int .i64 p0.ra),(.int .i64 p0.imm),(.int .i64 p0.cond),(.bool p0.wide)],.cells [(.int .i64 w64),(.int .i64 w65),(.int .i64 w66),(.int .i64 w67),(.int .i64 w68),(.int .i64 w69)]]:lT) (.ptr 0 0) (.ptr 1 0))).bind (uP 0)=tm (AW w112 p0 w64 w65 w66 w67) fun r=>(.ret (.int .i64 r),[]):=by
 cases w112 <;> simp +contextual [-l9,-lV,-lU,-lW,-lZ,-lY,-lX,Rf,AW,CX,AM,Bk,Hf,uP,AL,BP,Dt,Fy,I5]
def Re (K:mA) (aA:lS) (aR:lS) (aO:lT) (aN:lS):Option R :=
 gS false aA (fa 5 aR fun aS=>mM aS aO) aO fun aT aF=>gS false aA (ld false 1 aF aT fun aU=>mM aU aF) aF fun aV aP=>gS false aA (fa 4 aN fun aW=>mM aW aP) aP fun aX aG=>gS false aA (ld false 1 aG aX fun aY=>mM aY aG) aG fun aZ aQ=>gS false aA (fa 5 aN fun a_=>mM a_ aQ) aQ fun bB aH=>gS false aA (ld false 1 aH bB fun bC=>mM bC aH) aH fun bD aB=>gS false aA (cg (K 31 [(lS.l_ aV),(lS.l_ aZ),(lS.l_ bD)] aB) fun aI aD=>mM aI aD) aB fun aJ aC=>gS false aA ((yD .not aJ).bind fun aK=>mM aK aC) aC fun aL aE=>(nA aA (.bool true) aL).bind fun aM=>Rf K aM aE aR aN
def AV (aH:Bool) (p0:Ins) (aB:Int) (aC:Int) (aD:Int) (aE:Int) (aF:Int) (aG:Int):Option (Int) :=
 tc aH (AW true p0 aB aC aD aE) (tb ((t31 p0.imm aF aG)) fun aA=>AW (!aA) p0 aB aC aD aE)
theorem Sy (w82:Bool) (p0:Ins) (w64:Int) (w65:Int) (w66:Int) (w67:Int) (w68:Int) (w69:Int):((Re KK (.bool w82) (.ptr 0 0) ([.cells [(.int .i64 p0.op),(.int .i64 p0.rd),(.int .i64 p0.rn),(.int .i64 p0.rm),(.int .i64 p0.ra),(.int .i64 p0.imm),(.int .i64 p0.cond),(.bool p0.wide)],.cells [(.int .i64 w64),(.int .i64 w65),(.int .i64 w66),(.int .i64 w67),(.int .i64 w68),(.int .i64 w69)]]:lT) (.ptr 1 0))).bind (uP 0)=tm (AV w82 p0 w64 w65 w66 w67 w68 w69) fun r=>(.ret (.int .i64 r),[]):=by
 cases w82 <;> simp [-l9,-lV,-lU,-lW,-lZ,-lY,-lX,Re,AV,CX,AM,Bk,Hf,uP,AL,BP,Dt,Fy,I5,Nz]
def Rc (K:mA) (aA:lS) (aE:lS) (aC:lT) (aG:lS):Option R :=
 gS false aA (fa 6 aE fun t70=>mM t70 aC) aC fun aH aB=>gS false aA (ld false 1 aB aH fun t73=>mM t73 aB) aB fun aI aD=>gS false aA (bo .neq aI (.int .i64 0) fun aJ=>mM aJ aD) aD fun aK aF=>(nA aA (.bool true) aK).bind fun aL=>Re K aL aE aF aG
def AU (aG:Bool) (p0:Ins) (aA:Int) (aB:Int) (aC:Int) (aD:Int) (aE:Int) (aF:Int):Option (Int) :=
 tc aG (AV true p0 aA aB aC aD aE aF) (AV (!decide (p0.cond=0)) p0 aA aB aC aD aE aF)
theorem Y8 (w62:Bool) (p0:Ins) (w64:Int) (w65:Int) (w66:Int) (w67:Int) (w68:Int) (w69:Int):((Rc KK (.bool w62) (.ptr 0 0) ([.cells [(.int .i64 p0.op),(.int .i64 p0.rd),(.int .i64 p0.rn),(.int .i64 p0.rm),(.int .i64 p0.ra),(.int .i64 p0.imm),(.int .i64 p0.cond),(.bool p0.wide)],.cells [(.int .i64 w64),(.int .i64 w65),(.int .i64 w66),(.int .i64 w67),(.int .i64 w68),(.int .i64 w69)]]:lT) (.ptr 1 0))).bind (uP 0)=tm (AU w62 p0 w64 w65 w66 w67 w68 w69) fun r=>(.ret (.int .i64 r),[]):=by
 cases w62 <;> simp [-l9,-lV,-lU,-lW,-lZ,-lY,-lX,Rc,AU,CX,AM,Bk,Hf,uP,AL,BP,Dt,Fy,I5,Nz,Sy]
def Rb (K:mA) (aL:lS) (aA:lT) (aB:lS):Option R :=
 mH aL (ld true 8 aA aB fun aM=>ca (K 29 [(lS.l_ aM)] aA) fun aN aH=>some (.ret,[aN],aH)) (fa 0 aB fun aO=>ld false 1 aA aO fun aP=>ca (K 30 [(lS.l_ aP)] aA) fun aF aI=>(nO 0 aF).bind fun aQ=>(nO 1 aF).bind fun aR=>mC (nP 6 aI (.agg [(.int .i64 0),(.int .i64 0),(.int .i64 0),(.int .i64 0),(.int .i64 0),(.int .i64 0)])) fun aG aJ=>(mL 6 aJ aG aQ).bind fun aE=>(yD .not aR).bind fun aD=>gS false aD (fa 7 aB fun t53=>mM t53 aE) aE fun aS aC=>gS false aD (ld false 1 aC aS fun aT=>mM aT aC) aC fun aU aK=>(nA aD (.bool true) aU).bind fun aV=>Rc K aV aB aK aG)
def AT (aC:Bool) (p0:Ins):Option (Int) :=
 tc aC (tb ((t29 p0)) fun aB=>some aB) (tb ((t30 p0.op)) fun aA=>tc (!aA.2) (AU true p0 aA.1.rd aA.1.rn aA.1.rm aA.1.ra aA.1.least aA.1.most) (AU p0.wide p0 aA.1.rd aA.1.rn aA.1.rm aA.1.ra aA.1.least aA.1.most))
theorem aoP (w37:Bool) (p0:Ins):((Rb KK (.bool w37) ([.cells [(.int .i64 p0.op),(.int .i64 p0.rd),(.int .i64 p0.rn),(.int .i64 p0.rm),(.int .i64 p0.ra),(.int .i64 p0.imm),(.int .i64 p0.cond),(.bool p0.wide)]]:lT) (.ptr 0 0))).bind (uP 0)=tm (AT w37 p0) fun r=>(.ret (.int .i64 r),[]):=by
 cases w37 <;> simp +contextual [-l9,-lV,-lU,-lW,-lZ,-lY,-lX,Rb,AT,CX,AM,Bk,Hf,uP,AL,BP,Dt,Fy,I5,Nz,Sy,Y8]
def m15 (K:mA) (a0:lS) (h0:lT):Option (nT×lT) :=
 (mC (nP 8 h0 a0) fun aC aA=>fa 0 aC fun aF=>ld false 1 aA aF fun t23=>bo .eql t23 (.int .i64 24) fun t24=>gS false t24 (fa 0 aC fun aG=>mM aG aA) aA fun t26 aB=>gS false t24 (ld false 1 aB t26 fun t28=>mM t28 aB) aB fun t29 aD=>gS false t24 (bo .eql t29 (.int .i64 25) fun t31=>mM t31 aD) aD fun t32 aE=>(nA t24 (.bool true) t32).bind fun aH=>Rb K aH aE aC).bind (uP (aa5 h0))
theorem amU (K:mA) (a0:lS) (h0:lT):p9 Tryz.prog nM nL K 15 [a0] h0=m15 (mW nM K) a0 h0:=by kernel_rfl
def t15 (p0:Ins):Option (Int) :=
 tc (decide (p0.op=24)) (AT true p0) (AT (decide (p0.op=25)) p0)
theorem b15 (p0:Ins):m15 KK (.agg [(.int .i64 p0.op),(.int .i64 p0.rd),(.int .i64 p0.rn),(.int .i64 p0.rm),(.int .i64 p0.ra),(.int .i64 p0.imm),(.int .i64 p0.cond),(.bool p0.wide)]) []=tm (t15 p0) fun r=>(.ret (.int .i64 r),[]):=by
 simp +contextual [-l9,-lV,-lU,-lW,-lZ,-lY,-lX,m15,t15,CX,AM,Bk,Hf,uP,AL,BP,Dt,Fy,I5,Nz,Sy,Y8,aoP]
theorem r15 (p0:Ins) (h:lT):KK 15 [(.agg [(.int .i64 p0.op),(.int .i64 p0.rd),(.int .i64 p0.rn),(.int .i64 p0.rm),(.int .i64 p0.ra),(.int .i64 p0.imm),(.int .i64 p0.cond),(.bool p0.wide)])] h=tm (t15 p0) fun r=>(.ret (.int .i64 r),h):=oE rfl rfl (amU ..) (b15 p0)
def Km (mm:Nat) (aA:R):Option (nT×lT) :=
 (fun aB aC=>Ex.oA aA.1 (nZ mm aB aC)) (gd aA.2.1 0) aA.2.2
def Yx (K:mA) (m:Nat) (t32:lS) (aB:lS) (t28:lS) (aA:lT):Option R :=
 mH t32 (mK m .normal [aB,(.bool false),t28,t32] aA) (bo .eql t28 (.int .i64 2) fun aC=>mK m .normal [aB,(.bool false),t28,aC] aA)
def GA (aA:Bool) (p0:Ins):Option (Bool) :=
 tc aA (some aA) (some (decide (p0.op=2)))
theorem awC (w33:Bool) (p0:Ins):(Yx KK 1 (.bool w33) (.ptr 0 0) (.int .i64 p0.op) ([.cells [(.int .i64 p0.op),(.int .i64 p0.rd),(.int .i64 p0.rn),(.int .i64 p0.rm),(.int .i64 p0.ra),(.int .i64 p0.imm),(.int .i64 p0.cond),(.bool p0.wide)]]:lT))=tm (GA w33 p0) fun r=>(.normal,[(.ptr 0 0),(.bool false),(.int .i64 p0.op),(.bool r)],([.cells [(.int .i64 p0.op),(.int .i64 p0.rd),(.int .i64 p0.rn),(.int .i64 p0.rm),(.int .i64 p0.ra),(.int .i64 p0.imm),(.int .i64 p0.cond),(.bool p0.wide)]]:lT)):=by
 cases w33 <;> simp [-l9,-lV,-lU,-lW,-lZ,-lY,-lX,Yx,GA]
def Yw (K:mA) (m:Nat) (t29:lS) (aG:lS) (t28:lS) (aF:lT):Option R :=
 mH t29 (mK m .normal [aG,(.bool false),t28,t29] aF) (bo .eql t28 (.int .i64 25) fun t32=>(Yx K (aa5 aF) t32 aG t28 aF).bind fun aA=>(fun aB aC aD aE aH=>Ex.rQ aA.1 (mK m .normal [aB,aC,aD,aE] aH)) (gd aA.2.1 0) (gd aA.2.1 1) (gd aA.2.1 2) (gd aA.2.1 3) aA.2.2)
def Gz (aA:Bool) (p0:Ins):Option (Bool) :=
 tc aA (some aA) (tb (GA (decide (p0.op=25)) p0) fun aB=>some aB)
theorem PD (w31:Bool) (p0:Ins):(Yw KK 1 (.bool w31) (.ptr 0 0) (.int .i64 p0.op) ([.cells [(.int .i64 p0.op),(.int .i64 p0.rd),(.int .i64 p0.rn),(.int .i64 p0.rm),(.int .i64 p0.ra),(.int .i64 p0.imm),(.int .i64 p0.cond),(.bool p0.wide)]]:lT))=tm (Gz w31 p0) fun r=>(.normal,[(.ptr 0 0),(.bool false),(.int .i64 p0.op),(.bool r)],([.cells [(.int .i64 p0.op),(.int .i64 p0.rd),(.int .i64 p0.rn),(.int .i64 p0.rm),(.int .i64 p0.ra),(.int .i64 p0.imm),(.int .i64 p0.cond),(.bool p0.wide)]]:lT)):=by
 cases w31 <;> simp [-l9,-lV,-lU,-lW,-lZ,-lY,-lX,Yw,Gz,awC]
def YB (K:mA) (m:Nat) (t53:lS) (aB:lS) (aC:lS) (aA:lS) (aD:lT):Option R :=
 mH t53 (mK m .normal [aB,aC,aA,t53] aD) (bo .eql aA (.int .i64 9) fun aE=>mK m .normal [aB,aC,aA,aE] aD)
def JG (aA:Bool) (p0:Ins):Option (Bool) :=
 tc aA (some aA) (some (decide (p0.op=9)))
theorem awF (w54:Bool) (p0:Ins):(YB KK 1 (.bool w54) (.ptr 0 0) (.bool false) (.int .i64 p0.op) ([.cells [(.int .i64 p0.op),(.int .i64 p0.rd),(.int .i64 p0.rn),(.int .i64 p0.rm),(.int .i64 p0.ra),(.int .i64 p0.imm),(.int .i64 p0.cond),(.bool p0.wide)]]:lT))=tm (JG w54 p0) fun r=>(.normal,[(.ptr 0 0),(.bool false),(.int .i64 p0.op),(.bool r)],([.cells [(.int .i64 p0.op),(.int .i64 p0.rd),(.int .i64 p0.rn),(.int .i64 p0.rm),(.int .i64 p0.ra),(.int .i64 p0.imm),(.int .i64 p0.cond),(.bool p0.wide)]]:lT)):=by
 cases w54 <;> simp [-l9,-lV,-lU,-lW,-lZ,-lY,-lX,YB,JG]
def YA (K:mA) (m:Nat) (aJ:lS) (aB:lS) (aC:lS) (aA:lS) (aI:lT):Option R :=
 mH aJ (mK m .normal [aB,aC,aA,aJ] aI) (bo .eql aA (.int .i64 8) fun t53=>(YB K (aa5 aI) t53 aB aC aA aI).bind fun aE=>(fun aF aG aH aD aK=>Ex.rQ aE.1 (mK m .normal [aF,aG,aH,aD] aK)) (gd aE.2.1 0) (gd aE.2.1 1) (gd aE.2.1 2) (gd aE.2.1 3) aE.2.2)
def JF (aA:Bool) (p0:Ins):Option (Bool) :=
 tc aA (some aA) (tb (JG (decide (p0.op=8)) p0) fun aB=>some aB)
theorem awE (w52:Bool) (p0:Ins):(YA KK 1 (.bool w52) (.ptr 0 0) (.bool false) (.int .i64 p0.op) ([.cells [(.int .i64 p0.op),(.int .i64 p0.rd),(.int .i64 p0.rn),(.int .i64 p0.rm),(.int .i64 p0.ra),(.int .i64 p0.imm),(.int .i64 p0.cond),(.bool p0.wide)]]:lT))=tm (JF w52 p0) fun r=>(.normal,[(.ptr 0 0),(.bool false),(.int .i64 p0.op),(.bool r)],([.cells [(.int .i64 p0.op),(.int .i64 p0.rd),(.int .i64 p0.rn),(.int .i64 p0.rm),(.int .i64 p0.ra),(.int .i64 p0.imm),(.int .i64 p0.cond),(.bool p0.wide)]]:lT)):=by
 cases w52 <;> simp [-l9,-lV,-lU,-lW,-lZ,-lY,-lX,YA,JF,awF]
def Yz (K:mA) (m:Nat) (aJ:lS) (aB:lS) (aC:lS) (aA:lS) (aI:lT):Option R :=
 mH aJ (mK m .normal [aB,aC,aA,aJ] aI) (bo .eql aA (.int .i64 7) fun aL=>(YA K (aa5 aI) aL aB aC aA aI).bind fun aE=>(fun aF aG aH aD aK=>Ex.rQ aE.1 (mK m .normal [aF,aG,aH,aD] aK)) (gd aE.2.1 0) (gd aE.2.1 1) (gd aE.2.1 2) (gd aE.2.1 3) aE.2.2)
def JE (aA:Bool) (p0:Ins):Option (Bool) :=
 tc aA (some aA) (tb (JF (decide (p0.op=7)) p0) fun aB=>some aB)
theorem awD (w50:Bool) (p0:Ins):(Yz KK 1 (.bool w50) (.ptr 0 0) (.bool false) (.int .i64 p0.op) ([.cells [(.int .i64 p0.op),(.int .i64 p0.rd),(.int .i64 p0.rn),(.int .i64 p0.rm),(.int .i64 p0.ra),(.int .i64 p0.imm),(.int .i64 p0.cond),(.bool p0.wide)]]:lT))=tm (JE w50 p0) fun r=>(.normal,[(.ptr 0 0),(.bool false),(.int .i64 p0.op),(.bool r)],([.cells [(.int .i64 p0.op),(.int .i64 p0.rd),(.int .i64 p0.rn),(.int .i64 p0.rm),(.int .i64 p0.ra),(.int .i64 p0.imm),(.int .i64 p0.cond),(.bool p0.wide)]]:lT)):=by
 cases w50 <;> simp [-l9,-lV,-lU,-lW,-lZ,-lY,-lX,Yz,JE,awE]
def Yy (K:mA) (m:Nat) (aJ:lS) (aB:lS) (aC:lS) (aA:lS) (aI:lT):Option R :=
 mH aJ (mK m .normal [aB,aC,aA,aJ] aI) (bo .eql aA (.int .i64 6) fun aL=>(Yz K (aa5 aI) aL aB aC aA aI).bind fun aE=>(fun aF aG aH aD aK=>Ex.rQ aE.1 (mK m .normal [aF,aG,aH,aD] aK)) (gd aE.2.1 0) (gd aE.2.1 1) (gd aE.2.1 2) (gd aE.2.1 3) aE.2.2)
def GB (aA:Bool) (p0:Ins):Option (Bool) :=
 tc aA (some aA) (tb (JE (decide (p0.op=6)) p0) fun aB=>some aB)
theorem PE (w48:Bool) (p0:Ins):(Yy KK 1 (.bool w48) (.ptr 0 0) (.bool false) (.int .i64 p0.op) ([.cells [(.int .i64 p0.op),(.int .i64 p0.rd),(.int .i64 p0.rn),(.int .i64 p0.rm),(.int .i64 p0.ra),(.int .i64 p0.imm),(.int .i64 p0.cond),(.bool p0.wide)]]:lT))=tm (GB w48 p0) fun r=>(.normal,[(.ptr 0 0),(.bool false),(.int .i64 p0.op),(.bool r)],([.cells [(.int .i64 p0.op),(.int .i64 p0.rd),(.int .i64 p0.rn),(.int .i64 p0.rm),(.int .i64 p0.ra),(.int .i64 p0.imm),(.int .i64 p0.cond),(.bool p0.wide)]]:lT)):=by
 cases w48 <;> simp [-l9,-lV,-lU,-lW,-lZ,-lY,-lX,Yy,GB,awD]
def Si (K:mA) (m:Nat) (aE:lS) (aB:lS) (aC:lS) (aA:lS) (aD:lT):Option R :=
 mH aE (mK m .normal [aB,aC,aA,aE] aD) (bo .eql aA (.int .i64 16) fun aF=>mK m .normal [aB,aC,aA,aF] aD)
def FP (aA:Bool) (p0:Ins):Option (Bool) :=
 tc aA (some aA) (some (decide (p0.op=16)))
theorem apG (w96:Bool) (p0:Ins):(Si KK 1 (.bool w96) (.ptr 0 0) (.bool false) (.int .i64 p0.op) ([.cells [(.int .i64 p0.op),(.int .i64 p0.rd),(.int .i64 p0.rn),(.int .i64 p0.rm),(.int .i64 p0.ra),(.int .i64 p0.imm),(.int .i64 p0.cond),(.bool p0.wide)]]:lT))=tm (FP w96 p0) fun r=>(.normal,[(.ptr 0 0),(.bool false),(.int .i64 p0.op),(.bool r)],([.cells [(.int .i64 p0.op),(.int .i64 p0.rd),(.int .i64 p0.rn),(.int .i64 p0.rm),(.int .i64 p0.ra),(.int .i64 p0.imm),(.int .i64 p0.cond),(.bool p0.wide)]]:lT)):=by
 cases w96 <;> simp [-l9,-lV,-lU,-lW,-lZ,-lY,-lX,Si,FP]
def Sh (K:mA) (m:Nat) (aK:lS) (aC:lS) (aD:lS) (aA:lS) (aJ:lT):Option R :=
 mH aK (mK m .normal [aC,aD,aA,aK] aJ) (bo .eql aA (.int .i64 15) fun aL=>(Si K (aa5 aJ) aL aC aD aA aJ).bind fun aG=>(fun aH aE aF aB aI=>Ex.rQ aG.1 (mK m .normal [aH,aE,aF,aB] aI)) (gd aG.2.1 0) (gd aG.2.1 1) (gd aG.2.1 2) (gd aG.2.1 3) aG.2.2)
def FO (aA:Bool) (p0:Ins):Option (Bool) :=
 tc aA (some aA) (tb (FP (decide (p0.op=15)) p0) fun aB=>some aB)
theorem apF (w94:Bool) (p0:Ins):(Sh KK 1 (.bool w94) (.ptr 0 0) (.bool false) (.int .i64 p0.op) ([.cells [(.int .i64 p0.op),(.int .i64 p0.rd),(.int .i64 p0.rn),(.int .i64 p0.rm),(.int .i64 p0.ra),(.int .i64 p0.imm),(.int .i64 p0.cond),(.bool p0.wide)]]:lT))=tm (FO w94 p0) fun r=>(.normal,[(.ptr 0 0),(.bool false),(.int .i64 p0.op),(.bool r)],([.cells [(.int .i64 p0.op),(.int .i64 p0.rd),(.int .i64 p0.rn),(.int .i64 p0.rm),(.int .i64 p0.ra),(.int .i64 p0.imm),(.int .i64 p0.cond),(.bool p0.wide)]]:lT)):=by
 cases w94 <;> simp [-l9,-lV,-lU,-lW,-lZ,-lY,-lX,Sh,FO,apG]
def YF (K:mA) (m:Nat) (aK:lS) (aD:lS) (aE:lS) (aB:lS) (aJ:lT):Option R :=
 mH aK (mK m .normal [aD,aE,aB,aK] aJ) (bo .eql aB (.int .i64 14) fun aL=>(Sh K (aa5 aJ) aL aD aE aB aJ).bind fun aA=>(fun aF aG aH aC aI=>Ex.rQ aA.1 (mK m .normal [aF,aG,aH,aC] aI)) (gd aA.2.1 0) (gd aA.2.1 1) (gd aA.2.1 2) (gd aA.2.1 3) aA.2.2)
def Ls (aB:Bool) (p0:Ins):Option (Bool) :=
 tc aB (some aB) (tb (FO (decide (p0.op=14)) p0) fun aA=>some aA)
theorem awI (w92:Bool) (p0:Ins):(YF KK 1 (.bool w92) (.ptr 0 0) (.bool false) (.int .i64 p0.op) ([.cells [(.int .i64 p0.op),(.int .i64 p0.rd),(.int .i64 p0.rn),(.int .i64 p0.rm),(.int .i64 p0.ra),(.int .i64 p0.imm),(.int .i64 p0.cond),(.bool p0.wide)]]:lT))=tm (Ls w92 p0) fun r=>(.normal,[(.ptr 0 0),(.bool false),(.int .i64 p0.op),(.bool r)],([.cells [(.int .i64 p0.op),(.int .i64 p0.rd),(.int .i64 p0.rn),(.int .i64 p0.rm),(.int .i64 p0.ra),(.int .i64 p0.imm),(.int .i64 p0.cond),(.bool p0.wide)]]:lT)):=by
 cases w92 <;> simp [-l9,-lV,-lU,-lW,-lZ,-lY,-lX,YF,Ls,apF]
def YE (K:mA) (m:Nat) (aK:lS) (aD:lS) (aE:lS) (aB:lS) (aJ:lT):Option R :=
 mH aK (mK m .normal [aD,aE,aB,aK] aJ) (bo .eql aB (.int .i64 13) fun aL=>(YF K (aa5 aJ) aL aD aE aB aJ).bind fun aA=>(fun aF aG aH aC aI=>Ex.rQ aA.1 (mK m .normal [aF,aG,aH,aC] aI)) (gd aA.2.1 0) (gd aA.2.1 1) (gd aA.2.1 2) (gd aA.2.1 3) aA.2.2)
def Lr (aB:Bool) (p0:Ins):Option (Bool) :=
 tc aB (some aB) (tb (Ls (decide (p0.op=13)) p0) fun aA=>some aA)
theorem awH (w90:Bool) (p0:Ins):(YE KK 1 (.bool w90) (.ptr 0 0) (.bool false) (.int .i64 p0.op) ([.cells [(.int .i64 p0.op),(.int .i64 p0.rd),(.int .i64 p0.rn),(.int .i64 p0.rm),(.int .i64 p0.ra),(.int .i64 p0.imm),(.int .i64 p0.cond),(.bool p0.wide)]]:lT))=tm (Lr w90 p0) fun r=>(.normal,[(.ptr 0 0),(.bool false),(.int .i64 p0.op),(.bool r)],([.cells [(.int .i64 p0.op),(.int .i64 p0.rd),(.int .i64 p0.rn),(.int .i64 p0.rm),(.int .i64 p0.ra),(.int .i64 p0.imm),(.int .i64 p0.cond),(.bool p0.wide)]]:lT)):=by
 cases w90 <;> simp [-l9,-lV,-lU,-lW,-lZ,-lY,-lX,YE,Lr,awI]
def YD (K:mA) (m:Nat) (aK:lS) (aD:lS) (aE:lS) (aB:lS) (aJ:lT):Option R :=
 mH aK (mK m .normal [aD,aE,aB,aK] aJ) (bo .eql aB (.int .i64 12) fun aL=>(YE K (aa5 aJ) aL aD aE aB aJ).bind fun aA=>(fun aF aG aH aC aI=>Ex.rQ aA.1 (mK m .normal [aF,aG,aH,aC] aI)) (gd aA.2.1 0) (gd aA.2.1 1) (gd aA.2.1 2) (gd aA.2.1 3) aA.2.2)
def Lq (aB:Bool) (p0:Ins):Option (Bool) :=
 tc aB (some aB) (tb (Lr (decide (p0.op=12)) p0) fun aA=>some aA)
theorem awG (w88:Bool) (p0:Ins):(YD KK 1 (.bool w88) (.ptr 0 0) (.bool false) (.int .i64 p0.op) ([.cells [(.int .i64 p0.op),(.int .i64 p0.rd),(.int .i64 p0.rn),(.int .i64 p0.rm),(.int .i64 p0.ra),(.int .i64 p0.imm),(.int .i64 p0.cond),(.bool p0.wide)]]:lT))=tm (Lq w88 p0) fun r=>(.normal,[(.ptr 0 0),(.bool false),(.int .i64 p0.op),(.bool r)],([.cells [(.int .i64 p0.op),(.int .i64 p0.rd),(.int .i64 p0.rn),(.int .i64 p0.rm),(.int .i64 p0.ra),(.int .i64 p0.imm),(.int .i64 p0.cond),(.bool p0.wide)]]:lT)):=by
 cases w88 <;> simp [-l9,-lV,-lU,-lW,-lZ,-lY,-lX,YD,Lq,awH]
def YC (K:mA) (m:Nat) (aK:lS) (aD:lS) (aE:lS) (aB:lS) (aJ:lT):Option R :=
 mH aK (mK m .normal [aD,aE,aB,aK] aJ) (bo .eql aB (.int .i64 11) fun aL=>(YD K (aa5 aJ) aL aD aE aB aJ).bind fun aA=>(fun aF aG aH aC aI=>Ex.rQ aA.1 (mK m .normal [aF,aG,aH,aC] aI)) (gd aA.2.1 0) (gd aA.2.1 1) (gd aA.2.1 2) (gd aA.2.1 3) aA.2.2)
def Lp (aB:Bool) (p0:Ins):Option (Bool) :=
 tc aB (some aB) (tb (Lq (decide (p0.op=11)) p0) fun aA=>some aA)
theorem PF (w86:Bool) (p0:Ins):(YC KK 1 (.bool w86) (.ptr 0 0) (.bool false) (.int .i64 p0.op) ([.cells [(.int .i64 p0.op),(.int .i64 p0.rd),(.int .i64 p0.rn),(.int .i64 p0.rm),(.int .i64 p0.ra),(.int .i64 p0.imm),(.int .i64 p0.cond),(.bool p0.wide)]]:lT))=tm (Lp w86 p0) fun r=>(.normal,[(.ptr 0 0),(.bool false),(.int .i64 p0.op),(.bool r)],([.cells [(.int .i64 p0.op),(.int .i64 p0.rd),(.int .i64 p0.rn),(.int .i64 p0.rm),(.int .i64 p0.ra),(.int .i64 p0.imm),(.int .i64 p0.cond),(.bool p0.wide)]]:lT)):=by
 cases w86 <;> simp [-l9,-lV,-lU,-lW,-lZ,-lY,-lX,YC,Lp,awG]
def Sk (K:mA) (m:Nat) (aE:lS) (aA:lS) (aB:lS) (aD:lT) (aC:lS):Option R :=
 mH aE (mK m .normal [aA,aB,aE] aD) (bo .eql aC (.int .i64 21) fun aF=>mK m .normal [aA,aB,aF] aD)
def FT (aA:Bool) (p0:Ins):Option (Bool) :=
 tc aA (some aA) (some (decide (p0.op=21)))
theorem apH (w226:Bool) (p0:Ins):(Sk KK 1 (.bool w226) (.ptr 0 0) (.bool false) ([.cells [(.int .i64 p0.op),(.int .i64 p0.rd),(.int .i64 p0.rn),(.int .i64 p0.rm),(.int .i64 p0.ra),(.int .i64 p0.imm),(.int .i64 p0.cond),(.bool p0.wide)]]:lT) (.int .i64 p0.op))=tm (FT w226 p0) fun r=>(.normal,[(.ptr 0 0),(.bool false),(.bool r)],([.cells [(.int .i64 p0.op),(.int .i64 p0.rd),(.int .i64 p0.rn),(.int .i64 p0.rm),(.int .i64 p0.ra),(.int .i64 p0.imm),(.int .i64 p0.cond),(.bool p0.wide)]]:lT)):=by
 cases w226 <;> simp [-l9,-lV,-lU,-lW,-lZ,-lY,-lX,Sk,FT]
def Sj (K:mA) (m:Nat) (aI:lS) (aB:lS) (aC:lS) (aF:lT) (aD:lS):Option R :=
 mH aI (mK m .normal [aB,aC,aI] aF) (bo .eql aD (.int .i64 19) fun aK=>(Sk K (aa5 aF) aK aB aC aF aD).bind fun aA=>(fun aG aH aE aJ=>Ex.rQ aA.1 (mK m .normal [aG,aH,aE] aJ)) (gd aA.2.1 0) (gd aA.2.1 1) (gd aA.2.1 2) aA.2.2)
def FQ (aA:Bool) (p0:Ins):Option (Bool) :=
 tc aA (some aA) (tb (FT (decide (p0.op=19)) p0) fun aB=>some aB)
theorem I9 (w224:Bool) (p0:Ins):(Sj KK 1 (.bool w224) (.ptr 0 0) (.bool false) ([.cells [(.int .i64 p0.op),(.int .i64 p0.rd),(.int .i64 p0.rn),(.int .i64 p0.rm),(.int .i64 p0.ra),(.int .i64 p0.imm),(.int .i64 p0.cond),(.bool p0.wide)]]:lT) (.int .i64 p0.op))=tm (FQ w224 p0) fun r=>(.normal,[(.ptr 0 0),(.bool false),(.bool r)],([.cells [(.int .i64 p0.op),(.int .i64 p0.rd),(.int .i64 p0.rn),(.int .i64 p0.rm),(.int .i64 p0.ra),(.int .i64 p0.imm),(.int .i64 p0.cond),(.bool p0.wide)]]:lT)):=by
 cases w224 <;> simp [-l9,-lV,-lU,-lW,-lZ,-lY,-lX,Sj,FQ,apH]
def Sl (K:mA) (t154:lS) (aA:lT):Option R :=
 some (.ret,[t154],aA)
def JH (aA:Bool):Option (Bool) :=
 some aA
theorem ND (w157:Bool) (p0:Ins):((Sl KK (.bool w157) ([.cells [(.int .i64 p0.op),(.int .i64 p0.rd),(.int .i64 p0.rn),(.int .i64 p0.rm),(.int .i64 p0.ra),(.int .i64 p0.imm),(.int .i64 p0.cond),(.bool p0.wide)]]:lT))).bind (Km 0)=tm (JH w157) fun r=>(.ret (.bool r),[]):=by
 cases w157 <;> simp [-l9,-lV,-lU,-lW,-lZ,-lY,-lX,Sl,JH,r15,PD,PE,PF,I9,Km]
def Sp (K:mA) (aB:lS) (aA:lT):Option R :=
 some (.ret,[aB],aA)
def JK (aA:Bool):Option (Bool) :=
 some aA
theorem SK (w221:Bool) (p0:Ins):((Sp KK (.bool w221) ([.cells [(.int .i64 p0.op),(.int .i64 p0.rd),(.int .i64 p0.rn),(.int .i64 p0.rm),(.int .i64 p0.ra),(.int .i64 p0.imm),(.int .i64 p0.cond),(.bool p0.wide)]]:lT))).bind (Km 0)=tm (JK w221) fun r=>(.ret (.bool r),[]):=by
 cases w221 <;> simp [-l9,-lV,-lU,-lW,-lZ,-lY,-lX,Sp,JK,r15,PD,PE,PF,I9,Km,ND]
def Sn (K:mA) (aA:lS) (aB:lS) (aE:lT):Option R :=
 gS true aA (fa 4 aB fun aI=>mM aI aE) aE fun aJ aC=>gS true aA (ld false 1 aC aJ fun aK=>mM aK aC) aC fun aL aF=>gS true aA (fa 3 aB fun aM=>mM aM aF) aF fun aN aD=>gS true aA (ld false 1 aD aN fun aO=>mM aO aD) aD fun aP aG=>gS true aA (bo .neq aL aP fun aQ=>mM aQ aG) aG fun aR aH=>(nA aA aR (.bool false)).bind fun aS=>Sp K aS aH
def JJ (aA:Bool) (p0:Ins):Option (Bool) :=
 tc aA (JK (!decide (p0.ra=p0.rm))) (JK false)
theorem Ze (w202:Bool) (p0:Ins):((Sn KK (.bool w202) (.ptr 0 0) ([.cells [(.int .i64 p0.op),(.int .i64 p0.rd),(.int .i64 p0.rn),(.int .i64 p0.rm),(.int .i64 p0.ra),(.int .i64 p0.imm),(.int .i64 p0.cond),(.bool p0.wide)]]:lT))).bind (Km 0)=tm (JJ w202 p0) fun r=>(.ret (.bool r),[]):=by
 cases w202 <;> simp [-l9,-lV,-lU,-lW,-lZ,-lY,-lX,Sn,JJ,r15,PD,PE,PF,I9,Km,ND,SK]
def Sm (K:mA) (aB:lS) (aA:lS) (aE:lT):Option R :=
 gS true aB (fa 4 aA fun aI=>mM aI aE) aE fun aJ aC=>gS true aB (ld false 1 aC aJ fun aK=>mM aK aC) aC fun aL aF=>gS true aB (fa 2 aA fun aM=>mM aM aF) aF fun aN aD=>gS true aB (ld false 1 aD aN fun aO=>mM aO aD) aD fun aP aG=>gS true aB (bo .neq aL aP fun aQ=>mM aQ aG) aG fun aR aH=>(nA aB aR (.bool false)).bind fun aS=>Sn K aS aA aH
def JI (aA:Bool) (p0:Ins):Option (Bool) :=
 tc aA (JJ (!decide (p0.ra=p0.rn)) p0) (JJ false p0)
theorem apI (w182:Bool) (p0:Ins):((Sm KK (.bool w182) (.ptr 0 0) ([.cells [(.int .i64 p0.op),(.int .i64 p0.rd),(.int .i64 p0.rn),(.int .i64 p0.rm),(.int .i64 p0.ra),(.int .i64 p0.imm),(.int .i64 p0.cond),(.bool p0.wide)]]:lT))).bind (Km 0)=tm (JI w182 p0) fun r=>(.ret (.bool r),[]):=by
 cases w182 <;> simp [-l9,-lV,-lU,-lW,-lZ,-lY,-lX,Sm,JI,r15,PD,PE,PF,I9,Km,ND,SK,Ze]
def m8 (K:mA) (a0:lS) (h0:lT):Option (nT×lT) :=
 (mC (nP 8 h0 a0) fun bR bZ=>ld true 8 bZ bR fun b_=>ca (K 15 [(lS.l_ b_)] bZ) fun t23 bC=>bo .neq t23 (.int .i64 0) fun t26=>mH t26 (some (.ret,[(.bool false)],bC)) (fa 0 bR fun cA=>ld false 1 bC cA fun t28=>bo .eql t28 (.int .i64 24) fun t29=>(Yw K (aa5 bC) t29 bR t28 bC).bind fun aR=>(fun aY aZ aJ bB bF=>Ex.rQ aR.1 (mH bB (some (.ret,[(.bool false)],bF)) (bo .eql aJ (.int .i64 5) fun cB=>(Yy K (aa5 bF) cB aY aZ aJ bF).bind fun aS=>(fun aF a_ aK aP aX=>Ex.rQ aS.1 (mH aP (fa 1 aF fun cC=>ld false 1 aX cC fun cD=>fa 3 aF fun cE=>ld false 1 aX cE fun cF=>bo .neq cD cF fun cG=>some (.ret,[cG],aX)) (bo .eql aK (.int .i64 10) fun cH=>(YC K (aa5 aX) cH aF a_ aK aX).bind fun x7=>(fun aA aQ aC aH aB=>Ex.rQ x7.1 (mH aH (fa 1 aA fun t134=>ld false 1 aB t134 fun t135=>fa 2 aA fun t136=>ld false 1 aB t136 fun t137=>bo .neq t135 t137 fun t138=>gS true t138 (fa 1 aA fun t139=>mM t139 aB) aB fun t140 aL=>gS true t138 (ld false 1 aL t140 fun t142=>mM t142 aL) aL fun t143 aT=>gS true t138 (fa 3 aA fun t145=>mM t145 aT) aT fun t146 aM=>gS true t138 (ld false 1 aM t146 fun t148=>mM t148 aM) aM fun t149 aU=>gS true t138 (bo .neq t143 t149 fun t151=>mM t151 aU) aU fun bG bD=>(nA t138 bG (.bool false)).bind fun t154=>Sl K t154 bD) (bo .eql aC (.int .i64 17) fun bH=>mH bH (fa 1 aA fun t159=>ld false 1 aB t159 fun t160=>fa 2 aA fun t161=>ld false 1 aB t161 fun t162=>bo .neq t160 t162 fun t163=>gS true t163 (fa 1 aA fun t164=>mM t164 aB) aB fun t165 aN=>gS true t163 (ld false 1 aN t165 fun bI=>mM bI aN) aN fun bJ aV=>gS true t163 (fa 3 aA fun bK=>mM bK aV) aV fun bL aO=>gS true t163 (ld false 1 aO bL fun bM=>mM bM aO) aO fun bN aW=>gS true t163 (bo .neq bJ bN fun bO=>mM bO aW) aW fun bP bE=>(nA t163 bP (.bool false)).bind fun bQ=>Sm K bQ aA bE) (bo .eql aC (.int .i64 18) fun bS=>(Sj K (aa5 aB) bS aA aQ aB aC).bind fun aD=>(fun aE bY aI aG=>Ex.rQ aD.1 (mH aI (fa 1 aE fun bT=>ld false 1 aG bT fun bU=>fa 2 aE fun bV=>ld false 1 aG bV fun bW=>bo .neq bU bW fun bX=>some (.ret,[bX],aG)) (some (.ret,[(.bool true)],aG)))) (gd aD.2.1 0) (gd aD.2.1 1) (gd aD.2.1 2) aD.2.2)))) (gd x7.2.1 0) (gd x7.2.1 1) (gd x7.2.1 2) (gd x7.2.1 3) x7.2.2))) (gd aS.2.1 0) (gd aS.2.1 1) (gd aS.2.1 2) (gd aS.2.1 3) aS.2.2))) (gd aR.2.1 0) (gd aR.2.1 1) (gd aR.2.1 2) (gd aR.2.1 3) aR.2.2)).bind (Km (aa5 h0))
theorem avG (K:mA) (a0:lS) (h0:lT):p9 Tryz.prog nM nL K 8 [a0] h0=m8 (mW nM K) a0 h0:=by kernel_rfl
def t8 (p0:Ins):Option (Bool) :=
 tb ((t15 p0)) fun aB=>tc (!decide (aB=0)) (some false) (tb (Gz (decide (p0.op=24)) p0) fun aC=>tc aC (some false) (tb (GB (decide (p0.op=5)) p0) fun aD=>tc aD (some (!decide (p0.rd=p0.rm))) (tb (Lp (decide (p0.op=10)) p0) fun x7=>tc x7 (tc (!decide (p0.rd=p0.rn)) (JH (!decide (p0.rd=p0.rm))) (JH false)) (tc (decide (p0.op=17)) (tc (!decide (p0.rd=p0.rn)) (JI (!decide (p0.rd=p0.rm)) p0) (JI false p0)) (tb (FQ (decide (p0.op=18)) p0) fun aA=>tc aA (some (!decide (p0.rd=p0.rn))) (some true))))))
set_option maxHeartbeats 4000000 in
theorem b8 (p0:Ins):m8 KK (.agg [(.int .i64 p0.op),(.int .i64 p0.rd),(.int .i64 p0.rn),(.int .i64 p0.rm),(.int .i64 p0.ra),(.int .i64 p0.imm),(.int .i64 p0.cond),(.bool p0.wide)]) []=tm (t8 p0) fun r=>(.ret (.bool r),[]):=by
 simp +contextual -implicitDefEqProofs (maxSteps:=2000000) [-l9,-lV,-lU,-lW,-lZ,-lY,-lX,m8,t8,r15,PD,PE,PF,I9,Km,ND,SK,Ze,apI]
theorem r8 (p0:Ins) (h:lT):KK 8 [(.agg [(.int .i64 p0.op),(.int .i64 p0.rd),(.int .i64 p0.rn),(.int .i64 p0.rm),(.int .i64 p0.ra),(.int .i64 p0.imm),(.int .i64 p0.cond),(.bool p0.wide)])] h=tm (t8 p0) fun r=>(.ret (.bool r),h):=oE rfl rfl (avG ..) (b8 p0)
end
section
open Go Hk
def Q8 (n:Int):Int:=GS .i64 n 65535
def ZF (n:Int):Int:=GS .i64 (n.fdiv (2^min (Int.toNat 16) (IntKind.bits .i64))) 65535
def p8 (r n:Int):List Ins:=[⟨3,r,0,0,0,Q8 n,0,false⟩,⟨4,r,0,0,0,ZF n,0,false⟩]
def F2 (r b f:Int):List Ins:=[⟨3,r,0,0,0,0,0,false⟩,⟨4,r,0,0,0,ZF b,0,false⟩,⟨18,r,f,0,16,0,0,false⟩]
def oK (l:List Ins):List mS:=l.map fun i=>⟨0,0,i⟩
def yH (n:Int):mS:=⟨1,n,⟨0,0,0,0,0,0,0,false⟩⟩
def GL (n:Int):mS:=⟨2,n,⟨24,0,0,0,0,0,0,false⟩⟩
def wH (c n:Int):mS:=⟨2,n,⟨25,0,0,0,0,0,c,false⟩⟩
def inc (n:Int):Int:=IntKind.wrap .i64 (n+1)
def stepG:List Ins:=[⟨3,3,0,0,0,4,0,false⟩,⟨14,4,1,3,0,0,0,false⟩,⟨5,1,0,4,0,0,0,false⟩]
def IK (out first:Int) (body:List mS):List mS :=
 oK [⟨3,1,0,0,0,0,0,false⟩]++yH first::oK (p8 2 out++[⟨23,0,1,2,0,0,0,false⟩])++wH 2 (inc first)::body++oK stepG++[GL first,yH (inc first)]
def Eg (image:Int) (both:Bool):List Ins :=
 [⟨3,3,0,0,0,Q8 image,0,false⟩,⟨14,4,1,3,0,0,0,false⟩]++F2 5 0x20040000 4++(if both then F2 7 0x20080000 4 else [])++F2 6 0x20020000 1
def N5 (h r:Int):List mS:=oK [⟨19,2,r,0,0,0,0,false⟩,⟨23,0,0,2,0,0,0,false⟩]++[wH 1 h]
def IC (image out:Int) (both:Bool) (h first:Int):List mS :=
 IK out first (oK (Eg image false++[⟨19,0,5,0,0,0,0,false⟩,⟨20,0,6,0,0,0,0,false⟩])) ++
 (if both then IK out (IntKind.wrap .i64 (first+2)) (oK (Eg image true++[⟨19,0,6,0,0,0,0,false⟩])++N5 h 5++N5 h 7) else []) ++
 oK (p8 5 0x20100000++p8 0 0xc0de600d++[⟨20,0,5,0,0,0,0,false⟩,⟨2,0,0,0,0,0,0,false⟩]++if both then [⟨2,0,0,0,0,0,0,false⟩] else [])
def Uw (h:Int):List mS:=oK [⟨19,0,5,0,0,0,0,false⟩,⟨3,2,0,0,0,0,0,false⟩,⟨23,0,0,2,0,0,0,false⟩]++[wH 1 h]
def CW (s:Sz) (twice:Bool) (h first:Int):List mS :=
 let at_:=fun k=>IntKind.wrap .i64 (first+k)
 let wipe:=fun(b n k:Int)=>IK n (at_ k) (oK ([⟨3,0,0,0,0,0,0,false⟩]++F2 5 b 1++[⟨20,0,5,0,0,0,0,false⟩]))
 let look:=fun(b n k:Int)=>IK n (IntKind.wrap .i64 (at_ 6+k)) (oK (F2 5 b 1)++Uw h)
 yH h::oK ([⟨3,0,0,0,0,0,0,false⟩]++p8 5 0x20100000++[⟨20,0,5,0,0,0,0,false⟩]) ++
 wipe 0x20020000 s.outt 0++wipe 0x20040000 s.rail 2++wipe 0x20080000 s.rail 4 ++
 look 0x20020000 s.outt 0++look 0x20040000 s.rail 2++look 0x20080000 s.rail 4 ++
 oK (p8 5 0x20100000)++Uw h ++
 oK (p8 5 0x20200000++p8 0 0x0bad0bad++[⟨20,0,5,0,0,0,0,false⟩,⟨2,0,0,0,0,0,0,false⟩]++if twice then [⟨2,0,0,0,0,0,0,false⟩] else [])
set_option maxRecDepth 100000 in
theorem awW (image out h first:Int):Od Tryz.prog nM (qT 60) 12 25 [.int .i64 image,.int .i64 out,.bool false,.int .i64 h,.int .i64 first] []=some (.ret (.slice (Rw mS.cells (IC image out false h first)) .no),[]):=by kernel_rfl
set_option maxRecDepth 100000 in
theorem apR (image out h first:Int):Od Tryz.prog nM (qT 60) 12 25 [.int .i64 image,.int .i64 out,.bool true,.int .i64 h,.int .i64 first] []=some (.ret (.slice (Rw mS.cells (IC image out true h first)) .no),[]):=by kernel_rfl
set_option maxRecDepth 100000 in
theorem awX (s:Sz) (b:Bool) (h first:Int):Od Tryz.prog nM (qT 60) 12 27 [.agg [.int .i64 s.inn,.int .i64 s.outt,.int .i64 s.rail],.bool false,.int .i64 h,.int .i64 first] []=some (.ret (.slice (Rw mS.cells (CW s false h first)) .no),[]):=by kernel_rfl
set_option maxRecDepth 100000 in
theorem apS (s:Sz) (b:Bool) (h first:Int):Od Tryz.prog nM (qT 60) 12 27 [.agg [.int .i64 s.inn,.int .i64 s.outt,.int .i64 s.rail],.bool true,.int .i64 h,.int .i64 first] []=some (.ret (.slice (Rw mS.cells (CW s true h first)) .no),[]):=by kernel_rfl
theorem c25 (image out:Int) (b:Bool) (h first:Int) (hp:lT):KK 25 [.int .i64 image,.int .i64 out,.bool b,.int .i64 h,.int .i64 first] hp=some (.ret (.slice (Rw mS.cells (IC image out b h first)) .no),hp):=by
 cases b
 ·exact nN rfl rfl (D0 60 12 25 _ _ _ (awW ..))
 ·exact nN rfl rfl (D0 60 12 25 _ _ _ (apR ..))
theorem c27 (s:Sz) (b:Bool) (h first:Int) (hp:lT):KK 27 [.agg [.int .i64 s.inn,.int .i64 s.outt,.int .i64 s.rail],.bool b,.int .i64 h,.int .i64 first] hp=some (.ret (.slice (Rw mS.cells (CW s b h first)) .no),hp):=by
 cases b
 ·exact nN rfl rfl (D0 60 12 27 _ _ _ (awX s false ..))
 ·exact nN rfl rfl (D0 60 12 27 _ _ _ (apS s false ..))
end
section
open Go Hk
def wV (i:Ins):Prop:=i.op≠2→t8 i=some true
theorem TT (n:Int):0≤GS .i64 n 65535∧GS .i64 n 65535≤65535:=by
 have h:(BitVec.ofInt 64 n &&& BitVec.ofInt 64 65535).toNat≤65535:=by
  rw [BitVec.toNat_and];exact Nat.le_trans Nat.and_le_right (by decide)
 unfold GS
 show 0≤IntKind.i64.wrap ((BitVec.ofInt 64 n &&& BitVec.ofInt 64 65535).toNat:Int)∧IntKind.i64.wrap ((BitVec.ofInt 64 n &&& BitVec.ofInt 64 65535).toNat:Int)≤65535
 rw [wrap64 (by omega) (by omega)]
 omega
theorem Q9 (n:Int):0≤Q8 n∧Q8 n≤65535:=TT n
theorem ZG (n:Int):0≤ZF n∧ZF n≤65535:=TT _
theorem PK {r m:Int}(h0:0≤r) (h1:r≤12) (h2:0≤m∧m≤65535):wV ⟨3,r,0,0,0,m,0,false⟩:=by
 intro _
 simp [t8,t15,AT,AU,AV,AW,AX,AY,AZ,A0,zO,t30,B1,t31,B2,t32,Gz,GA,GB,JE,JF,JG,Lp,Lq,Lr,Ls,FO,FP,FQ,FT,h0,h1,h2.1,h2.2]
theorem Zk {r m:Int}(h0:0≤r) (h1:r≤12) (h2:0≤m∧m≤65535):wV ⟨4,r,0,0,0,m,0,false⟩:=by
 intro _
 simp [t8,t15,AT,AU,AV,AW,AX,AY,AZ,A0,zO,t30,B1,t31,B2,t32,Gz,GA,GB,JE,JF,JG,Lp,Lq,Lr,Ls,FO,FP,FQ,FT,h0,h1,h2.1,h2.2]
end
noncomputable section
open Go Hk
def ah8 (mm:Nat) (aB:R):Option (nT×lT) :=
 (fun aA aC=>Ex.oA aB.1 (nZ mm aA aC)) (gd aB.2.1 0) aB.2.2
theorem akC (y0:Int) (y1:Int) (y2:Int) (y3:Int) (y4:Int) (y5:Int) (y6:Int) (y7:Int) (y8:Int) (y9:Bool) (h:lT):mD 1 10 [(.int .i64 0),(.int .i64 0),(.int .i64 0),(.int .i64 0),(.int .i64 0),(.int .i64 0),(.int .i64 0),(.int .i64 0),(.int .i64 0),(.bool false)] [(0,(.agg [(.int .i64 y0),(.int .i64 y1),(.int .i64 y2),(.int .i64 y3),(.int .i64 y4),(.int .i64 y5),(.int .i64 y6),(.int .i64 y7),(.int .i64 y8),(.bool y9)]))] h=some (.slice (Rw mS.cells [(⟨y0,y1,(⟨y2,y3,y4,y5,y6,y7,y8,y9⟩:Ins)⟩:mS)]) (.own h.length),h++[oR 10 1]):=by
 rfl
theorem akD (y0:Int) (y1:Int) (y2:Int) (y3:Int) (y4:Int) (y5:Int) (y6:Int) (y7:Int) (y8:Int) (y9:Bool) (h:lT):mD 1 10 [(.int .i64 0),(.int .i64 0),(.int .i64 0),(.int .i64 0),(.int .i64 0),(.int .i64 0),(.int .i64 0),(.int .i64 0),(.int .i64 0),(.bool false)] [(0,(.agg [(.int .i64 y0),(.int .i64 y1),(.int .i64 y2),(.int .i64 y3),(.int .i64 y4),(.int .i64 y5),(.int .i64 y6),(.int .i64 y7),(.int .i64 y8),(.bool y9)]))] h=some (.slice (Rw mS.cells [(⟨y0,y1,(⟨y2,y3,y4,y5,y6,y7,y8,y9⟩:Ins)⟩:mS)]) (.own h.length),h++[oR 10 1]):=by
 rfl
def Ra (K:mA) (m:Nat) (aJ:lS) (aE:lT) (aI:lS) (aF:lS) (aA:lS) (aB:lS) (aC:lS) (aD:lS):Option R :=
 mH aJ (ld true 10 aE aI fun aK=>mC (mD 1 10 [(.int .i64 0),(.int .i64 0),(.int .i64 0),(.int .i64 0),(.int .i64 0),(.int .i64 0),(.int .i64 0),(.int .i64 0),(.int .i64 0),(.bool false)] [(0,aK)] aE) fun aL aG=>mC (nD 10 80 aG aF aL) fun aM aH=>mK m .normal [aA,aM,aB,aC,aD] aH) (mK m .normal [aA,aF,aB,aC,aD] aE)
def Jg (aD:Bool) (aA:(List mS)) (aC:mS):Option ((List mS)) :=
 tc aD (tb ((pD 80 aA [aC])) fun aB=>some aB) (some aA)
theorem aoN (w53:Bool) (l45:(List mS)) (u35:mS) (w52:Nat) (p0:(List mS)) (w25:Int) (w49:Int):(Ra KK 4 (.bool w53) ([.front 0 0,oR 10 (aa5 l45),.cells [(.int .i64 u35.kind),(.int .i64 u35.label),(.int .i64 u35.ins.op),(.int .i64 u35.ins.rd),(.int .i64 u35.ins.rn),(.int .i64 u35.ins.rm),(.int .i64 u35.ins.ra),(.int .i64 u35.ins.imm),(.int .i64 u35.ins.cond),(.bool u35.ins.wide)],oR 10 w52]:lT) (.ptr 2 0) (.slice (Rw mS.cells l45) (.own 1)) (.slice (Rw mS.cells []) (.own 0)) (.slice (Rw mS.cells p0) .no) (.int .i64 w25) (.int .i64 w49))=tm (Jg w53 l45 u35) fun r=>(.normal,[(.slice (Rw mS.cells []) (.own 0)),(.slice (Rw mS.cells r) (.own 1)),(.slice (Rw mS.cells p0) .no),(.int .i64 w25),(.int .i64 w49)],([.front 0 0,oR 10 (aa5 r),.cells [(.int .i64 u35.kind),(.int .i64 u35.label),(.int .i64 u35.ins.op),(.int .i64 u35.ins.rd),(.int .i64 u35.ins.rn),(.int .i64 u35.ins.rm),(.int .i64 u35.ins.ra),(.int .i64 u35.ins.imm),(.int .i64 u35.ins.cond),(.bool u35.ins.wide)],oR 10 w52]:lT)):=by
 cases w53 <;> simp [-l9,-lV,-lU,-lW,-lZ,-lY,-lX,Ra,Jg,akD]
def Mx (K:mA) (m:Nat) (s:List lS×lT):Option R :=
 (fun aD aE aB aC aA aL=>bo .lss aA aC fun aR=>mH aR (ix 10 aB aA fun aS=>ld true 10 aL aS fun t36=>mC (nP 10 aL (.agg [(.int .i64 0),(.int .i64 0),(.int .i64 0),(.int .i64 0),(.int .i64 0),(.int .i64 0),(.int .i64 0),(.int .i64 0),(.int .i64 0),(.bool false)])) fun aK aO=>(mL 10 aO aK t36).bind fun aN=>ld true 10 aN aK fun aT=>mC (mD 1 10 [(.int .i64 0),(.int .i64 0),(.int .i64 0),(.int .i64 0),(.int .i64 0),(.int .i64 0),(.int .i64 0),(.int .i64 0),(.int .i64 0),(.bool false)] [(0,aT)] aN) fun aU aP=>mC (nD 10 80 aP aE aU) fun aV aM=>fa 0 aK fun aW=>ld false 1 aM aW fun aX=>bo .neq aX (.int .i64 1) fun aY=>(Ra K (aa5 aM) aY aM aK aV aD aB aC aA).bind fun DE=>(fun aF aG aH aI aJ aQ=>Ex.rQ DE.1 (bo .add aJ (.int .i64 1) fun aZ=>mK m .normal [aF,aG,aH,aI,aZ] aQ)) (gd DE.2.1 0) (gd DE.2.1 1) (gd DE.2.1 2) (gd DE.2.1 3) (gd DE.2.1 4) DE.2.2) (mK m (.exit 0) [aD,aE,aB,aC,aA] aL)) (gd s.1 0) (gd s.1 1) (gd s.1 2) (gd s.1 3) (gd s.1 4) s.2
def B0 (p0:(List mS)) (aD:Int) (aA:(List mS)×Int):Option (Ey×(List mS)×Int) :=
 tc (decide (aA.2<aD)) (tb ((o8 p0 aA.2)) fun aB=>tb ((pD 80 aA.1 [aB])) fun aC=>tb (Jg (!decide (aB.kind=1)) aC aB) fun DE=>some (.n,(DE,(IntKind.wrap .i64 (aA.2+1))))) (some ((.x 0),(aA.1,aA.2)))
theorem aj2 (p0:(List mS)) (w25:Int) (s26:(List mS)×Int):Mx KK 2 ([(.slice (Rw mS.cells []) (.own 0)),(.slice (Rw mS.cells s26.1) (.own 1)),(.slice (Rw mS.cells p0) .no),(.int .i64 w25),(.int .i64 s26.2)],([.front 0 0,oR 10 (aa5 s26.1)]:lT))=tm (B0 p0 w25 s26) fun r=>(r.1.ex,[(.slice (Rw mS.cells []) (.own 0)),(.slice (Rw mS.cells r.2.1) (.own 1)),(.slice (Rw mS.cells p0) .no),(.int .i64 w25),(.int .i64 r.2.2)],([.front 0 0,oR 10 (aa5 r.2.1)]:lT)):=by
 simp [-l9,-lV,-lU,-lW,-lZ,-lY,-lX,Mx,B0,akC,aoN]
theorem aoO (p0:(List mS)) (w25:Int) (i4:Int):nL (Mx KK 2) ([(.slice (Rw mS.cells []) (.own 0)),(.slice (Rw mS.cells []) (.own 1)),(.slice (Rw mS.cells p0) .no),(.int .i64 w25),(.int .i64 i4)],([.front 0 0,.front 0 0]:lT))=tm (sG (B0 p0 w25) ([],i4)) fun r=>(r.1.ex,[(.slice (Rw mS.cells []) (.own 0)),(.slice (Rw mS.cells r.2.1) (.own 1)),(.slice (Rw mS.cells p0) .no),(.int .i64 w25),(.int .i64 r.2.2)],([.front 0 0,oR 10 (aa5 r.2.1)]:lT)):=by
 exact s7 (enc:=fun s26=>([(.slice (Rw mS.cells []) (.own 0)),(.slice (Rw mS.cells s26.1) (.own 1)),(.slice (Rw mS.cells p0) .no),(.int .i64 w25),(.int .i64 s26.2)],([.front 0 0,oR 10 (aa5 s26.1)]:lT))) (fun s26=>aj2 p0 w25 s26) ([],i4)
def m12 (K:mA) (a0:lS) (h0:lT):Option (nT×lT) :=
 ((fun(aL:lS) (aD:lT)=>(fun(t23:lS) (aE:lT)=>ln a0 fun t24=>(nL (Mx K (aa5 aE)) ([aL,t23,a0,t24,(.int .i64 0)],aE)).bind fun aA=>(fun aB aC aG aH aI aF=>Ex.nC aA.1 none (fun aJ=>Ex.inBlock 0 aJ (some (.ret,[aC],aF)) (fun aK=>some (aK,[aB],aF)))) (gd aA.2.1 0) (gd aA.2.1 1) (gd aA.2.1 2) (gd aA.2.1 3) (gd aA.2.1 4) aA.2.2) (.slice (Rw mS.cells []) (.own (aa5 aD))) (aD++[.front 0 0])) (.slice (Rw mS.cells []) (.own (aa5 h0))) (h0++[.front 0 0])).bind (ah8 (aa5 h0))
theorem alZ (K:mA) (a0:lS) (h0:lT):p9 Tryz.prog nM nL K 12 [a0] h0=m12 (mW nM K) a0 h0:=by kernel_rfl
def t12 (p0:(List mS)):Option ((List mS)) :=
 tb (sG (B0 p0 ((aa5 p0:Nat):Int)) ([],0)) fun aA=>uW aA.1 none fun aB=>vA 0 aB (some aA.2.1) fun aC=>Ga aC (some [])
theorem b12 (p0:(List mS)):m12 KK (.slice (Rw mS.cells p0) .no) []=tm (t12 p0) fun r=>(.ret (.slice (Rw mS.cells r) .no),[]):=by
 simp [-l9,-lV,-lU,-lW,-lZ,-lY,-lX,m12,t12,aoO,ah8]
theorem r12 (p0:(List mS)) (h:lT):KK 12 [(.slice (Rw mS.cells p0) .no)] h=tm (t12 p0) fun r=>(.ret (.slice (Rw mS.cells r) .no),h):=oE rfl rfl (alZ ..) (b12 p0)
def ah9 (mm:Nat) (aB:R):Option (nT×lT) :=
 (fun aA aC=>Ex.oA aB.1 ((mF true 3 aC aA).bind fun aD=>nZ mm aD aC)) (gd aB.2.1 0) aB.2.2
def m13 (K:mA) (a0 a1:lS) (h0:lT):Option (nT×lT) :=
 (mC (nP 5 h0 a0) fun aB aC=>mC (nP 3 aC a1) fun aF aD=>mC (nP 3 aD (.agg [(.int .i64 0),(.int .i64 0),(.int .i64 0)])) fun t24 aA=>fa 3 aB fun t26=>ld false 1 aA t26 fun aG=>fa 4 aB fun t28=>ld false 1 aA t28 fun t29=>fa 2 aF fun t30=>ld false 1 aA t30 fun t31=>(mV [(.int .i64 0),(.int .i64 0),(.int .i64 0)] [(0,1),(1,1),(2,1)] [(0,aG),(1,t29),(2,t31)]).bind fun t32=>(mL 3 aA t24 t32).bind fun aE=>some (.ret,[t24],aE)).bind (ah9 (aa5 h0))
theorem amA (K:mA) (a0 a1:lS) (h0:lT):p9 Tryz.prog nM nL K 13 [a0,a1] h0=m13 (mW nM K) a0 a1 h0:=by kernel_rfl
def t13 (p0:IR) (p1:uV):Option (Sz) :=
 some (⟨p0.inn,p0.out,p1.size⟩:Sz)
theorem b13 (p0:IR) (p1:uV):m13 KK (.agg [(.int .i64 p0.temps),(.slice (Rw nH.cells p0.arrays) .no),(.slice (Rw mU.cells p0.blocks) .no),(.int .i64 p0.inn),(.int .i64 p0.out)]) (.agg [(.int .i64 p1.image),(.slice (Rw (ci .i64) p1.arrays) .no),(.int .i64 p1.size)]) []=tm (t13 p0 p1) fun r=>(.ret (.agg [(.int .i64 r.inn),(.int .i64 r.outt),(.int .i64 r.rail)]),[]):=by
 simp [-l9,-lV,-lU,-lW,-lZ,-lY,-lX,m13,t13,ah9]
theorem Ud (p0:IR) (p1:uV) (h:lT):KK 13 [(.agg [(.int .i64 p0.temps),(.slice (Rw nH.cells p0.arrays) .no),(.slice (Rw mU.cells p0.blocks) .no),(.int .i64 p0.inn),(.int .i64 p0.out)]),(.agg [(.int .i64 p1.image),(.slice (Rw (ci .i64) p1.arrays) .no),(.int .i64 p1.size)])] h=tm (t13 p0 p1) fun r=>(.ret (.agg [(.int .i64 r.inn),(.int .i64 r.outt),(.int .i64 r.rail)]),h):=oE rfl rfl (amA ..) (b13 p0 p1)
def aiA (mm:Nat) (aB:R):Option (nT×lT) :=
 (fun aA aC=>Ex.oA aB.1 (nZ mm aA aC)) (gd aB.2.1 0) aB.2.2
def m14 (K:mA) (a0:lS) (h0:lT):Option (nT×lT) :=
 (mC (nP 1 h0 a0) fun aB aA=>fa 0 aB fun aC=>ld false 1 aA aC fun t23=>bo .add t23 (.int .i64 1) fun t24=>some (.ret,[t24],aA)).bind (aiA (aa5 h0))
theorem amL (K:mA) (a0:lS) (h0:lT):p9 Tryz.prog nM nL K 14 [a0] h0=m14 (mW nM K) a0 h0:=by kernel_rfl
def t14 (p0:Lay):Option (Int) :=
 some (IntKind.wrap .i64 (p0.n+1))
theorem b14 (p0:Lay):m14 KK (.agg [(.int .i64 p0.n)]) []=tm (t14 p0) fun r=>(.ret (.int .i64 r),[]):=by
 simp [-l9,-lV,-lU,-lW,-lZ,-lY,-lX,m14,t14,aiA]
theorem Qo (p0:Lay) (h:lT):KK 14 [(.agg [(.int .i64 p0.n)])] h=tm (t14 p0) fun r=>(.ret (.int .i64 r),h):=oE rfl rfl (amL ..) (b14 p0)
theorem afE (x0_0:Int) (h:lT):KK 14 [(.agg [(.int .i64 x0_0)])] h=tm (t14 (⟨x0_0⟩:Lay)) fun r=>(.ret (.int .i64 r),h):=Qo (⟨x0_0⟩:Lay) h
def aiD (mm:Nat) (EW:R):Option (nT×lT) :=
 (fun aA aB=>Ex.oA EW.1 (nZ mm aA aB)) (gd EW.2.1 0) EW.2.2
def m26 (K:mA) (a0:lS) (h0:lT):Option (nT×lT) :=
 (mC (nP 1 h0 a0) fun aB aA=>fa 0 aB fun aC=>ld false 1 aA aC fun t23=>bo .mul (.int .i64 2) t23 fun t24=>bo .add t24 (.int .i64 2) fun aD=>some (.ret,[aD],aA)).bind (aiD (aa5 h0))
theorem anB (K:mA) (a0:lS) (h0:lT):p9 Tryz.prog nM nL K 26 [a0] h0=m26 (mW nM K) a0 h0:=by kernel_rfl
def t26 (p0:Lay):Option (Int) :=
 some (IntKind.wrap .i64 ((IntKind.wrap .i64 (2*p0.n))+2))
theorem b26 (p0:Lay):m26 KK (.agg [(.int .i64 p0.n)]) []=tm (t26 p0) fun r=>(.ret (.int .i64 r),[]):=by
 simp [-l9,-lV,-lU,-lW,-lZ,-lY,-lX,m26,t26,aiD]
theorem EW (p0:Lay) (h:lT):KK 26 [(.agg [(.int .i64 p0.n)])] h=tm (t26 p0) fun r=>(.ret (.int .i64 r),h):=oE rfl rfl (anB ..) (b26 p0)
theorem aBJ (x0_0:Int) (h:lT):KK 26 [(.agg [(.int .i64 x0_0)])] h=tm (t26 (⟨x0_0⟩:Lay)) fun r=>(.ret (.int .i64 r),h):=EW (⟨x0_0⟩:Lay) h
def aiE (mm:Nat) (aB:R):Option (nT×lT) :=
 (fun aA aC=>Ex.oA aB.1 (nZ mm aA aC)) (gd aB.2.1 0) aB.2.2
def m28 (K:mA) (a0:lS) (h0:lT):Option (nT×lT) :=
 (mC (nP 1 h0 a0) fun aC aA=>ld true 1 aA aC fun aD=>ca (K 26 [(lS.l_ aD)] aA) fun t23 aB=>bo .add t23 (.int .i64 4) fun t26=>some (.ret,[t26],aB)).bind (aiE (aa5 h0))
theorem anC (K:mA) (a0:lS) (h0:lT):p9 Tryz.prog nM nL K 28 [a0] h0=m28 (mW nM K) a0 h0:=by kernel_rfl
def t28 (p0:Lay):Option (Int) :=
 tb ((t26 p0)) fun aA=>some (IntKind.wrap .i64 (aA+4))
theorem b28 (p0:Lay):m28 KK (.agg [(.int .i64 p0.n)]) []=tm (t28 p0) fun r=>(.ret (.int .i64 r),[]):=by
 simp [-l9,-lV,-lU,-lW,-lZ,-lY,-lX,m28,t28,EW,aiE]
theorem Bd (p0:Lay) (h:lT):KK 28 [(.agg [(.int .i64 p0.n)])] h=tm (t28 p0) fun r=>(.ret (.int .i64 r),h):=oE rfl rfl (anC ..) (b28 p0)
theorem aBK (x0_0:Int) (h:lT):KK 28 [(.agg [(.int .i64 x0_0)])] h=tm (t28 (⟨x0_0⟩:Lay)) fun r=>(.ret (.int .i64 r),h):=Bd (⟨x0_0⟩:Lay) h
def My (mm:Nat) (Hf:R):Option (nT×lT) :=
 (fun aA aB=>Ex.oA Hf.1 (nZ mm aA aB)) (gd Hf.2.1 0) Hf.2.2
def Mz (K:mA) (t26:lS) (aA:lT) (a0:lS):Option R :=
 mH t26 (some (.ret,[(.int .i64 0)],aA)) (bo .mul (.int .i64 4) a0 fun t30=>bo .add (.int .i64 4) t30 fun t31=>some (.ret,[t31],aA))
def Er (aA:Bool) (p0:Int):Option (Int) :=
 tc aA (some 0) (some (IntKind.wrap .i64 (4+(IntKind.wrap .i64 (4*p0)))))
theorem aeX (w29:Bool) (p0:Int):((Mz KK (.bool w29) ([]:lT) (.int .i64 p0))).bind (My 0)=tm (Er w29 p0) fun r=>(.ret (.int .i64 r),[]):=by
 cases w29 <;> simp [-l9,-lV,-lU,-lW,-lZ,-lY,-lX,Mz,Er,My]
def al0 (K:mA) (a0:lS) (h0:lT):Option (nT×lT) :=
 (bo .lss a0 (.int .i64 0) fun aA=>gS false aA (mM a0 h0) h0 fun aD aB=>gS false aA (bo .gtr aD (.int .i64 16382) fun t23=>mM t23 aB) aB fun t24 aC=>(nA aA (.bool true) t24).bind fun t26=>Mz K t26 aC a0).bind (My (aa5 h0))
theorem adK (K:mA) (a0:lS) (h0:lT):p9 Tryz.prog nM nL K 130 [a0] h0=al0 (mW nM K) a0 h0:=by kernel_rfl
def t130 (p0:Int):Option (Int) :=
 tc (decide (p0<0)) (Er true p0) (Er (decide (16382<p0)) p0)
theorem az3 (p0:Int):al0 KK (.int .i64 p0) []=tm (t130 p0) fun r=>(.ret (.int .i64 r),[]):=by
 simp +contextual [-l9,-lV,-lU,-lW,-lZ,-lY,-lX,al0,t130,My,aeX]
theorem aeW (p0:Int) (h:lT):KK 130 [(.int .i64 p0)] h=tm (t130 p0) fun r=>(.ret (.int .i64 r),h):=oE rfl rfl (adK ..) (az3 p0)
def aiC (mm:Nat) (SA:R):Option (nT×lT) :=
 (fun aA aB aC=>Ex.oA SA.1 ((mF true 3 aC aA).bind fun aD=>nZ mm (.tuple [aD,aB]) aC)) (gd SA.2.1 0) (gd SA.2.1 1) SA.2.2
theorem akG (y0:Int) (h:lT):mD 1 1 [(.int .i64 0)] [(0,(.int .i64 y0))] h=some (.slice (Rw (ci .i64) [y0]) (.own h.length),h++[oR 1 1]):=by
 rfl
theorem akH (y0:Int) (h:lT):mD 1 1 [(.int .i64 0)] [(0,(.int .i64 y0))] h=some (.slice (Rw (ci .i64) [y0]) (.own h.length),h++[oR 1 1]):=by
 rfl
theorem akI (y0:Int) (h:lT):mD 1 1 [(.int .i64 0)] [(0,(.int .i64 y0))] h=some (.slice (Rw (ci .i64) [y0]) (.own h.length),h++[oR 1 1]):=by
 rfl
def Ro (K:mA) (m:Nat) (bF:lS) (aA:lS) (aI:lT) (bD:lS) (aF:lS) (aG:lS) (aE:lS) (aB:lS) (aC:lS) (aD:lS):Option R :=
 mH bF (fa 1 aA fun bG=>ld false 1 aI bG fun bH=>fa 0 aA fun bI=>ld false 1 aI bI fun bJ=>fa 3 bD fun bK=>ld false 1 aI bK fun bL=>bo .add bJ bL fun bM=>mC (mD 1 1 [(.int .i64 0)] [(0,bM)] aI) fun bN bE=>mC (nD 1 8 bE bH bN) fun aN aJ=>fa 1 aA fun aO=>(mL 1 aJ aO aN).bind fun aK=>mK m .normal [aF,aG,aA,aE,aB,aC,aD] aK) (fa 1 aA fun aP=>ld false 1 aI aP fun aQ=>mC (mD 1 1 [(.int .i64 0)] [(0,aE)] aI) fun aR aL=>mC (nD 1 8 aL aQ aR) fun aS aM=>fa 1 aA fun aT=>(mL 1 aM aT aS).bind fun aH=>fa 0 bD fun aU=>ld false 1 aH aU fun aV=>fa 1 bD fun aW=>ld false 1 aH aW fun aX=>bo .mul aV aX fun aY=>bo .add aY (.int .i64 4) fun aZ=>bo .sub aZ (.int .i64 1) fun a_=>bo .quo a_ (.int .i64 4) fun bB=>bo .mul bB (.int .i64 4) fun bC=>bo .add aE bC fun t124=>mK m .normal [aF,aG,aA,t124,aB,aC,aD] aH)
def NP (aI:Bool) (aF:Int) (aG:(List Int)) (aH:Int) (aD:nH) (aE:Int):Option (Int×uV) :=
 tc aI (tb ((pD 8 aG [(IntKind.wrap .i64 (aF+aD.off))])) fun aA=>some (aE,(⟨aF,aA,aH⟩:uV))) (tb ((pD 8 aG [aE])) fun aB=>tb ((N3 .i64 (IntKind.wrap .i64 ((IntKind.wrap .i64 ((IntKind.wrap .i64 (aD.elem*aD.len))+4))-1)) 4)) fun aC=>some ((IntKind.wrap .i64 (aE+(IntKind.wrap .i64 (aC*4)))),(⟨aF,aB,aH⟩:uV)))
theorem aoS (w90:Bool) (p0:IR) (w75:Int) (w76:(List Int)) (w77:Int) (u63:nH) (w71:Int) (w51:Int) (w72:Int):(Ro KK 6 (.bool w90) (.ptr 3 0) ([.cells [(.int .i64 p0.temps),(.slice (Rw nH.cells p0.arrays) .no),(.slice (Rw mU.cells p0.blocks) .no),(.int .i64 p0.inn),(.int .i64 p0.out)],.cells [(.int .i64 0),(.slice (Rw (ci .i64) []) (.own 2)),(.int .i64 0)],.front 0 0,.cells [(.int .i64 w75),(.slice (Rw (ci .i64) w76) (.own 4)),(.int .i64 w77)],oR 1 (aa5 w76),.cells [(.int .i64 u63.elem),(.int .i64 u63.len),(.int .i64 u63.kind),(.int .i64 u63.off)]]:lT) (.ptr 5 0) (.ptr 1 0) (.int .i64 0) (.int .i64 w71) (.slice (Rw nH.cells p0.arrays) .no) (.int .i64 w51) (.int .i64 w72))=tm (NP w90 w75 w76 w77 u63 w71) fun r=>(.normal,[(.ptr 1 0),(.int .i64 0),(.ptr 3 0),(.int .i64 r.1),(.slice (Rw nH.cells p0.arrays) .no),(.int .i64 w51),(.int .i64 w72)],([.cells [(.int .i64 p0.temps),(.slice (Rw nH.cells p0.arrays) .no),(.slice (Rw mU.cells p0.blocks) .no),(.int .i64 p0.inn),(.int .i64 p0.out)],.cells [(.int .i64 0),(.slice (Rw (ci .i64) []) (.own 2)),(.int .i64 0)],.front 0 0,.cells [(.int .i64 r.2.image),(.slice (Rw (ci .i64) r.2.arrays) (.own 4)),(.int .i64 r.2.size)],oR 1 (aa5 r.2.arrays),.cells [(.int .i64 u63.elem),(.int .i64 u63.len),(.int .i64 u63.kind),(.int .i64 u63.off)]]:lT)):=by
 cases w90 <;> simp [-l9,-lV,-lU,-lW,-lZ,-lY,-lX,Ro,NP,akH,akI]
def Rn (K:mA) (m:Nat) (t70:lS) (aA:lS) (aO:lT) (aQ:lS) (aH:lS) (aI:lS) (aJ:lS) (aB:lS) (aC:lS) (aD:lS) (aU:lS):Option R :=
 mH t70 (fa 1 aA fun aV=>ld false 1 aO aV fun aW=>fa 3 aQ fun aX=>ld false 1 aO aX fun aY=>mC (mD 1 1 [(.int .i64 0)] [(0,aY)] aO) fun aZ aR=>mC (nD 1 8 aR aW aZ) fun a_ aS=>fa 1 aA fun bB=>(mL 1 aS bB a_).bind fun aT=>mK m .normal [aH,aI,aA,aJ,aB,aC,aD] aT) (bo .eql aU (.int .i64 2) fun bC=>(Ro K (aa5 aO) bC aA aO aQ aH aI aJ aB aC aD).bind fun Dq=>(fun aK aL aM aN aE aF aG aP=>Ex.rQ Dq.1 (mK m .normal [aK,aL,aM,aN,aE,aF,aG] aP)) (gd Dq.2.1 0) (gd Dq.2.1 1) (gd Dq.2.1 2) (gd Dq.2.1 3) (gd Dq.2.1 4) (gd Dq.2.1 5) (gd Dq.2.1 6) Dq.2.2)
def FJ (aG:Bool) (aC:Int) (aD:(List Int)) (aE:Int) (aA:nH) (aB:Int):Option (Int×uV) :=
 tc aG (tb ((pD 8 aD [aA.off])) fun aF=>some (aB,(⟨aC,aF,aE⟩:uV))) (tb (NP (decide (aA.kind=2)) aC aD aE aA aB) fun Dq=>some (Dq.1,Dq.2))
theorem aoR (w74:Bool) (p0:IR) (w75:Int) (w76:(List Int)) (w77:Int) (u63:nH) (w71:Int) (w51:Int) (w72:Int):(Rn KK 6 (.bool w74) (.ptr 3 0) ([.cells [(.int .i64 p0.temps),(.slice (Rw nH.cells p0.arrays) .no),(.slice (Rw mU.cells p0.blocks) .no),(.int .i64 p0.inn),(.int .i64 p0.out)],.cells [(.int .i64 0),(.slice (Rw (ci .i64) []) (.own 2)),(.int .i64 0)],.front 0 0,.cells [(.int .i64 w75),(.slice (Rw (ci .i64) w76) (.own 4)),(.int .i64 w77)],oR 1 (aa5 w76),.cells [(.int .i64 u63.elem),(.int .i64 u63.len),(.int .i64 u63.kind),(.int .i64 u63.off)]]:lT) (.ptr 5 0) (.ptr 1 0) (.int .i64 0) (.int .i64 w71) (.slice (Rw nH.cells p0.arrays) .no) (.int .i64 w51) (.int .i64 w72) (.int .i64 u63.kind))=tm (FJ w74 w75 w76 w77 u63 w71) fun r=>(.normal,[(.ptr 1 0),(.int .i64 0),(.ptr 3 0),(.int .i64 r.1),(.slice (Rw nH.cells p0.arrays) .no),(.int .i64 w51),(.int .i64 w72)],([.cells [(.int .i64 p0.temps),(.slice (Rw nH.cells p0.arrays) .no),(.slice (Rw mU.cells p0.blocks) .no),(.int .i64 p0.inn),(.int .i64 p0.out)],.cells [(.int .i64 0),(.slice (Rw (ci .i64) []) (.own 2)),(.int .i64 0)],.front 0 0,.cells [(.int .i64 r.2.image),(.slice (Rw (ci .i64) r.2.arrays) (.own 4)),(.int .i64 r.2.size)],oR 1 (aa5 r.2.arrays),.cells [(.int .i64 u63.elem),(.int .i64 u63.len),(.int .i64 u63.kind),(.int .i64 u63.off)]]:lT)):=by
 cases w74 <;> simp [-l9,-lV,-lU,-lW,-lZ,-lY,-lX,Rn,FJ,akG,aoS]
def M7 (K:mA) (m:Nat) (s:List lS×lT):Option R :=
 (fun aG aH aI aJ aB aC aA aP=>bo .lss aA aC fun aU=>mH aU (ix 4 aB aA fun aV=>ld true 4 aP aV fun aW=>mC (nP 4 aP (.agg [(.int .i64 0),(.int .i64 0),(.int .i64 0),(.int .i64 0)])) fun aR aT=>(mL 4 aT aR aW).bind fun aQ=>fa 2 aR fun aX=>ld false 1 aQ aX fun aS=>bo .eql aS (.int .i64 1) fun t70=>(Rn K (aa5 aQ) t70 aI aQ aR aG aH aJ aB aC aA aS).bind fun wD=>(fun aK aL aM aN aD aE aF aO=>Ex.rQ wD.1 (bo .add aF (.int .i64 1) fun t143=>mK m .normal [aK,aL,aM,aN,aD,aE,t143] aO)) (gd wD.2.1 0) (gd wD.2.1 1) (gd wD.2.1 2) (gd wD.2.1 3) (gd wD.2.1 4) (gd wD.2.1 5) (gd wD.2.1 6) wD.2.2) (mK m (.exit 0) [aG,aH,aI,aJ,aB,aC,aA] aP)) (gd s.1 0) (gd s.1 1) (gd s.1 2) (gd s.1 3) (gd s.1 4) (gd s.1 5) (gd s.1 6) s.2
def Dx (p0:IR) (aC:Int) (aA:Int×Int×uV):Option (Ey×Int×Int×uV) :=
 tc (decide (aA.2.1<aC)) (tb ((o8 p0.arrays aA.2.1)) fun aB=>tb (FJ (decide (aB.kind=1)) aA.2.2.image aA.2.2.arrays aA.2.2.size aB aA.1) fun wD=>some (.n,(wD.1,(IntKind.wrap .i64 (aA.2.1+1)),wD.2))) (some ((.x 0),(aA.1,aA.2.1,aA.2.2)))
theorem aj3 (p0:IR) (w51:Int) (s52:Int×Int×uV):M7 KK 5 ([(.ptr 1 0),(.int .i64 0),(.ptr 3 0),(.int .i64 s52.1),(.slice (Rw nH.cells p0.arrays) .no),(.int .i64 w51),(.int .i64 s52.2.1)],([.cells [(.int .i64 p0.temps),(.slice (Rw nH.cells p0.arrays) .no),(.slice (Rw mU.cells p0.blocks) .no),(.int .i64 p0.inn),(.int .i64 p0.out)],.cells [(.int .i64 0),(.slice (Rw (ci .i64) []) (.own 2)),(.int .i64 0)],.front 0 0,.cells [(.int .i64 s52.2.2.image),(.slice (Rw (ci .i64) s52.2.2.arrays) (.own 4)),(.int .i64 s52.2.2.size)],oR 1 (aa5 s52.2.2.arrays)]:lT))=tm (Dx p0 w51 s52) fun r=>(r.1.ex,[(.ptr 1 0),(.int .i64 0),(.ptr 3 0),(.int .i64 r.2.1),(.slice (Rw nH.cells p0.arrays) .no),(.int .i64 w51),(.int .i64 r.2.2.1)],([.cells [(.int .i64 p0.temps),(.slice (Rw nH.cells p0.arrays) .no),(.slice (Rw mU.cells p0.blocks) .no),(.int .i64 p0.inn),(.int .i64 p0.out)],.cells [(.int .i64 0),(.slice (Rw (ci .i64) []) (.own 2)),(.int .i64 0)],.front 0 0,.cells [(.int .i64 r.2.2.2.image),(.slice (Rw (ci .i64) r.2.2.2.arrays) (.own 4)),(.int .i64 r.2.2.2.size)],oR 1 (aa5 r.2.2.2.arrays)]:lT)):=by
 simp [-l9,-lV,-lU,-lW,-lZ,-lY,-lX,M7,Dx,aoR]
theorem aoT (p0:IR) (w51:Int) (w50:Int) (i1:Int) (i4:Int):nL (M7 KK 5) ([(.ptr 1 0),(.int .i64 0),(.ptr 3 0),(.int .i64 i1),(.slice (Rw nH.cells p0.arrays) .no),(.int .i64 w51),(.int .i64 i4)],([.cells [(.int .i64 p0.temps),(.slice (Rw nH.cells p0.arrays) .no),(.slice (Rw mU.cells p0.blocks) .no),(.int .i64 p0.inn),(.int .i64 p0.out)],.cells [(.int .i64 0),(.slice (Rw (ci .i64) []) (.own 2)),(.int .i64 0)],.front 0 0,.cells [(.int .i64 w50),(.slice (Rw (ci .i64) []) (.own 4)),(.int .i64 0)],.front 0 0]:lT))=tm (sG (Dx p0 w51) (i1,i4,(⟨w50,[],0⟩:uV))) fun r=>(r.1.ex,[(.ptr 1 0),(.int .i64 0),(.ptr 3 0),(.int .i64 r.2.1),(.slice (Rw nH.cells p0.arrays) .no),(.int .i64 w51),(.int .i64 r.2.2.1)],([.cells [(.int .i64 p0.temps),(.slice (Rw nH.cells p0.arrays) .no),(.slice (Rw mU.cells p0.blocks) .no),(.int .i64 p0.inn),(.int .i64 p0.out)],.cells [(.int .i64 0),(.slice (Rw (ci .i64) []) (.own 2)),(.int .i64 0)],.front 0 0,.cells [(.int .i64 r.2.2.2.image),(.slice (Rw (ci .i64) r.2.2.2.arrays) (.own 4)),(.int .i64 r.2.2.2.size)],oR 1 (aa5 r.2.2.2.arrays)]:lT)):=by
 exact s7 (enc:=fun s52=>([(.ptr 1 0),(.int .i64 0),(.ptr 3 0),(.int .i64 s52.1),(.slice (Rw nH.cells p0.arrays) .no),(.int .i64 w51),(.int .i64 s52.2.1)],([.cells [(.int .i64 p0.temps),(.slice (Rw nH.cells p0.arrays) .no),(.slice (Rw mU.cells p0.blocks) .no),(.int .i64 p0.inn),(.int .i64 p0.out)],.cells [(.int .i64 0),(.slice (Rw (ci .i64) []) (.own 2)),(.int .i64 0)],.front 0 0,.cells [(.int .i64 s52.2.2.image),(.slice (Rw (ci .i64) s52.2.2.arrays) (.own 4)),(.int .i64 s52.2.2.size)],oR 1 (aa5 s52.2.2.arrays)]:lT))) (fun s52=>aj3 p0 w51 s52) (i1,i4,(⟨w50,[],0⟩:uV))
def m23 (K:mA) (a0:lS) (h0:lT):Option (nT×lT) :=
 (mC (nP 5 h0 a0) fun aH aV=>mC (nP 3 aV (.agg [(.int .i64 0),(.slice (Rw (ci .i64) []) .nil),(.int .i64 0)])) fun aR aS=>ld true 5 aS aH fun t24=>ca (K 9 [(lS.l_ t24)] aS) fun aT aP=>bo .neq aT (.int .i64 0) fun t28=>mH t28 ((mV [(.int .i64 0),(.slice (Rw (ci .i64) []) .nil),(.int .i64 0)] [(0,1),(1,1),(2,1)] []).bind fun t29=>(mL 3 aP aR t29).bind fun aW=>some (.ret,[aR,aT],aW)) (fa 0 aH fun t31=>ld false 1 aP t31 fun t32=>bo .mul (.int .i64 4) t32 fun aY=>bo .add (.int .i64 4) aY fun aZ=>(mV [(.int .i64 0),(.slice (Rw (ci .i64) []) .nil),(.int .i64 0)] [(0,1),(1,1),(2,1)] [(0,aZ)]).bind fun a_=>mC (nP 3 aP (.agg [(.int .i64 0),(.slice (Rw (ci .i64) []) .nil),(.int .i64 0)])) fun t36 aX=>(mL 3 aX t36 a_).bind fun aG=>fa 0 t36 fun bB=>ld false 1 aG bB fun bC=>fa 4 aH fun bD=>ld false 1 aG bD fun bE=>bo .add bC bE fun bF=>fa 1 aH fun bG=>ld false 1 aG bG fun aU=>ln aU fun bH=>(nL (M7 K (aa5 aG)) ([aR,(.int .i64 0),t36,bF,aU,bH,(.int .i64 0)],aG)).bind fun BO=>(fun aA aD aB aE aI aJ aK aF=>Ex.nC BO.1 none (fun aL=>Ex.inBlock 0 aL (fa 2 aB fun t155=>(mL 1 aF t155 aE).bind fun aC=>fa 2 aB fun t157=>ld false 1 aC t157 fun aQ=>bo .gtr aQ (.int .i64 65536) fun t159=>mH t159 ((mV [(.int .i64 0),(.slice (Rw (ci .i64) []) .nil),(.int .i64 0)] [(0,1),(1,1),(2,1)] []).bind fun t160=>(mL 3 aC aA t160).bind fun aN=>some (.ret,[aA,(.int .i64 18)],aN)) (ld true 3 aC aB fun t162=>(mL 3 aC aA t162).bind fun aO=>some (.ret,[aA,(.int .i64 0)],aO))) (fun aM=>some (aM,[aA,aD],aF)))) (gd BO.2.1 0) (gd BO.2.1 1) (gd BO.2.1 2) (gd BO.2.1 3) (gd BO.2.1 4) (gd BO.2.1 5) (gd BO.2.1 6) BO.2.2)).bind (aiC (aa5 h0))
theorem am9 (K:mA) (a0:lS) (h0:lT):p9 Tryz.prog nM nL K 23 [a0] h0=m23 (mW nM K) a0 h0:=by kernel_rfl
def t23 (p0:IR):Option (uV×Int) :=
 tb ((t9 p0)) fun aC=>tc (!decide (aC=0)) (some ((⟨0,[],0⟩:uV),aC)) (tb (sG (Dx p0 ((aa5 p0.arrays:Nat):Int)) ((IntKind.wrap .i64 ((IntKind.wrap .i64 (4+(IntKind.wrap .i64 (4*p0.temps))))+p0.out)),0,(⟨(IntKind.wrap .i64 (4+(IntKind.wrap .i64 (4*p0.temps)))),[],0⟩:uV))) fun BO=>uW BO.1 none fun aA=>vA 0 aA (tc (decide (65536<BO.2.1)) (some ((⟨0,[],0⟩:uV),18)) (some ((⟨BO.2.2.2.image,BO.2.2.2.arrays,BO.2.1⟩:uV),0))) fun aB=>Ga aB (some ((⟨0,[],0⟩:uV),0)))
theorem b23 (p0:IR):m23 KK (.agg [(.int .i64 p0.temps),(.slice (Rw nH.cells p0.arrays) .no),(.slice (Rw mU.cells p0.blocks) .no),(.int .i64 p0.inn),(.int .i64 p0.out)]) []=tm (t23 p0) fun r=>(.ret (.tuple [(.agg [(.int .i64 r.1.image),(.slice (Rw (ci .i64) r.1.arrays) .no),(.int .i64 r.1.size)]),(.int .i64 r.2)]),[]):=by
 simp [-l9,-lV,-lU,-lW,-lZ,-lY,-lX,m23,t23,r9,aoT,aiC]
theorem Ui (p0:IR) (h:lT):KK 23 [(.agg [(.int .i64 p0.temps),(.slice (Rw nH.cells p0.arrays) .no),(.slice (Rw mU.cells p0.blocks) .no),(.int .i64 p0.inn),(.int .i64 p0.out)])] h=tm (t23 p0) fun r=>(.ret (.tuple [(.agg [(.int .i64 r.1.image),(.slice (Rw (ci .i64) r.1.arrays) .no),(.int .i64 r.1.size)]),(.int .i64 r.2)]),h):=oE rfl rfl (am9 ..) (b23 p0)
def XL (mm:Nat) (aB:R):Option (nT×lT) :=
 (fun aA aC=>Ex.oA aB.1 (nZ mm aA aC)) (gd aB.2.1 0) aB.2.2
def al5 (K:mA) (a0:lS) (h0:lT):Option (nT×lT) :=
 (bo .eql a0 (.int .i64 0) fun aA=>mH aA (some (.ret,[(.int .i64 537133056)],h0)) (bo .eql a0 (.int .i64 1) fun aB=>mH aB (some (.ret,[(.int .i64 537395200)],h0)) (some (.ret,[(.int .i64 0)],h0)))).bind (XL (aa5 h0))
theorem adP (K:mA) (a0:lS) (h0:lT):p9 Tryz.prog nM nL K 135 [a0] h0=al5 (mW nM K) a0 h0:=by kernel_rfl
def t135 (p0:Int):Option (Int) :=
 tc (decide (p0=0)) (some 537133056) (tc (decide (p0=1)) (some 537395200) (some 0))
theorem az8 (p0:Int):al5 KK (.int .i64 p0) []=tm (t135 p0) fun r=>(.ret (.int .i64 r),[]):=by
 simp [-l9,-lV,-lU,-lW,-lZ,-lY,-lX,al5,t135,XL]
theorem Dr (p0:Int) (h:lT):KK 135 [(.int .i64 p0)] h=tm (t135 p0) fun r=>(.ret (.int .i64 r),h):=oE rfl rfl (adP ..) (az8 p0)
def T4 (mm:Nat) (aB:R):Option (nT×lT) :=
 (fun aA aC=>Ex.oA aB.1 (De mm aA aC)) (gd aB.2.1 0) aB.2.2
theorem WT (y0:Int) (y1:Int) (y2:Int) (y3:Int) (y4:Int) (y5:Int) (y6:Int) (y7:Bool) (y8:Int) (y9:Int) (y10:Int) (y11:Int) (y12:Int) (y13:Int) (y14:Int) (y15:Bool) (h:lT):mD 2 8 [(.int .i64 0),(.int .i64 0),(.int .i64 0),(.int .i64 0),(.int .i64 0),(.int .i64 0),(.int .i64 0),(.bool false)] [(0,(.agg [(.int .i64 y0),(.int .i64 y1),(.int .i64 y2),(.int .i64 y3),(.int .i64 y4),(.int .i64 y5),(.int .i64 y6),(.bool y7)])),(1,(.agg [(.int .i64 y8),(.int .i64 y9),(.int .i64 y10),(.int .i64 y11),(.int .i64 y12),(.int .i64 y13),(.int .i64 y14),(.bool y15)]))] h=some (.slice (Rw Ins.cells [(⟨y0,y1,y2,y3,y4,y5,y6,y7⟩:Ins),(⟨y8,y9,y10,y11,y12,y13,y14,y15⟩:Ins)]) (.own h.length),h++[oR 8 2]):=by
 rfl
def Sb (K:mA) (t28:lS) (aA:lT) (a1:lS) (a0:lS):Option R :=
 mH t28 ((fun(aD:lS) (aB:lT)=>some (.ret,[aD],aB)) (.slice (Rw Ins.cells []) (.own (aa5 aA))) (aA++[.front 0 0])) (bo .and a1 (.int .i64 65535) fun aE=>(mV [(.int .i64 0),(.int .i64 0),(.int .i64 0),(.int .i64 0),(.int .i64 0),(.int .i64 0),(.int .i64 0),(.bool false)] [(0,1),(1,1),(2,1),(3,1),(4,1),(5,1),(6,1),(7,1)] [(0,(.int .i64 3)),(1,a0),(5,aE)]).bind fun aF=>bo .shr a1 (.int .u64 16) fun t36=>bo .and t36 (.int .i64 65535) fun aG=>(mV [(.int .i64 0),(.int .i64 0),(.int .i64 0),(.int .i64 0),(.int .i64 0),(.int .i64 0),(.int .i64 0),(.bool false)] [(0,1),(1,1),(2,1),(3,1),(4,1),(5,1),(6,1),(7,1)] [(0,(.int .i64 4)),(1,a0),(5,aG)]).bind fun aH=>mC (mD 2 8 [(.int .i64 0),(.int .i64 0),(.int .i64 0),(.int .i64 0),(.int .i64 0),(.int .i64 0),(.int .i64 0),(.bool false)] [(0,aF),(1,aH)] aA) fun aI aC=>some (.ret,[aI],aC))
def JC (aB:Bool) (p1:Int) (p0:Int):Option ((List Ins)) :=
 tc aB (some []) (tb ((Tb .i64 p1 16)) fun aA=>some [(⟨3,p0,0,0,0,(GS .i64 p1 65535),0,false⟩:Ins),(⟨4,p0,0,0,0,(GS .i64 aA 65535),0,false⟩:Ins)])
theorem ao9 (w31:Bool) (p1:Int) (p0:Int):((Sb KK (.bool w31) ([.front 0 0]:lT) (.int .i64 p1) (.int .i64 p0))).bind (T4 0)=tm (JC w31 p1 p0) fun r=>(.ret (.slice (Rw Ins.cells r) (.own 0)),[oR 8 (aa5 r)]):=by
 cases w31 <;> simp [-l9,-lV,-lU,-lW,-lZ,-lY,-lX,Sb,JC,WT,T4]
def m60 (K:mA) (a0 a1:lS) (h0:lT):Option (nT×lT) :=
 ((fun(aF:lS) (aB:lT)=>bo .lss a0 (.int .i64 0) fun aA=>gS false aA (mM a0 aB) aB fun t23 aC=>gS false aA (bo .gtr t23 (.int .i64 7) fun aE=>mM aE aC) aC fun t26 aD=>(nA aA (.bool true) t26).bind fun t28=>Sb K t28 aD a1 a0) (.slice (Rw Ins.cells []) (.own (aa5 h0))) (h0++[.front 0 0])).bind (T4 (aa5 h0))
theorem anX (K:mA) (a0 a1:lS) (h0:lT):p9 Tryz.prog nM nL K 60 [a0,a1] h0=m60 (mW nM K) a0 a1 h0:=by kernel_rfl
def t60 (p0:Int) (p1:Int):Option ((List Ins)) :=
 tc (decide (p0<0)) (JC true p1 p0) (JC (decide (7<p0)) p1 p0)
theorem b60 (p0:Int) (p1:Int):m60 KK (.int .i64 p0) (.int .i64 p1) []=tm (t60 p0 p1) fun r=>(.ret (.slice (Rw Ins.cells r) (.own 0)),[oR 8 (aa5 r)]):=by
 simp +contextual [-l9,-lV,-lU,-lW,-lZ,-lY,-lX,m60,t60,WT,T4,ao9]
theorem DE (p0:Int) (p1:Int) (h:lT):KK 60 [(.int .i64 p0),(.int .i64 p1)] h=tm (t60 p0 p1) fun r=>(.ret (.slice (Rw Ins.cells r) (.own (aa5 h))),h++[oR 8 (aa5 r)]):=w9 rfl rfl (anX ..) (b60 p0 p1) fun r=>q7
def zH (mm:Nat) (aB:R):Option (nT×lT) :=
 (fun aA aC=>Ex.oA aB.1 (nZ mm aA aC)) (gd aB.2.1 0) aB.2.2
def MF (K:mA) (aB:lS) (aA:lT):Option R :=
 some (.ret,[aB],aA)
def Ez (aA:Bool):Option (Bool) :=
 some aA
theorem Hc (w66:Bool):((MF KK (.bool w66) ([]:lT))).bind (zH 0)=tm (Ez w66) fun r=>(.ret (.bool r),[]):=by
 cases w66 <;> simp [-l9,-lV,-lU,-lW,-lZ,-lY,-lX,MF,Ez,zH]
def MD (K:mA) (aA:lS) (a2:lS) (aB:lT):Option R :=
 gS true aA (mM a2 aB) aB fun aE aC=>gS true aA (bo .leq aE (.int .i64 7) fun t60=>mM t60 aC) aC fun aF aD=>(nA aA aF (.bool false)).bind fun aG=>MF K aG aD
def Ew (aA:Bool) (p2:Int):Option (Bool) :=
 tc aA (Ez (decide (p2≤7))) (Ez false)
theorem Nv (w57:Bool) (p2:Int):((MD KK (.bool w57) (.int .i64 p2) ([]:lT))).bind (zH 0)=tm (Ew w57 p2) fun r=>(.ret (.bool r),[]):=by
 cases w57 <;> simp [-l9,-lV,-lU,-lW,-lZ,-lY,-lX,MD,Ew,zH,Hc]
def MC (K:mA) (aA:lS) (a2:lS) (aB:lT):Option R :=
 gS true aA (mM a2 aB) aB fun aE aC=>gS true aA (bo .geq aE (.int .i64 0) fun aF=>mM aF aC) aC fun aG aD=>(nA aA aG (.bool false)).bind fun aH=>MD K aH a2 aD
def Cv (aA:Bool) (p2:Int):Option (Bool) :=
 tc aA (Ew (decide (0≤p2)) p2) (Ew false p2)
theorem Ue (w48:Bool) (p2:Int):((MC KK (.bool w48) (.int .i64 p2) ([]:lT))).bind (zH 0)=tm (Cv w48 p2) fun r=>(.ret (.bool r),[]):=by
 cases w48 <;> simp [-l9,-lV,-lU,-lW,-lZ,-lY,-lX,MC,Cv,zH,Hc,Nv]
def MB (K:mA) (t26:lS) (a1:lS) (aB:lT) (a2:lS):Option R :=
 gS true t26 (mM a1 aB) aB fun t30 aC=>gS true t26 (bo .eql t30 (.int .i64 0) fun t32=>mM t32 aC) aC fun aI aD=>gS true t26 (mM aI aD) aD fun aA aE=>gS false aA (mM a1 aE) aE fun aJ aF=>gS false aA (bo .eql aJ (.int .i64 1) fun aK=>mM aK aF) aF fun aL aG=>gS true t26 ((nA aA (.bool true) aL).bind fun aM=>mM aM aG) aG fun aN aH=>(nA t26 aN (.bool false)).bind fun aO=>MC K aO a2 aH
def Eu (aA:Bool) (p1:Int) (p2:Int):Option (Bool) :=
 tc aA (tc (decide (p1=0)) (Cv true p2) (Cv (decide (p1=1)) p2)) (Cv false p2)
theorem ae1 (w29:Bool) (p1:Int) (p2:Int):((MB KK (.bool w29) (.int .i64 p1) ([]:lT) (.int .i64 p2))).bind (zH 0)=tm (Eu w29 p1 p2) fun r=>(.ret (.bool r),[]):=by
 cases w29 <;> simp +contextual [-l9,-lV,-lU,-lW,-lZ,-lY,-lX,MB,Eu,zH,Hc,Nv,Ue]
def al4 (K:mA) (a0 a1 a2:lS) (h0:lT):Option (nT×lT) :=
 (bo .geq a0 (.int .i64 0) fun aA=>gS true aA (mM a0 h0) h0 fun aD aB=>gS true aA (bo .leq aD (.int .i64 65535) fun t23=>mM t23 aB) aB fun t24 aC=>(nA aA t24 (.bool false)).bind fun t26=>MB K t26 a1 aC a2).bind (zH (aa5 h0))
theorem adO (K:mA) (a0 a1 a2:lS) (h0:lT):p9 Tryz.prog nM nL K 134 [a0,a1,a2] h0=al4 (mW nM K) a0 a1 a2 h0:=by kernel_rfl
def t134 (p0:Int) (p1:Int) (p2:Int):Option (Bool) :=
 tc (decide (0≤p0)) (Eu (decide (p0≤65535)) p1 p2) (Eu false p1 p2)
theorem az7 (p0:Int) (p1:Int) (p2:Int):al4 KK (.int .i64 p0) (.int .i64 p1) (.int .i64 p2) []=tm (t134 p0 p1 p2) fun r=>(.ret (.bool r),[]):=by
 simp +contextual [-l9,-lV,-lU,-lW,-lZ,-lY,-lX,al4,t134,zH,Hc,Nv,Ue,ae1]
theorem wD (p0:Int) (p1:Int) (p2:Int) (h:lT):KK 134 [(.int .i64 p0),(.int .i64 p1),(.int .i64 p2)] h=tm (t134 p0 p1 p2) fun r=>(.ret (.bool r),h):=oE rfl rfl (adO ..) (az7 p0 p1 p2)
def XG (mm:Nat) (aB:R):Option (nT×lT) :=
 (fun aA aC=>Ex.oA aB.1 (De mm aA aC)) (gd aB.2.1 0) aB.2.2
theorem abP (y0:Int) (y1:Int) (y2:Int) (y3:Int) (y4:Int) (y5:Int) (y6:Int) (y7:Bool) (h:lT):mD 1 8 [(.int .i64 0),(.int .i64 0),(.int .i64 0),(.int .i64 0),(.int .i64 0),(.int .i64 0),(.int .i64 0),(.bool false)] [(0,(.agg [(.int .i64 y0),(.int .i64 y1),(.int .i64 y2),(.int .i64 y3),(.int .i64 y4),(.int .i64 y5),(.int .i64 y6),(.bool y7)]))] h=some (.slice (Rw Ins.cells [(⟨y0,y1,y2,y3,y4,y5,y6,y7⟩:Ins)]) (.own h.length),h++[oR 8 1]):=by
 rfl
def alY (K:mA) (a0 a1 a2:lS) (h0:lT):Option (nT×lT) :=
 ((fun(aM:lS) (aB:lT)=>ca (K 134 [(lS.l_ a0),(lS.l_ a1),(lS.l_ a2)] aB) fun aH aA=>(yD .not aH).bind fun aI=>mH aI ((fun(aJ:lS) (aC:lT)=>some (.ret,[aJ],aC)) (.slice (Rw Ins.cells []) (.own (aa5 aA))) (aA++[.front 0 0])) (ca (K 135 [(lS.l_ a1)] aA) fun t28 aD=>bo .add t28 a0 fun t31=>ca (K 60 [(lS.l_ (.int .i64 7)),(lS.l_ t31)] aD) fun t32 aE=>(mV [(.int .i64 0),(.int .i64 0),(.int .i64 0),(.int .i64 0),(.int .i64 0),(.int .i64 0),(.int .i64 0),(.bool false)] [(0,1),(1,1),(2,1),(3,1),(4,1),(5,1),(6,1),(7,1)] [(0,(.int .i64 19)),(1,a2),(2,(.int .i64 7))]).bind fun aK=>mC (mD 1 8 [(.int .i64 0),(.int .i64 0),(.int .i64 0),(.int .i64 0),(.int .i64 0),(.int .i64 0),(.int .i64 0),(.bool false)] [(0,aK)] aE) fun t36 aF=>mC (nD 8 64 aF t32 t36) fun aL aG=>some (.ret,[aL],aG))) (.slice (Rw Ins.cells []) (.own (aa5 h0))) (h0++[.front 0 0])).bind (XG (aa5 h0))
theorem adJ (K:mA) (a0 a1 a2:lS) (h0:lT):p9 Tryz.prog nM nL K 129 [a0,a1,a2] h0=alY (mW nM K) a0 a1 a2 h0:=by kernel_rfl
def t129 (p0:Int) (p1:Int) (p2:Int):Option ((List Ins)) :=
 tb ((t134 p0 p1 p2)) fun yE=>tc (!yE) (some []) (tb ((t135 p1)) fun AM=>tb ((t60 7 (IntKind.wrap .i64 (AM+p0)))) fun aB=>tb ((pD 64 aB [(⟨19,p2,7,0,0,0,0,false⟩:Ins)])) fun aA=>some aA)
theorem az2 (p0:Int) (p1:Int) (p2:Int):alY KK (.int .i64 p0) (.int .i64 p1) (.int .i64 p2) []=tm (t129 p0 p1 p2) fun r=>(.ret (.slice (Rw Ins.cells r) (.own 0)),[oR 8 (aa5 r)]):=by
 simp [-l9,-lV,-lU,-lW,-lZ,-lY,-lX,alY,t129,wD,Dr,DE,abP,XG]
theorem VA (p0:Int) (p1:Int) (p2:Int) (h:lT):KK 129 [(.int .i64 p0),(.int .i64 p1),(.int .i64 p2)] h=tm (t129 p0 p1 p2) fun r=>(.ret (.slice (Rw Ins.cells r) (.own (aa5 h))),h++[oR 8 (aa5 r)]):=w9 rfl rfl (adJ ..) (az2 p0 p1 p2) fun r=>q7
def XO (mm:Nat) (aB:R):Option (nT×lT) :=
 (fun aA aC=>Ex.oA aB.1 (nZ mm aA aC)) (gd aB.2.1 0) aB.2.2
theorem ab1 (y0:Int) (y1:Int) (y2:Int) (y3:Int) (y4:Int) (y5:Int) (y6:Int) (y7:Bool) (h:lT):mD 1 8 [(.int .i64 0),(.int .i64 0),(.int .i64 0),(.int .i64 0),(.int .i64 0),(.int .i64 0),(.int .i64 0),(.bool false)] [(0,(.agg [(.int .i64 y0),(.int .i64 y1),(.int .i64 y2),(.int .i64 y3),(.int .i64 y4),(.int .i64 y5),(.int .i64 y6),(.bool y7)]))] h=some (.slice (Rw Ins.cells [(⟨y0,y1,y2,y3,y4,y5,y6,y7⟩:Ins)]) (.own h.length),h++[oR 8 1]):=by
 rfl
def al9 (K:mA) (a0 a1 a2:lS) (h0:lT):Option (nT×lT) :=
 ((fun(aM:lS) (aB:lT)=>ca (K 134 [(lS.l_ a0),(lS.l_ a1),(lS.l_ a2)] aB) fun aH aA=>(yD .not aH).bind fun aI=>mH aI ((fun(aJ:lS) (aC:lT)=>some (.ret,[aJ],aC)) (.slice (Rw Ins.cells []) (.own (aa5 aA))) (aA++[.front 0 0])) (ca (K 135 [(lS.l_ a1)] aA) fun t28 aD=>bo .add t28 a0 fun t31=>ca (K 60 [(lS.l_ (.int .i64 7)),(lS.l_ t31)] aD) fun t32 aE=>(mV [(.int .i64 0),(.int .i64 0),(.int .i64 0),(.int .i64 0),(.int .i64 0),(.int .i64 0),(.int .i64 0),(.bool false)] [(0,1),(1,1),(2,1),(3,1),(4,1),(5,1),(6,1),(7,1)] [(0,(.int .i64 20)),(1,a2),(2,(.int .i64 7))]).bind fun aK=>mC (mD 1 8 [(.int .i64 0),(.int .i64 0),(.int .i64 0),(.int .i64 0),(.int .i64 0),(.int .i64 0),(.int .i64 0),(.bool false)] [(0,aK)] aE) fun t36 aF=>mC (nD 8 64 aF t32 t36) fun aL aG=>some (.ret,[aL],aG))) (.slice (Rw Ins.cells []) (.own (aa5 h0))) (h0++[.front 0 0])).bind (XO (aa5 h0))
theorem adT (K:mA) (a0 a1 a2:lS) (h0:lT):p9 Tryz.prog nM nL K 139 [a0,a1,a2] h0=al9 (mW nM K) a0 a1 a2 h0:=by kernel_rfl
def t139 (p0:Int) (p1:Int) (p2:Int):Option ((List Ins)) :=
 tb ((t134 p0 p1 p2)) fun yE=>tc (!yE) (some []) (tb ((t135 p1)) fun AM=>tb ((t60 7 (IntKind.wrap .i64 (AM+p0)))) fun aB=>tb ((pD 64 aB [(⟨20,p2,7,0,0,0,0,false⟩:Ins)])) fun aA=>some aA)
theorem aAc (p0:Int) (p1:Int) (p2:Int):al9 KK (.int .i64 p0) (.int .i64 p1) (.int .i64 p2) []=tm (t139 p0 p1 p2) fun r=>(.ret (.slice (Rw Ins.cells r) .no),[]):=by
 simp [-l9,-lV,-lU,-lW,-lZ,-lY,-lX,al9,t139,wD,Dr,DE,ab1,XO]
theorem CL (p0:Int) (p1:Int) (p2:Int) (h:lT):KK 139 [(.int .i64 p0),(.int .i64 p1),(.int .i64 p2)] h=tm (t139 p0 p1 p2) fun r=>(.ret (.slice (Rw Ins.cells r) .no),h):=oE rfl rfl (adT ..) (aAc p0 p1 p2)
def TZ (mm:Nat) (aB:R):Option (nT×lT) :=
 (fun aA aC=>Ex.oA aB.1 (nZ mm aA aC)) (gd aB.2.1 0) aB.2.2
def Sa (K:mA) (aB:lS) (aA:lT):Option R :=
 some (.ret,[aB],aA)
def Jz (aA:Bool):Option (Bool) :=
 some aA
theorem ao8 (w37:Bool) (p0:Op):((Sa KK (.bool w37) ([.cells [(.int .i64 p0.kind),(.int .i64 p0.dst),(.int .i64 p0.a),(.int .i64 p0.b),(.int .i64 p0.c),(.int .i64 p0.imm)]]:lT))).bind (TZ 0)=tm (Jz w37) fun r=>(.ret (.bool r),[]):=by
 cases w37 <;> simp [-l9,-lV,-lU,-lW,-lZ,-lY,-lX,Sa,Jz,TZ]
def m53 (K:mA) (a0:lS) (h0:lT):Option (nT×lT) :=
 (mC (nP 6 h0 a0) fun aD aA=>fa 0 aD fun aF=>ld false 1 aA aF fun t23=>bo .eql t23 (.int .i64 18) fun t24=>gS false t24 (fa 0 aD fun aG=>mM aG aA) aA fun t26 aB=>gS false t24 (ld false 1 aB t26 fun t28=>mM t28 aB) aB fun t29 aC=>gS false t24 (bo .eql t29 (.int .i64 19) fun t31=>mM t31 aC) aC fun t32 aE=>(nA t24 (.bool true) t32).bind fun aH=>Sa K aH aE).bind (TZ (aa5 h0))
theorem anW (K:mA) (a0:lS) (h0:lT):p9 Tryz.prog nM nL K 53 [a0] h0=m53 (mW nM K) a0 h0:=by kernel_rfl
def t53 (p0:Op):Option (Bool) :=
 tc (decide (p0.kind=18)) (Jz true) (Jz (decide (p0.kind=19)))
theorem b53 (p0:Op):m53 KK (.agg [(.int .i64 p0.kind),(.int .i64 p0.dst),(.int .i64 p0.a),(.int .i64 p0.b),(.int .i64 p0.c),(.int .i64 p0.imm)]) []=tm (t53 p0) fun r=>(.ret (.bool r),[]):=by
 simp +contextual [-l9,-lV,-lU,-lW,-lZ,-lY,-lX,m53,t53,TZ,ao8]
theorem NC (p0:Op) (h:lT):KK 53 [(.agg [(.int .i64 p0.kind),(.int .i64 p0.dst),(.int .i64 p0.a),(.int .i64 p0.b),(.int .i64 p0.c),(.int .i64 p0.imm)])] h=tm (t53 p0) fun r=>(.ret (.bool r),h):=oE rfl rfl (anW ..) (b53 p0)
def Gp (mm:Nat) (aA:R):Option (nT×lT) :=
 (fun aB aC=>Ex.oA aA.1 ((mF true 3 aC aB).bind fun aD=>nZ mm aD aC)) (gd aA.2.1 0) aA.2.2
def Rr (K:mA) (aO:lS) (aB:lT) (t24:lS) (aK:lS) (a0:lS) (aN:lS):Option R :=
 mH aO ((mV [(.int .i64 0),(.int .i64 0),(.bool false)] [(0,1),(1,1),(2,1)] []).bind fun aP=>(mL 3 aB t24 aP).bind fun aL=>some (.ret,[t24],aL)) (fa 5 aK fun aQ=>ld false 1 aB aQ fun aR=>ix 4 a0 aR fun aS=>ld true 4 aB aS fun aT=>mC (nP 4 aB (.agg [(.int .i64 0),(.int .i64 0),(.int .i64 0),(.int .i64 0)])) fun aJ aM=>(mL 4 aM aJ aT).bind fun aA=>fa 0 aJ fun aU=>ld false 1 aA aU fun aV=>fa 1 aN fun aW=>ld false 1 aA aW fun aX=>fa 5 aK fun aY=>ld false 1 aA aY fun aZ=>ix 1 aX aZ fun aD=>ld false 1 aA aD fun aE=>fa 2 aJ fun aF=>ld false 1 aA aF fun aG=>bo .eql aG (.int .i64 1) fun aH=>(mV [(.int .i64 0),(.int .i64 0),(.bool false)] [(0,1),(1,1),(2,1)] [(0,aV),(1,aE),(2,aH)]).bind fun aI=>(mL 3 aA t24 aI).bind fun aC=>some (.ret,[t24],aC))
def Jh (aC:Bool) (p1:uV) (p2:Op) (p0:(List nH)):Option (oW) :=
 tc aC (some (⟨0,0,false⟩:oW)) (tb ((o8 p0 p2.imm)) fun aB=>tb ((o8 p1.arrays p2.imm)) fun aA=>some (⟨aB.elem,aA,(decide (aB.kind=1))⟩:oW))
theorem SD (w83:Bool) (p1:uV) (p2:Op) (p0:(List nH)):((Rr KK (.bool w83) ([.cells [(.int .i64 p1.image),(.slice (Rw (ci .i64) p1.arrays) .no),(.int .i64 p1.size)],.cells [(.int .i64 p2.kind),(.int .i64 p2.dst),(.int .i64 p2.a),(.int .i64 p2.b),(.int .i64 p2.c),(.int .i64 p2.imm)],.cells [(.int .i64 0),(.int .i64 0),(.bool false)]]:lT) (.ptr 2 0) (.ptr 1 0) (.slice (Rw nH.cells p0) .no) (.ptr 0 0))).bind (Gp 0)=tm (Jh w83 p1 p2 p0) fun r=>(.ret (.agg [(.int .i64 r.elem),(.int .i64 r.off),(.bool r.inp)]),[]):=by
 cases w83 <;> simp [-l9,-lV,-lU,-lW,-lZ,-lY,-lX,Rr,Jh,NC,Gp]
def Rq (K:mA) (aA:lS) (aI:lS) (aD:lT) (aH:lS) (t24:lS) (a0:lS):Option R :=
 gS false aA (fa 5 aI fun aK=>mM aK aD) aD fun aL aB=>gS false aA (ld false 1 aB aL fun aM=>mM aM aB) aB fun aN aE=>gS false aA (fa 1 aH fun aO=>mM aO aE) aE fun aP aC=>gS false aA (ld false 1 aC aP fun aQ=>mM aQ aC) aC fun aR aF=>gS false aA (ln aR fun aS=>mM aS aF) aF fun aT aG=>gS false aA (bo .geq aN aT fun aU=>mM aU aG) aG fun aV aJ=>(nA aA (.bool true) aV).bind fun aW=>Rr K aW aJ t24 aI a0 aH
def FL (aA:Bool) (p1:uV) (p2:Op) (p0:(List nH)):Option (oW) :=
 tc aA (Jh true p1 p2 p0) (Jh (decide (((aa5 p1.arrays:Nat):Int)≤p2.imm)) p1 p2 p0)
theorem Y9 (w61:Bool) (p1:uV) (p2:Op) (p0:(List nH)):((Rq KK (.bool w61) (.ptr 1 0) ([.cells [(.int .i64 p1.image),(.slice (Rw (ci .i64) p1.arrays) .no),(.int .i64 p1.size)],.cells [(.int .i64 p2.kind),(.int .i64 p2.dst),(.int .i64 p2.a),(.int .i64 p2.b),(.int .i64 p2.c),(.int .i64 p2.imm)],.cells [(.int .i64 0),(.int .i64 0),(.bool false)]]:lT) (.ptr 0 0) (.ptr 2 0) (.slice (Rw nH.cells p0) .no))).bind (Gp 0)=tm (FL w61 p1 p2 p0) fun r=>(.ret (.agg [(.int .i64 r.elem),(.int .i64 r.off),(.bool r.inp)]),[]):=by
 cases w61 <;> simp [-l9,-lV,-lU,-lW,-lZ,-lY,-lX,Rq,FL,NC,Gp,SD]
def Rp (K:mA) (aA:lS) (aG:lS) (aC:lT) (a0:lS) (aI:lS) (t24:lS):Option R :=
 gS false aA (fa 5 aG fun aJ=>mM aJ aC) aC fun aK aB=>gS false aA (ld false 1 aB aK fun aL=>mM aL aB) aB fun aM aD=>gS false aA (mM a0 aD) aD fun aN aE=>gS false aA (ln aN fun aO=>mM aO aE) aE fun t53 aF=>gS false aA (bo .geq aM t53 fun aP=>mM aP aF) aF fun aQ aH=>(nA aA (.bool true) aQ).bind fun aR=>Rq K aR aG aH aI t24 a0
def FK (aA:Bool) (p1:uV) (p2:Op) (p0:(List nH)):Option (oW) :=
 tc aA (FL true p1 p2 p0) (FL (decide (((aa5 p0:Nat):Int)≤p2.imm)) p1 p2 p0)
theorem aoU (w43:Bool) (p1:uV) (p2:Op) (p0:(List nH)):((Rp KK (.bool w43) (.ptr 1 0) ([.cells [(.int .i64 p1.image),(.slice (Rw (ci .i64) p1.arrays) .no),(.int .i64 p1.size)],.cells [(.int .i64 p2.kind),(.int .i64 p2.dst),(.int .i64 p2.a),(.int .i64 p2.b),(.int .i64 p2.c),(.int .i64 p2.imm)],.cells [(.int .i64 0),(.int .i64 0),(.bool false)]]:lT) (.slice (Rw nH.cells p0) .no) (.ptr 0 0) (.ptr 2 0))).bind (Gp 0)=tm (FK w43 p1 p2 p0) fun r=>(.ret (.agg [(.int .i64 r.elem),(.int .i64 r.off),(.bool r.inp)]),[]):=by
 cases w43 <;> simp [-l9,-lV,-lU,-lW,-lZ,-lY,-lX,Rp,FK,NC,Gp,SD,Y9]
def m24 (K:mA) (a0 a1 a2:lS) (h0:lT):Option (nT×lT) :=
 (mC (nP 3 h0 a1) fun aI aF=>mC (nP 6 aF a2) fun aB aG=>mC (nP 3 aG (.agg [(.int .i64 0),(.int .i64 0),(.bool false)])) fun t24 aC=>ld true 6 aC aB fun t26=>ca (K 53 [(lS.l_ t26)] aC) fun aJ aD=>(yD .not aJ).bind fun t30=>gS false t30 (fa 5 aB fun t31=>mM t31 aD) aD fun t32 aA=>gS false t30 (ld false 1 aA t32 fun aK=>mM aK aA) aA fun aL aE=>gS false t30 (bo .lss aL (.int .i64 0) fun aM=>mM aM aE) aE fun aN aH=>(nA t30 (.bool true) aN).bind fun aO=>Rp K aO aB aH a0 aI t24).bind (Gp (aa5 h0))
theorem anA (K:mA) (a0 a1 a2:lS) (h0:lT):p9 Tryz.prog nM nL K 24 [a0,a1,a2] h0=m24 (mW nM K) a0 a1 a2 h0:=by kernel_rfl
def t24 (p0:(List nH)) (p1:uV) (p2:Op):Option (oW) :=
 tb ((t53 p2)) fun CX=>tc (!CX) (FK true p1 p2 p0) (FK (decide (p2.imm<0)) p1 p2 p0)
theorem b24 (p0:(List nH)) (p1:uV) (p2:Op):m24 KK (.slice (Rw nH.cells p0) .no) (.agg [(.int .i64 p1.image),(.slice (Rw (ci .i64) p1.arrays) .no),(.int .i64 p1.size)]) (.agg [(.int .i64 p2.kind),(.int .i64 p2.dst),(.int .i64 p2.a),(.int .i64 p2.b),(.int .i64 p2.c),(.int .i64 p2.imm)]) []=tm (t24 p0 p1 p2) fun r=>(.ret (.agg [(.int .i64 r.elem),(.int .i64 r.off),(.bool r.inp)]),[]):=by
 simp +contextual [-l9,-lV,-lU,-lW,-lZ,-lY,-lX,m24,t24,NC,Gp,SD,Y9,aoU]
theorem yE (p0:(List nH)) (p1:uV) (p2:Op) (h:lT):KK 24 [(.slice (Rw nH.cells p0) .no),(.agg [(.int .i64 p1.image),(.slice (Rw (ci .i64) p1.arrays) .no),(.int .i64 p1.size)]),(.agg [(.int .i64 p2.kind),(.int .i64 p2.dst),(.int .i64 p2.a),(.int .i64 p2.b),(.int .i64 p2.c),(.int .i64 p2.imm)])] h=tm (t24 p0 p1 p2) fun r=>(.ret (.agg [(.int .i64 r.elem),(.int .i64 r.off),(.bool r.inp)]),h):=oE rfl rfl (anA ..) (b24 p0 p1 p2)
end
noncomputable section
open Go Hk
def MO (mm:Nat) (AM:R):Option (nT×lT) :=
 (fun aA aB=>Ex.oA AM.1 (nZ mm aA aB)) (gd AM.2.1 0) AM.2.2
def MP (K:mA) (t26:lS) (aA:lT):Option R :=
 some (.ret,[t26],aA)
def EF (aA:Bool):Option (Bool) :=
 some aA
theorem ae6 (w29:Bool):((MP KK (.bool w29) ([]:lT))).bind (MO 0)=tm (EF w29) fun r=>(.ret (.bool r),[]):=by
 cases w29 <;> simp [-l9,-lV,-lU,-lW,-lZ,-lY,-lX,MP,EF,MO]
def amB (K:mA) (a0:lS) (h0:lT):Option (nT×lT) :=
 (bo .geq a0 (.int .i64 0) fun aA=>gS true aA (mM a0 h0) h0 fun aD aB=>gS true aA (bo .lss aD (.int .i64 16383) fun t23=>mM t23 aB) aB fun t24 aC=>(nA aA t24 (.bool false)).bind fun t26=>MP K t26 aC).bind (MO (aa5 h0))
theorem adU (K:mA) (a0:lS) (h0:lT):p9 Tryz.prog nM nL K 140 [a0] h0=amB (mW nM K) a0 h0:=by kernel_rfl
def t140 (p0:Int):Option (Bool) :=
 tc (decide (0≤p0)) (EF (decide (p0<16383))) (EF false)
theorem aAd (p0:Int):amB KK (.int .i64 p0) []=tm (t140 p0) fun r=>(.ret (.bool r),[]):=by
 simp +contextual [-l9,-lV,-lU,-lW,-lZ,-lY,-lX,amB,t140,MO,ae6]
theorem Ds (p0:Int) (h:lT):KK 140 [(.int .i64 p0)] h=tm (t140 p0) fun r=>(.ret (.bool r),h):=oE rfl rfl (adU ..) (aAd p0)
def zJ (mm:Nat) (aB:R):Option (nT×lT) :=
 (fun aA aC=>Ex.oA aB.1 (nZ mm aA aC)) (gd aB.2.1 0) aB.2.2
def MU (K:mA) (aB:lS) (aA:lT):Option R :=
 some (.ret,[aB],aA)
def CA (aA:Bool):Option (Bool) :=
 some aA
theorem He (w93:Bool) (p0:Op) (p1:oW) (w94:Bool):((MU KK (.bool w93) ([.cells [(.int .i64 p0.kind),(.int .i64 p0.dst),(.int .i64 p0.a),(.int .i64 p0.b),(.int .i64 p0.c),(.int .i64 p0.imm)],.cells [(.int .i64 p1.elem),(.int .i64 p1.off),(.bool w94)]]:lT))).bind (zJ 0)=tm (CA w93) fun r=>(.ret (.bool r),[]):=by
 cases w93 <;> simp [-l9,-lV,-lU,-lW,-lZ,-lY,-lX,MU,CA,zJ]
def MT (K:mA) (aA:lS) (aM:lS) (aE:lT) (aL:lS):Option R :=
 gS true aA (fa 2 aM fun aN=>mM aN aE) aE fun aO aC=>gS true aA (ld false 1 aC aO fun aP=>mM aP aC) aC fun t70 aF=>gS true aA (mM t70 aF) aF fun aB aG=>gS true aB (fa 0 aL fun aQ=>mM aQ aG) aG fun aR aD=>gS true aB (ld false 1 aD aR fun aS=>mM aS aD) aD fun aT aH=>gS true aB (bo .eql aT (.int .i64 19) fun aU=>mM aU aH) aH fun aV aI=>gS true aA ((nA aB aV (.bool false)).bind fun aW=>mM aW aI) aI fun aX aJ=>gS true aA ((yD .not aX).bind fun aY=>mM aY aJ) aJ fun aZ aK=>(nA aA aZ (.bool false)).bind fun a_=>MU K a_ aK
def EI (aA:Bool) (p0:Op) (p1:oW):Option (Bool) :=
 tc aA (tc p1.inp (CA (!(decide (p0.kind=19)))) (CA (!false))) (CA false)
theorem Nx (w65:Bool) (p0:Op) (p1:oW):((MT KK (.bool w65) (.ptr 1 0) ([.cells [(.int .i64 p0.kind),(.int .i64 p0.dst),(.int .i64 p0.a),(.int .i64 p0.b),(.int .i64 p0.c),(.int .i64 p0.imm)],.cells [(.int .i64 p1.elem),(.int .i64 p1.off),(.bool p1.inp)]]:lT) (.ptr 0 0))).bind (zJ 0)=tm (EI w65 p0 p1) fun r=>(.ret (.bool r),[]):=by
 cases w65 <;> simp +contextual [-l9,-lV,-lU,-lW,-lZ,-lY,-lX,MT,EI,zJ,He]
def MS (K:mA) (aA:lS) (aE:lS) (aC:lT) (aG:lS):Option R :=
 gS true aA (fa 1 aE fun t53=>mM t53 aC) aC fun aH aB=>gS true aA (ld false 1 aB aH fun aI=>mM aI aB) aB fun aJ aD=>gS true aA (bo .leq aJ (.int .i64 65535) fun aK=>mM aK aD) aD fun t60 aF=>(nA aA t60 (.bool false)).bind fun aL=>MT K aL aE aF aG
def EH (aA:Bool) (p0:Op) (p1:oW):Option (Bool) :=
 tc aA (EI (decide (p1.off≤65535)) p0 p1) (EI false p0 p1)
theorem Ug (w52:Bool) (p0:Op) (p1:oW):((MS KK (.bool w52) (.ptr 1 0) ([.cells [(.int .i64 p0.kind),(.int .i64 p0.dst),(.int .i64 p0.a),(.int .i64 p0.b),(.int .i64 p0.c),(.int .i64 p0.imm)],.cells [(.int .i64 p1.elem),(.int .i64 p1.off),(.bool p1.inp)]]:lT) (.ptr 0 0))).bind (zJ 0)=tm (EH w52 p0 p1) fun r=>(.ret (.bool r),[]):=by
 cases w52 <;> simp [-l9,-lV,-lU,-lW,-lZ,-lY,-lX,MS,EH,zJ,He,Nx]
def MQ (K:mA) (t36:lS) (aD:lS) (aB:lT) (aF:lS):Option R :=
 gS true t36 (fa 1 aD fun aG=>mM aG aB) aB fun aH aA=>gS true t36 (ld false 1 aA aH fun aI=>mM aI aA) aA fun aJ aC=>gS true t36 (bo .geq aJ (.int .i64 0) fun aK=>mM aK aC) aC fun aL aE=>(nA t36 aL (.bool false)).bind fun aM=>MS K aM aD aE aF
def EG (aA:Bool) (p0:Op) (p1:oW):Option (Bool) :=
 tc aA (EH (decide (0≤p1.off)) p0 p1) (EH false p0 p1)
theorem ae7 (w39:Bool) (p0:Op) (p1:oW):((MQ KK (.bool w39) (.ptr 1 0) ([.cells [(.int .i64 p0.kind),(.int .i64 p0.dst),(.int .i64 p0.a),(.int .i64 p0.b),(.int .i64 p0.c),(.int .i64 p0.imm)],.cells [(.int .i64 p1.elem),(.int .i64 p1.off),(.bool p1.inp)]]:lT) (.ptr 0 0))).bind (zJ 0)=tm (EG w39 p0 p1) fun r=>(.ret (.bool r),[]):=by
 cases w39 <;> simp [-l9,-lV,-lU,-lW,-lZ,-lY,-lX,MQ,EG,zJ,He,Nx,Ug]
def amC (K:mA) (a0 a1:lS) (h0:lT):Option (nT×lT) :=
 (mC (nP 6 h0 a0) fun aG aE=>mC (nP 3 aE a1) fun aC aA=>fa 0 aC fun t24=>ld false 1 aA t24 fun aH=>bo .eql aH (.int .i64 1) fun t26=>gS false t26 (fa 0 aC fun aI=>mM aI aA) aA fun t28 aB=>gS false t26 (ld false 1 aB t28 fun t30=>mM t30 aB) aB fun t31 aD=>gS false t26 (bo .eql t31 (.int .i64 4) fun aJ=>mM aJ aD) aD fun aK aF=>(nA t26 (.bool true) aK).bind fun t36=>MQ K t36 aC aF aG).bind (zJ (aa5 h0))
theorem adV (K:mA) (a0 a1:lS) (h0:lT):p9 Tryz.prog nM nL K 141 [a0,a1] h0=amC (mW nM K) a0 a1 h0:=by kernel_rfl
def t141 (p0:Op) (p1:oW):Option (Bool) :=
 tc (decide (p1.elem=1)) (EG true p0 p1) (EG (decide (p1.elem=4)) p0 p1)
theorem aAe (p0:Op) (p1:oW):amC KK (.agg [(.int .i64 p0.kind),(.int .i64 p0.dst),(.int .i64 p0.a),(.int .i64 p0.b),(.int .i64 p0.c),(.int .i64 p0.imm)]) (.agg [(.int .i64 p1.elem),(.int .i64 p1.off),(.bool p1.inp)]) []=tm (t141 p0 p1) fun r=>(.ret (.bool r),[]):=by
 simp +contextual [-l9,-lV,-lU,-lW,-lZ,-lY,-lX,amC,t141,zJ,He,Nx,Ug,ae7]
theorem VB (p0:Op) (p1:oW) (h:lT):KK 141 [(.agg [(.int .i64 p0.kind),(.int .i64 p0.dst),(.int .i64 p0.a),(.int .i64 p0.b),(.int .i64 p0.c),(.int .i64 p0.imm)]),(.agg [(.int .i64 p1.elem),(.int .i64 p1.off),(.bool p1.inp)])] h=tm (t141 p0 p1) fun r=>(.ret (.bool r),h):=oE rfl rfl (adV ..) (aAe p0 p1)
def zI (mm:Nat) (aA:R):Option (nT×lT) :=
 (fun aB aC=>Ex.oA aA.1 (nZ mm aB aC)) (gd aA.2.1 0) aA.2.2
def G5 (K:mA) (m:Nat) (s:List lS×lT):Option R :=
 (fun aD aE aF aG aB aC aA aH=>bo .lss aA aC fun aJ=>mH aJ (ix 1 aB aA fun aK=>ld false 1 aH aK fun aL=>ca (K 140 [(lS.l_ aL)] aH) fun aM aI=>(yD .not aM).bind fun aN=>mH aN (mK m .ret [aD,aE,aF,(.bool false),aB,aC,aA] aI) (bo .add aA (.int .i64 1) fun aO=>mK m .normal [aD,aE,aF,aG,aB,aC,aO] aI)) (mK m (.exit 0) [aD,aE,aF,aG,aB,aC,aA] aH)) (gd s.1 0) (gd s.1 1) (gd s.1 2) (gd s.1 3) (gd s.1 4) (gd s.1 5) (gd s.1 6) s.2
def yV (aB:(List Int)) (aE:Int) (aA:Int):Option (Ey×Int) :=
 tc (decide (aA<aE)) (tb ((o8 aB aA)) fun aD=>tb ((t140 aD)) fun aC=>tc (!aC) (some (.r,aA)) (some (.n,(IntKind.wrap .i64 (aA+1))))) (some ((.x 0),aA))
theorem abC (p2:Int) (r27:(List Int)) (w29:Int) (p0:Op) (p1:oW) (s30:Int):G5 KK 2 ([(.int .i64 p2),(.ptr 0 0),(.ptr 1 0),(.bool false),(.slice (Rw (ci .i64) r27) .no),(.int .i64 w29),(.int .i64 s30)],([.cells [(.int .i64 p0.kind),(.int .i64 p0.dst),(.int .i64 p0.a),(.int .i64 p0.b),(.int .i64 p0.c),(.int .i64 p0.imm)],.cells [(.int .i64 p1.elem),(.int .i64 p1.off),(.bool p1.inp)]]:lT))=tm (yV r27 w29 s30) fun r=>(r.1.ex,[(.int .i64 p2),(.ptr 0 0),(.ptr 1 0),(.bool false),(.slice (Rw (ci .i64) r27) .no),(.int .i64 w29),(.int .i64 r.2)],([.cells [(.int .i64 p0.kind),(.int .i64 p0.dst),(.int .i64 p0.a),(.int .i64 p0.b),(.int .i64 p0.c),(.int .i64 p0.imm)],.cells [(.int .i64 p1.elem),(.int .i64 p1.off),(.bool p1.inp)]]:lT)):=by
 simp [-l9,-lV,-lU,-lW,-lZ,-lY,-lX,G5,yV,Ds]
theorem Ek (p2:Int) (r27:(List Int)) (w29:Int) (p0:Op) (p1:oW) (i4:Int):nL (G5 KK 2) ([(.int .i64 p2),(.ptr 0 0),(.ptr 1 0),(.bool false),(.slice (Rw (ci .i64) r27) .no),(.int .i64 w29),(.int .i64 i4)],([.cells [(.int .i64 p0.kind),(.int .i64 p0.dst),(.int .i64 p0.a),(.int .i64 p0.b),(.int .i64 p0.c),(.int .i64 p0.imm)],.cells [(.int .i64 p1.elem),(.int .i64 p1.off),(.bool p1.inp)]]:lT))=tm (sG (yV r27 w29) i4) fun r=>(r.1.ex,[(.int .i64 p2),(.ptr 0 0),(.ptr 1 0),(.bool false),(.slice (Rw (ci .i64) r27) .no),(.int .i64 w29),(.int .i64 r.2)],([.cells [(.int .i64 p0.kind),(.int .i64 p0.dst),(.int .i64 p0.a),(.int .i64 p0.b),(.int .i64 p0.c),(.int .i64 p0.imm)],.cells [(.int .i64 p1.elem),(.int .i64 p1.off),(.bool p1.inp)]]:lT)):=by
 exact s7 (enc:=fun s30=>([(.int .i64 p2),(.ptr 0 0),(.ptr 1 0),(.bool false),(.slice (Rw (ci .i64) r27) .no),(.int .i64 w29),(.int .i64 s30)],([.cells [(.int .i64 p0.kind),(.int .i64 p0.dst),(.int .i64 p0.a),(.int .i64 p0.b),(.int .i64 p0.c),(.int .i64 p0.imm)],.cells [(.int .i64 p1.elem),(.int .i64 p1.off),(.bool p1.inp)]]:lT))) (fun s30=>abC p2 r27 w29 p0 p1 s30) i4
def MH (K:mA) (m:Nat) (t125:lS) (aA:lS) (aB:lS) (aC:lS) (aD:lS) (aE:lT):Option R :=
 mH t125 (mK m .normal [aA,aB,aC,aD,t125] aE) (bo .eql aD (.int .i64 13) fun t127=>mK m .normal [aA,aB,aC,aD,t127] aE)
def Cy (aA:Bool) (p0:Op):Option (Bool) :=
 tc aA (some aA) (some (decide (p0.kind=13)))
theorem ae2 (w126:Bool) (p0:Op) (p1:oW):(MH KK 2 (.bool w126) (.ptr 0 0) (.ptr 1 0) (.bool false) (.int .i64 p0.kind) ([.cells [(.int .i64 p0.kind),(.int .i64 p0.dst),(.int .i64 p0.a),(.int .i64 p0.b),(.int .i64 p0.c),(.int .i64 p0.imm)],.cells [(.int .i64 p1.elem),(.int .i64 p1.off),(.bool p1.inp)]]:lT))=tm (Cy w126 p0) fun r=>(.normal,[(.ptr 0 0),(.ptr 1 0),(.bool false),(.int .i64 p0.kind),(.bool r)],([.cells [(.int .i64 p0.kind),(.int .i64 p0.dst),(.int .i64 p0.a),(.int .i64 p0.b),(.int .i64 p0.c),(.int .i64 p0.imm)],.cells [(.int .i64 p1.elem),(.int .i64 p1.off),(.bool p1.inp)]]:lT)):=by
 cases w126 <;> simp [-l9,-lV,-lU,-lW,-lZ,-lY,-lX,MH,Cy]
def MG (K:mA) (m:Nat) (aJ:lS) (aC:lS) (aD:lS) (aE:lS) (aF:lS) (aL:lT):Option R :=
 mH aJ (mK m .normal [aC,aD,aE,aF,aJ] aL) (bo .eql aF (.int .i64 12) fun t125=>(MH K (aa5 aL) t125 aC aD aE aF aL).bind fun x7=>(fun aG aH aI aA aB aK=>Ex.rQ x7.1 (mK m .normal [aG,aH,aI,aA,aB] aK)) (gd x7.2.1 0) (gd x7.2.1 1) (gd x7.2.1 2) (gd x7.2.1 3) (gd x7.2.1 4) x7.2.2)
def Cw (aA:Bool) (p0:Op):Option (Bool) :=
 tc aA (some aA) (tb (Cy (decide (p0.kind=12)) p0) fun x7=>some x7)
theorem Ei (w124:Bool) (p0:Op) (p1:oW):(MG KK 2 (.bool w124) (.ptr 0 0) (.ptr 1 0) (.bool false) (.int .i64 p0.kind) ([.cells [(.int .i64 p0.kind),(.int .i64 p0.dst),(.int .i64 p0.a),(.int .i64 p0.b),(.int .i64 p0.c),(.int .i64 p0.imm)],.cells [(.int .i64 p1.elem),(.int .i64 p1.off),(.bool p1.inp)]]:lT))=tm (Cw w124 p0) fun r=>(.normal,[(.ptr 0 0),(.ptr 1 0),(.bool false),(.int .i64 p0.kind),(.bool r)],([.cells [(.int .i64 p0.kind),(.int .i64 p0.dst),(.int .i64 p0.a),(.int .i64 p0.b),(.int .i64 p0.c),(.int .i64 p0.imm)],.cells [(.int .i64 p1.elem),(.int .i64 p1.off),(.bool p1.inp)]]:lT)):=by
 cases w124 <;> simp [-l9,-lV,-lU,-lW,-lZ,-lY,-lX,MG,Cw,ae2]
def MI (K:mA) (m:Nat) (aF:lS) (aA:lS) (aB:lS) (aC:lS) (aE:lT) (aD:lS):Option R :=
 mH aF (mK m .normal [aA,aB,aC,aF] aE) (bo .eql aD (.int .i64 19) fun t160=>mK m .normal [aA,aB,aC,t160] aE)
def EA (aA:Bool) (p0:Op):Option (Bool) :=
 tc aA (some aA) (some (decide (p0.kind=19)))
theorem Ej (w159:Bool) (p0:Op) (p1:oW):(MI KK 2 (.bool w159) (.ptr 0 0) (.ptr 1 0) (.bool false) ([.cells [(.int .i64 p0.kind),(.int .i64 p0.dst),(.int .i64 p0.a),(.int .i64 p0.b),(.int .i64 p0.c),(.int .i64 p0.imm)],.cells [(.int .i64 p1.elem),(.int .i64 p1.off),(.bool p1.inp)]]:lT) (.int .i64 p0.kind))=tm (EA w159 p0) fun r=>(.normal,[(.ptr 0 0),(.ptr 1 0),(.bool false),(.bool r)],([.cells [(.int .i64 p0.kind),(.int .i64 p0.dst),(.int .i64 p0.a),(.int .i64 p0.b),(.int .i64 p0.c),(.int .i64 p0.imm)],.cells [(.int .i64 p1.elem),(.int .i64 p1.off),(.bool p1.inp)]]:lT)):=by
 cases w159 <;> simp [-l9,-lV,-lU,-lW,-lZ,-lY,-lX,MI,EA]
def ML (K:mA) (aB:lS) (aA:lT):Option R :=
 some (.ret,[aB],aA)
def EB (aA:Bool):Option (Bool) :=
 some aA
theorem Hd (w120:Bool) (p0:Op) (p1:oW):((ML KK (.bool w120) ([.cells [(.int .i64 p0.kind),(.int .i64 p0.dst),(.int .i64 p0.a),(.int .i64 p0.b),(.int .i64 p0.c),(.int .i64 p0.imm)],.cells [(.int .i64 p1.elem),(.int .i64 p1.off),(.bool p1.inp)]]:lT))).bind (zI 0)=tm (EB w120) fun r=>(.ret (.bool r),[]):=by
 cases w120 <;> simp [-l9,-lV,-lU,-lW,-lZ,-lY,-lX,ML,EB,Pz,Ek,r73,Ds,Ei,Ej,VB,zI]
def MM (K:mA) (t154:lS) (aA:lT):Option R :=
 some (.ret,[t154],aA)
def EC (aA:Bool):Option (Bool) :=
 some aA
theorem Nw (w157:Bool) (p0:Op) (p1:oW):((MM KK (.bool w157) ([.cells [(.int .i64 p0.kind),(.int .i64 p0.dst),(.int .i64 p0.a),(.int .i64 p0.b),(.int .i64 p0.c),(.int .i64 p0.imm)],.cells [(.int .i64 p1.elem),(.int .i64 p1.off),(.bool p1.inp)]]:lT))).bind (zI 0)=tm (EC w157) fun r=>(.ret (.bool r),[]):=by
 cases w157 <;> simp [-l9,-lV,-lU,-lW,-lZ,-lY,-lX,MM,EC,Pz,Ek,r73,Ds,Ei,Ej,VB,zI,Hd]
def MK (K:mA) (bS:lS) (aL:lT) (aC:lS) (aS:lS) (aT:lS):Option R :=
 mH bS (some (.ret,[(.bool false)],aL)) (fa 0 aC fun aY=>ld false 1 aL aY fun aM=>bo .eql aM (.int .i64 1) fun aZ=>mH aZ (fa 5 aC fun a_=>ld false 1 aL a_ fun bB=>bo .geq bB (.int .i64 0) fun aG=>gS true aG (fa 5 aC fun bC=>mM bC aL) aL fun bD aJ=>gS true aG (ld false 1 aJ bD fun bE=>mM bE aJ) aJ fun bF aQ=>gS true aG (bo .leq bF (.int .i64 4294967295) fun bG=>mM bG aQ) aQ fun bH aU=>(nA aG bH (.bool false)).bind fun bI=>ML K bI aU) (bo .eql aM (.int .i64 11) fun bJ=>(MG K (aa5 aL) bJ aC aS aT aM aL).bind fun Dr=>(fun aA aN aP aB aH aD=>Ex.rQ Dr.1 (mH aH (fa 5 aA fun t142=>ld false 1 aD t142 fun t143=>bo .geq t143 (.int .i64 0) fun t144=>gS true t144 (fa 5 aA fun t145=>mM t145 aD) aD fun t146 aK=>gS true t144 (ld false 1 aK t146 fun t148=>mM t148 aK) aK fun t149 aR=>gS true t144 (bo .lss t149 (.int .i64 32) fun t151=>mM t151 aR) aR fun bK aV=>(nA t144 bK (.bool false)).bind fun t154=>MM K t154 aV) (bo .eql aB (.int .i64 18) fun bL=>(MI K (aa5 aD) bL aA aN aP aD aB).bind fun Fz=>(fun aF aO bR aI aE=>Ex.rQ Fz.1 (mH aI (ld true 6 aE aF fun bM=>ld true 3 aE aO fun bN=>ca (K 141 [(lS.l_ bM),(lS.l_ bN)] aE) fun bO aW=>some (.ret,[bO],aW)) (ld true 6 aE aF fun bP=>ca (K 73 [(lS.l_ bP)] aE) fun bQ aX=>some (.ret,[bQ],aX)))) (gd Fz.2.1 0) (gd Fz.2.1 1) (gd Fz.2.1 2) (gd Fz.2.1 3) Fz.2.2))) (gd Dr.2.1 0) (gd Dr.2.1 1) (gd Dr.2.1 2) (gd Dr.2.1 3) (gd Dr.2.1 4) Dr.2.2))
def AS (aC:Bool) (p0:Op) (p1:oW):Option (Bool) :=
 tc aC (some false) (tc (decide (p0.kind=1)) (tc (decide (0≤p0.imm)) (EB (decide (p0.imm≤4294967295))) (EB false)) (tb (Cw (decide (p0.kind=11)) p0) fun Dr=>tc Dr (tc (decide (0≤p0.imm)) (EC (decide (p0.imm<32))) (EC false)) (tb (EA (decide (p0.kind=18)) p0) fun Fz=>tc Fz (tb ((t141 p0 p1)) fun aA=>some aA) (tb ((t73 p0)) fun aB=>some aB))))
theorem Uf (w101:Bool) (p0:Op) (p1:oW):((MK KK (.bool w101) ([.cells [(.int .i64 p0.kind),(.int .i64 p0.dst),(.int .i64 p0.a),(.int .i64 p0.b),(.int .i64 p0.c),(.int .i64 p0.imm)],.cells [(.int .i64 p1.elem),(.int .i64 p1.off),(.bool p1.inp)]]:lT) (.ptr 0 0) (.ptr 1 0) (.bool false))).bind (zI 0)=tm (AS w101 p0 p1) fun r=>(.ret (.bool r),[]):=by
 cases w101 <;> simp +contextual [-l9,-lV,-lU,-lW,-lZ,-lY,-lX,MK,AS,Pz,Ek,r73,Ds,Ei,Ej,VB,zI,Hd,Nw]
def MJ (K:mA) (aB:lS) (aA:lS) (aG:lT) (aC:lS) (aD:lS) (aE:lS):Option R :=
 gS false aB (mM aA aG) aG fun aN aH=>gS false aB (bo .neq aN (.int .i64 0) fun aO=>mM aO aH) aH fun aP aI=>gS false aB (mM aP aI) aI fun aF aJ=>gS true aF (mM aA aJ) aJ fun aQ aK=>gS true aF (bo .neq aQ (.int .i64 1) fun aR=>mM aR aK) aK fun aS aL=>gS false aB ((nA aF aS (.bool false)).bind fun aT=>mM aT aL) aL fun aU aM=>(nA aB (.bool true) aU).bind fun aV=>MK K aV aM aC aD aE
def Cz (aA:Bool) (p2:Int) (p0:Op) (p1:oW):Option (Bool) :=
 tc aA (AS true p0 p1) (tc (!decide (p2=0)) (AS (!decide (p2=1)) p0 p1) (AS false p0 p1))
theorem ae3 (w80:Bool) (p2:Int) (p0:Op) (p1:oW):((MJ KK (.bool w80) (.int .i64 p2) ([.cells [(.int .i64 p0.kind),(.int .i64 p0.dst),(.int .i64 p0.a),(.int .i64 p0.b),(.int .i64 p0.c),(.int .i64 p0.imm)],.cells [(.int .i64 p1.elem),(.int .i64 p1.off),(.bool p1.inp)]]:lT) (.ptr 0 0) (.ptr 1 0) (.bool false))).bind (zI 0)=tm (Cz w80 p2 p0 p1) fun r=>(.ret (.bool r),[]):=by
 cases w80 <;> simp +contextual [-l9,-lV,-lU,-lW,-lZ,-lY,-lX,MJ,Cz,Pz,Ek,r73,Ds,Ei,Ej,VB,zI,Hd,Nw,Uf]
def al6 (K:mA) (a0 a1 a2:lS) (h0:lT):Option (nT×lT) :=
 (mC (nP 6 h0 a0) fun aP aT=>mC (nP 3 aT a1) fun aW aK=>ld true 6 aK aP fun t24=>ca (K 36 [(lS.l_ t24)] aK) fun aQ aL=>ln aQ fun t28=>(nL (G5 K (aa5 aL)) ([a2,aP,aW,(.bool false),aQ,t28,(.int .i64 0)],aL)).bind fun aB=>(fun aD aA aE aC aH aI aJ aF=>Ex.nC aB.1 none (fun aR=>Ex.inBlock 0 aR (ld true 6 aF aA fun aX=>ca (K 73 [(lS.l_ aX)] aF) fun t60 aM=>gS true t60 (fa 1 aA fun aY=>mM aY aM) aM fun aZ aG=>gS true t60 (ld false 1 aG aZ fun a_=>mM a_ aG) aG fun bB aN=>gS true t60 (cg (K 140 [(lS.l_ bB)] aN) fun bC aU=>mM bC aU) aN fun bD aO=>gS true t60 ((yD .not bD).bind fun bE=>mM bE aO) aO fun bF aV=>(nA t60 bF (.bool false)).bind fun bG=>MJ K bG aD aV aA aE aC) (fun aS=>some (aS,[aC],aF)))) (gd aB.2.1 0) (gd aB.2.1 1) (gd aB.2.1 2) (gd aB.2.1 3) (gd aB.2.1 4) (gd aB.2.1 5) (gd aB.2.1 6) aB.2.2).bind (zI (aa5 h0))
theorem adQ (K:mA) (a0 a1 a2:lS) (h0:lT):p9 Tryz.prog nM nL K 136 [a0,a1,a2] h0=al6 (mW nM K) a0 a1 a2 h0:=by kernel_rfl
def t136 (p0:Op) (p1:oW) (p2:Int):Option (Bool) :=
 tb ((t36 p0)) fun aA=>tb (sG (yV aA ((aa5 aA:Nat):Int)) 0) fun aD=>uW aD.1 none fun aB=>vA 0 aB (tb ((t73 p0)) fun aE=>tc aE (tb ((t140 p0.dst)) fun aF=>Cz (!aF) p2 p0 p1) (Cz false p2 p0 p1)) fun aC=>Ga aC (some false)
theorem az9 (p0:Op) (p1:oW) (p2:Int):al6 KK (.agg [(.int .i64 p0.kind),(.int .i64 p0.dst),(.int .i64 p0.a),(.int .i64 p0.b),(.int .i64 p0.c),(.int .i64 p0.imm)]) (.agg [(.int .i64 p1.elem),(.int .i64 p1.off),(.bool p1.inp)]) (.int .i64 p2) []=tm (t136 p0 p1 p2) fun r=>(.ret (.bool r),[]):=by
 simp +contextual [-l9,-lV,-lU,-lW,-lZ,-lY,-lX,al6,t136,Pz,Ek,r73,Ds,Ei,Ej,VB,zI,Hd,Nw,Uf,ae3]
theorem avV (p0:Op) (p1:oW) (p2:Int) (h:lT):KK 136 [(.agg [(.int .i64 p0.kind),(.int .i64 p0.dst),(.int .i64 p0.a),(.int .i64 p0.b),(.int .i64 p0.c),(.int .i64 p0.imm)]),(.agg [(.int .i64 p1.elem),(.int .i64 p1.off),(.bool p1.inp)]),(.int .i64 p2)] h=tm (t136 p0 p1 p2) fun r=>(.ret (.bool r),h):=oE rfl rfl (adQ ..) (az9 p0 p1 p2)
def XM (mm:Nat) (aB:R):Option (nT×lT) :=
 (fun aA aC=>Ex.oA aB.1 (nZ mm aA aC)) (gd aB.2.1 0) aB.2.2
def G6 (K:mA) (m:Nat) (s:List lS×lT):Option R :=
 (fun aD aE aB aC aA aF=>bo .lss aA aC fun aH=>mH aH (ix 1 aB aA fun aI=>ld false 1 aF aI fun t36=>mC (nD 8 64 aF aE t36) fun aJ aG=>bo .add aA (.int .i64 1) fun aK=>mK m .normal [aD,aJ,aB,aC,aK] aG) (mK m (.exit 0) [aD,aE,aB,aC,aA] aF)) (gd s.1 0) (gd s.1 1) (gd s.1 2) (gd s.1 3) (gd s.1 4) s.2
def yW (p0:(List (List Ins))) (aD:Int) (aA:(List Ins)×Int):Option (Ey×(List Ins)×Int) :=
 tc (decide (aA.2<aD)) (tb ((o8 p0 aA.2)) fun aC=>tb ((pD 64 aA.1 aC)) fun aB=>some (.n,(aB,(IntKind.wrap .i64 (aA.2+1))))) (some ((.x 0),(aA.1,aA.2)))
theorem abD (p0:(List (List Ins))) (w25:Int) (s26:(List Ins)×Int):G6 KK 2 ([(.slice (Rw Ins.cells []) (.own 0)),(.slice (Rw Ins.cells s26.1) (.own 1)),(.slice (Rw (vE Ins.cells) p0) .no),(.int .i64 w25),(.int .i64 s26.2)],([.front 0 0,oR 8 (aa5 s26.1)]:lT))=tm (yW p0 w25 s26) fun r=>(r.1.ex,[(.slice (Rw Ins.cells []) (.own 0)),(.slice (Rw Ins.cells r.2.1) (.own 1)),(.slice (Rw (vE Ins.cells) p0) .no),(.int .i64 w25),(.int .i64 r.2.2)],([.front 0 0,oR 8 (aa5 r.2.1)]:lT)):=by
 simp [-l9,-lV,-lU,-lW,-lZ,-lY,-lX,G6,yW]
theorem ae4 (p0:(List (List Ins))) (w25:Int) (i4:Int):nL (G6 KK 2) ([(.slice (Rw Ins.cells []) (.own 0)),(.slice (Rw Ins.cells []) (.own 1)),(.slice (Rw (vE Ins.cells) p0) .no),(.int .i64 w25),(.int .i64 i4)],([.front 0 0,.front 0 0]:lT))=tm (sG (yW p0 w25) ([],i4)) fun r=>(r.1.ex,[(.slice (Rw Ins.cells []) (.own 0)),(.slice (Rw Ins.cells r.2.1) (.own 1)),(.slice (Rw (vE Ins.cells) p0) .no),(.int .i64 w25),(.int .i64 r.2.2)],([.front 0 0,oR 8 (aa5 r.2.1)]:lT)):=by
 exact s7 (enc:=fun s26=>([(.slice (Rw Ins.cells []) (.own 0)),(.slice (Rw Ins.cells s26.1) (.own 1)),(.slice (Rw (vE Ins.cells) p0) .no),(.int .i64 w25),(.int .i64 s26.2)],([.front 0 0,oR 8 (aa5 s26.1)]:lT))) (fun s26=>abD p0 w25 s26) ([],i4)
def al7 (K:mA) (a0:lS) (h0:lT):Option (nT×lT) :=
 ((fun(aL:lS) (aD:lT)=>(fun(t23:lS) (aE:lT)=>ln a0 fun t24=>(nL (G6 K (aa5 aE)) ([aL,t23,a0,t24,(.int .i64 0)],aE)).bind fun aA=>(fun aB aC aG aH aI aF=>Ex.nC aA.1 none (fun aJ=>Ex.inBlock 0 aJ (some (.ret,[aC],aF)) (fun aK=>some (aK,[aB],aF)))) (gd aA.2.1 0) (gd aA.2.1 1) (gd aA.2.1 2) (gd aA.2.1 3) (gd aA.2.1 4) aA.2.2) (.slice (Rw Ins.cells []) (.own (aa5 aD))) (aD++[.front 0 0])) (.slice (Rw Ins.cells []) (.own (aa5 h0))) (h0++[.front 0 0])).bind (XM (aa5 h0))
theorem adR (K:mA) (a0:lS) (h0:lT):p9 Tryz.prog nM nL K 137 [a0] h0=al7 (mW nM K) a0 h0:=by kernel_rfl
def t137 (p0:(List (List Ins))):Option ((List Ins)) :=
 tb (sG (yW p0 ((aa5 p0:Nat):Int)) ([],0)) fun aA=>uW aA.1 none fun aB=>vA 0 aB (some aA.2.1) fun aC=>Ga aC (some [])
theorem aAa (p0:(List (List Ins))):al7 KK (.slice (Rw (vE Ins.cells) p0) .no) []=tm (t137 p0) fun r=>(.ret (.slice (Rw Ins.cells r) .no),[]):=by
 simp [-l9,-lV,-lU,-lW,-lZ,-lY,-lX,al7,t137,ae4,XM]
theorem avW (p0:(List (List Ins))) (h:lT):KK 137 [(.slice (Rw (vE Ins.cells) p0) .no)] h=tm (t137 p0) fun r=>(.ret (.slice (Rw Ins.cells r) .no),h):=oE rfl rfl (adR ..) (aAa p0)
def XU (mm:Nat) (yE:R):Option (nT×lT) :=
 (fun aA aB=>Ex.oA yE.1 ((mF true 8 aB aA).bind fun aC=>nZ mm aC aB)) (gd yE.2.1 0) yE.2.2
def amH (K:mA) (a0 a1 a2 a3:lS) (h0:lT):Option (nT×lT) :=
 (mC (nP 8 h0 (.agg [(.int .i64 0),(.int .i64 0),(.int .i64 0),(.int .i64 0),(.int .i64 0),(.int .i64 0),(.int .i64 0),(.bool false)])) fun aA aB=>(mV [(.int .i64 0),(.int .i64 0),(.int .i64 0),(.int .i64 0),(.int .i64 0),(.int .i64 0),(.int .i64 0),(.bool false)] [(0,1),(1,1),(2,1),(3,1),(4,1),(5,1),(6,1),(7,1)] [(0,a0),(1,a1),(2,a2),(3,a3)]).bind fun aD=>(mL 8 aB aA aD).bind fun aC=>some (.ret,[aA],aC)).bind (XU (aa5 h0))
theorem ad0 (K:mA) (a0 a1 a2 a3:lS) (h0:lT):p9 Tryz.prog nM nL K 146 [a0,a1,a2,a3] h0=amH (mW nM K) a0 a1 a2 a3 h0:=by kernel_rfl
def t146 (p0:Int) (p1:Int) (p2:Int) (p3:Int):Option (Ins) :=
 some (⟨p0,p1,p2,p3,0,0,0,false⟩:Ins)
theorem aAj (p0:Int) (p1:Int) (p2:Int) (p3:Int):amH KK (.int .i64 p0) (.int .i64 p1) (.int .i64 p2) (.int .i64 p3) []=tm (t146 p0 p1 p2 p3) fun r=>(.ret (.agg [(.int .i64 r.op),(.int .i64 r.rd),(.int .i64 r.rn),(.int .i64 r.rm),(.int .i64 r.ra),(.int .i64 r.imm),(.int .i64 r.cond),(.bool r.wide)]),[]):=by
 simp [-l9,-lV,-lU,-lW,-lZ,-lY,-lX,amH,t146,XU]
theorem El (p0:Int) (p1:Int) (p2:Int) (p3:Int) (h:lT):KK 146 [(.int .i64 p0),(.int .i64 p1),(.int .i64 p2),(.int .i64 p3)] h=tm (t146 p0 p1 p2 p3) fun r=>(.ret (.agg [(.int .i64 r.op),(.int .i64 r.rd),(.int .i64 r.rn),(.int .i64 r.rm),(.int .i64 r.ra),(.int .i64 r.imm),(.int .i64 r.cond),(.bool r.wide)]),h):=oE rfl rfl (ad0 ..) (aAj p0 p1 p2 p3)
def XP (mm:Nat) (aB:R):Option (nT×lT) :=
 (fun aA aC=>Ex.oA aB.1 ((mF true 8 aC aA).bind fun t36=>nZ mm t36 aC)) (gd aB.2.1 0) aB.2.2
def MV (K:mA) (m:Nat) (aC:lS) (a1:lS) (a2:lS) (a3:lS) (aB:lS) (aA:lT) (a0:lS):Option R :=
 mH aC (mK m .normal [(.int .i64 5),a1,a2,a3,aB] aA) (mK m .normal [a0,a1,a2,a3,aB] aA)
def yX (aA:Bool) (p0:Int):Option (Int) :=
 tc aA (some 5) (some p0)
theorem ae8 (w23:Bool) (p1:Int) (p2:Int) (p3:Int) (p0:Int):(MV KK 1 (.bool w23) (.int .i64 p1) (.int .i64 p2) (.int .i64 p3) (.ptr 0 0) ([.cells [(.int .i64 0),(.int .i64 0),(.int .i64 0),(.int .i64 0),(.int .i64 0),(.int .i64 0),(.int .i64 0),(.bool false)]]:lT) (.int .i64 p0))=tm (yX w23 p0) fun r=>(.normal,[(.int .i64 r),(.int .i64 p1),(.int .i64 p2),(.int .i64 p3),(.ptr 0 0)],([.cells [(.int .i64 0),(.int .i64 0),(.int .i64 0),(.int .i64 0),(.int .i64 0),(.int .i64 0),(.int .i64 0),(.bool false)]]:lT)):=by
 cases w23 <;> simp [-l9,-lV,-lU,-lW,-lZ,-lY,-lX,MV,yX]
def amD (K:mA) (a0 a1 a2 a3:lS) (h0:lT):Option (nT×lT) :=
 (mC (nP 8 h0 (.agg [(.int .i64 0),(.int .i64 0),(.int .i64 0),(.int .i64 0),(.int .i64 0),(.int .i64 0),(.int .i64 0),(.bool false)])) fun aI aF=>bo .eql a3 (.int .i64 0) fun aJ=>(MV K (aa5 aF) aJ a1 a2 a3 aI aF a0).bind fun yE=>(fun aB aC aD aE aA aG=>Ex.rQ yE.1 ((mV [(.int .i64 0),(.int .i64 0),(.int .i64 0),(.int .i64 0),(.int .i64 0),(.int .i64 0),(.int .i64 0),(.bool false)] [(0,1),(1,1),(2,1),(3,1),(4,1),(5,1),(6,1),(7,1)] [(0,aB),(1,aC),(3,aD),(5,aE)]).bind fun t31=>(mL 8 aG aA t31).bind fun aH=>some (.ret,[aA],aH))) (gd yE.2.1 0) (gd yE.2.1 1) (gd yE.2.1 2) (gd yE.2.1 3) (gd yE.2.1 4) yE.2.2).bind (XP (aa5 h0))
theorem adW (K:mA) (a0 a1 a2 a3:lS) (h0:lT):p9 Tryz.prog nM nL K 142 [a0,a1,a2,a3] h0=amD (mW nM K) a0 a1 a2 a3 h0:=by kernel_rfl
def t142 (p0:Int) (p1:Int) (p2:Int) (p3:Int):Option (Ins) :=
 tb (yX (decide (p3=0)) p0) fun yE=>some (⟨yE,p1,0,p2,0,p3,0,false⟩:Ins)
theorem aAf (p0:Int) (p1:Int) (p2:Int) (p3:Int):amD KK (.int .i64 p0) (.int .i64 p1) (.int .i64 p2) (.int .i64 p3) []=tm (t142 p0 p1 p2 p3) fun r=>(.ret (.agg [(.int .i64 r.op),(.int .i64 r.rd),(.int .i64 r.rn),(.int .i64 r.rm),(.int .i64 r.ra),(.int .i64 r.imm),(.int .i64 r.cond),(.bool r.wide)]),[]):=by
 simp [-l9,-lV,-lU,-lW,-lZ,-lY,-lX,amD,t142,ae8,XP]
theorem I4 (p0:Int) (p1:Int) (p2:Int) (p3:Int) (h:lT):KK 142 [(.int .i64 p0),(.int .i64 p1),(.int .i64 p2),(.int .i64 p3)] h=tm (t142 p0 p1 p2 p3) fun r=>(.ret (.agg [(.int .i64 r.op),(.int .i64 r.rd),(.int .i64 r.rn),(.int .i64 r.rm),(.int .i64 r.ra),(.int .i64 r.imm),(.int .i64 r.cond),(.bool r.wide)]),h):=oE rfl rfl (adW ..) (aAf p0 p1 p2 p3)
def XQ (mm:Nat) (aB:R):Option (nT×lT) :=
 (fun aA aC=>Ex.oA aB.1 (nZ mm aA aC)) (gd aB.2.1 0) aB.2.2
set_option maxHeartbeats 4000000 in
theorem ab2 (y0:Int) (y1:Int) (y2:Int) (y3:Int) (y4:Int) (y5:Int) (y6:Int) (y7:Bool) (y8:Int) (y9:Int) (y10:Int) (y11:Int) (y12:Int) (y13:Int) (y14:Int) (y15:Bool) (y16:Int) (y17:Int) (y18:Int) (y19:Int) (y20:Int) (y21:Int) (y22:Int) (y23:Bool) (y24:Int) (y25:Int) (y26:Int) (y27:Int) (y28:Int) (y29:Int) (y30:Int) (y31:Bool) (y32:Int) (y33:Int) (y34:Int) (y35:Int) (y36:Int) (y37:Int) (y38:Int) (y39:Bool) (y40:Int) (y41:Int) (y42:Int) (y43:Int) (y44:Int) (y45:Int) (y46:Int) (y47:Bool) (y48:Int) (y49:Int) (y50:Int) (y51:Int) (y52:Int) (y53:Int) (y54:Int) (y55:Bool) (h:lT):mD 7 8 [(.int .i64 0),(.int .i64 0),(.int .i64 0),(.int .i64 0),(.int .i64 0),(.int .i64 0),(.int .i64 0),(.bool false)] [(0,(.agg [(.int .i64 y0),(.int .i64 y1),(.int .i64 y2),(.int .i64 y3),(.int .i64 y4),(.int .i64 y5),(.int .i64 y6),(.bool y7)])),(1,(.agg [(.int .i64 y8),(.int .i64 y9),(.int .i64 y10),(.int .i64 y11),(.int .i64 y12),(.int .i64 y13),(.int .i64 y14),(.bool y15)])),(2,(.agg [(.int .i64 y16),(.int .i64 y17),(.int .i64 y18),(.int .i64 y19),(.int .i64 y20),(.int .i64 y21),(.int .i64 y22),(.bool y23)])),(3,(.agg [(.int .i64 y24),(.int .i64 y25),(.int .i64 y26),(.int .i64 y27),(.int .i64 y28),(.int .i64 y29),(.int .i64 y30),(.bool y31)])),(4,(.agg [(.int .i64 y32),(.int .i64 y33),(.int .i64 y34),(.int .i64 y35),(.int .i64 y36),(.int .i64 y37),(.int .i64 y38),(.bool y39)])),(5,(.agg [(.int .i64 y40),(.int .i64 y41),(.int .i64 y42),(.int .i64 y43),(.int .i64 y44),(.int .i64 y45),(.int .i64 y46),(.bool y47)])),(6,(.agg [(.int .i64 y48),(.int .i64 y49),(.int .i64 y50),(.int .i64 y51),(.int .i64 y52),(.int .i64 y53),(.int .i64 y54),(.bool y55)]))] h=some (.slice (Rw Ins.cells [(⟨y0,y1,y2,y3,y4,y5,y6,y7⟩:Ins),(⟨y8,y9,y10,y11,y12,y13,y14,y15⟩:Ins),(⟨y16,y17,y18,y19,y20,y21,y22,y23⟩:Ins),(⟨y24,y25,y26,y27,y28,y29,y30,y31⟩:Ins),(⟨y32,y33,y34,y35,y36,y37,y38,y39⟩:Ins),(⟨y40,y41,y42,y43,y44,y45,y46,y47⟩:Ins),(⟨y48,y49,y50,y51,y52,y53,y54,y55⟩:Ins)]) (.own h.length),h++[oR 8 7]):=by
 rfl
def amE (K:mA) (h0:lT):Option (nT×lT) :=
 ((fun(aN:lS) (aA:lT)=>ca (K 146 [(lS.l_ (.int .i64 11)),(lS.l_ (.int .i64 4)),(lS.l_ (.int .i64 1)),(lS.l_ (.int .i64 0))] aA) fun aI aB=>(mV [(.int .i64 0),(.int .i64 0),(.int .i64 0),(.int .i64 0),(.int .i64 0),(.int .i64 0),(.int .i64 0),(.bool false)] [(0,1),(1,1),(2,1),(3,1),(4,1),(5,1),(6,1),(7,1)] [(0,(.int .i64 9)),(1,(.int .i64 5)),(3,(.int .i64 0))]).bind fun aJ=>ca (K 146 [(lS.l_ (.int .i64 12)),(lS.l_ (.int .i64 6)),(lS.l_ (.int .i64 5)),(lS.l_ (.int .i64 1))] aB) fun t26 aC=>ca (K 146 [(lS.l_ (.int .i64 15)),(lS.l_ (.int .i64 5)),(lS.l_ (.int .i64 0)),(lS.l_ (.int .i64 1))] aC) fun t29 aD=>ca (K 146 [(lS.l_ (.int .i64 10)),(lS.l_ (.int .i64 2)),(lS.l_ (.int .i64 6)),(lS.l_ (.int .i64 5))] aD) fun t32 aE=>ca (K 146 [(lS.l_ (.int .i64 12)),(lS.l_ (.int .i64 6)),(lS.l_ (.int .i64 4)),(lS.l_ (.int .i64 2))] aE) fun aK aF=>ca (K 142 [(lS.l_ (.int .i64 7)),(lS.l_ (.int .i64 3)),(lS.l_ (.int .i64 6)),(lS.l_ (.int .i64 31))] aF) fun aL aG=>mC (mD 7 8 [(.int .i64 0),(.int .i64 0),(.int .i64 0),(.int .i64 0),(.int .i64 0),(.int .i64 0),(.int .i64 0),(.bool false)] [(0,aI),(1,aJ),(2,t26),(3,t29),(4,t32),(5,aK),(6,aL)] aG) fun aM aH=>some (.ret,[aM],aH)) (.slice (Rw Ins.cells []) (.own (aa5 h0))) (h0++[.front 0 0])).bind (XQ (aa5 h0))
theorem adX (K:mA) (h0:lT):p9 Tryz.prog nM nL K 143 [] h0=amE (mW nM K) h0:=by kernel_rfl
def t143:Option ((List Ins)) :=
 tb ((t146 11 4 1 0)) fun yE=>tb ((t146 12 6 5 1)) fun Bd=>tb ((t146 15 5 0 1)) fun Bk=>tb ((t146 10 2 6 5)) fun aA=>tb ((t146 12 6 4 2)) fun aB=>tb ((t142 7 3 6 31)) fun aC=>some [yE,(⟨9,5,0,0,0,0,0,false⟩:Ins),Bd,Bk,aA,aB,aC]
theorem aAg:amE KK  []=tm (t143 ) fun r=>(.ret (.slice (Rw Ins.cells r) .no),[]):=by
 simp [-l9,-lV,-lU,-lW,-lZ,-lY,-lX,amE,t143,El,I4,ab2,XQ]
theorem aBF (h:lT):KK 143 [] h=tm (t143 ) fun r=>(.ret (.slice (Rw Ins.cells r) .no),h):=oE rfl rfl (adX ..) (aAg )
def XR (mm:Nat) (aB:R):Option (nT×lT) :=
 (fun aA aC=>Ex.oA aB.1 (nZ mm aA aC)) (gd aB.2.1 0) aB.2.2
set_option maxHeartbeats 4000000 in
theorem ab3 (y0:Int) (y1:Int) (y2:Int) (y3:Int) (y4:Int) (y5:Int) (y6:Int) (y7:Bool) (y8:Int) (y9:Int) (y10:Int) (y11:Int) (y12:Int) (y13:Int) (y14:Int) (y15:Bool) (y16:Int) (y17:Int) (y18:Int) (y19:Int) (y20:Int) (y21:Int) (y22:Int) (y23:Bool) (y24:Int) (y25:Int) (y26:Int) (y27:Int) (y28:Int) (y29:Int) (y30:Int) (y31:Bool) (y32:Int) (y33:Int) (y34:Int) (y35:Int) (y36:Int) (y37:Int) (y38:Int) (y39:Bool) (y40:Int) (y41:Int) (y42:Int) (y43:Int) (y44:Int) (y45:Int) (y46:Int) (y47:Bool) (y48:Int) (y49:Int) (y50:Int) (y51:Int) (y52:Int) (y53:Int) (y54:Int) (y55:Bool) (h:lT):mD 7 8 [(.int .i64 0),(.int .i64 0),(.int .i64 0),(.int .i64 0),(.int .i64 0),(.int .i64 0),(.int .i64 0),(.bool false)] [(0,(.agg [(.int .i64 y0),(.int .i64 y1),(.int .i64 y2),(.int .i64 y3),(.int .i64 y4),(.int .i64 y5),(.int .i64 y6),(.bool y7)])),(1,(.agg [(.int .i64 y8),(.int .i64 y9),(.int .i64 y10),(.int .i64 y11),(.int .i64 y12),(.int .i64 y13),(.int .i64 y14),(.bool y15)])),(2,(.agg [(.int .i64 y16),(.int .i64 y17),(.int .i64 y18),(.int .i64 y19),(.int .i64 y20),(.int .i64 y21),(.int .i64 y22),(.bool y23)])),(3,(.agg [(.int .i64 y24),(.int .i64 y25),(.int .i64 y26),(.int .i64 y27),(.int .i64 y28),(.int .i64 y29),(.int .i64 y30),(.bool y31)])),(4,(.agg [(.int .i64 y32),(.int .i64 y33),(.int .i64 y34),(.int .i64 y35),(.int .i64 y36),(.int .i64 y37),(.int .i64 y38),(.bool y39)])),(5,(.agg [(.int .i64 y40),(.int .i64 y41),(.int .i64 y42),(.int .i64 y43),(.int .i64 y44),(.int .i64 y45),(.int .i64 y46),(.bool y47)])),(6,(.agg [(.int .i64 y48),(.int .i64 y49),(.int .i64 y50),(.int .i64 y51),(.int .i64 y52),(.int .i64 y53),(.int .i64 y54),(.bool y55)]))] h=some (.slice (Rw Ins.cells [(⟨y0,y1,y2,y3,y4,y5,y6,y7⟩:Ins),(⟨y8,y9,y10,y11,y12,y13,y14,y15⟩:Ins),(⟨y16,y17,y18,y19,y20,y21,y22,y23⟩:Ins),(⟨y24,y25,y26,y27,y28,y29,y30,y31⟩:Ins),(⟨y32,y33,y34,y35,y36,y37,y38,y39⟩:Ins),(⟨y40,y41,y42,y43,y44,y45,y46,y47⟩:Ins),(⟨y48,y49,y50,y51,y52,y53,y54,y55⟩:Ins)]) (.own h.length),h++[oR 8 7]):=by
 rfl
def amF (K:mA) (h0:lT):Option (nT×lT) :=
 ((fun(aL:lS) (aA:lT)=>ca (K 146 [(lS.l_ (.int .i64 13)),(lS.l_ (.int .i64 4)),(lS.l_ (.int .i64 0)),(lS.l_ (.int .i64 1))] aA) fun aH aB=>(mV [(.int .i64 0),(.int .i64 0),(.int .i64 0),(.int .i64 0),(.int .i64 0),(.int .i64 0),(.int .i64 0),(.bool false)] [(0,1),(1,1),(2,1),(3,1),(4,1),(5,1),(6,1),(7,1)] [(0,(.int .i64 3)),(1,(.int .i64 5))]).bind fun aI=>ca (K 146 [(lS.l_ (.int .i64 15)),(lS.l_ (.int .i64 6)),(lS.l_ (.int .i64 5)),(lS.l_ (.int .i64 4))] aB) fun t26 aC=>ca (K 146 [(lS.l_ (.int .i64 12)),(lS.l_ (.int .i64 2)),(lS.l_ (.int .i64 4)),(lS.l_ (.int .i64 6))] aC) fun t29 aD=>ca (K 142 [(lS.l_ (.int .i64 6)),(lS.l_ (.int .i64 4)),(lS.l_ (.int .i64 2)),(lS.l_ (.int .i64 31))] aD) fun t32 aE=>(mV [(.int .i64 0),(.int .i64 0),(.int .i64 0),(.int .i64 0),(.int .i64 0),(.int .i64 0),(.int .i64 0),(.bool false)] [(0,1),(1,1),(2,1),(3,1),(4,1),(5,1),(6,1),(7,1)] [(0,(.int .i64 3)),(1,(.int .i64 5)),(5,(.int .i64 1))]).bind fun aJ=>ca (K 146 [(lS.l_ (.int .i64 15)),(lS.l_ (.int .i64 3)),(lS.l_ (.int .i64 4)),(lS.l_ (.int .i64 5))] aE) fun t36 aF=>mC (mD 7 8 [(.int .i64 0),(.int .i64 0),(.int .i64 0),(.int .i64 0),(.int .i64 0),(.int .i64 0),(.int .i64 0),(.bool false)] [(0,aH),(1,aI),(2,t26),(3,t29),(4,t32),(5,aJ),(6,t36)] aF) fun aK aG=>some (.ret,[aK],aG)) (.slice (Rw Ins.cells []) (.own (aa5 h0))) (h0++[.front 0 0])).bind (XR (aa5 h0))
theorem adY (K:mA) (h0:lT):p9 Tryz.prog nM nL K 144 [] h0=amF (mW nM K) h0:=by kernel_rfl
def t144:Option ((List Ins)) :=
 tb ((t146 13 4 0 1)) fun yE=>tb ((t146 15 6 5 4)) fun Bd=>tb ((t146 12 2 4 6)) fun Bk=>tb ((t142 6 4 2 31)) fun aA=>tb ((t146 15 3 4 5)) fun aB=>some [yE,(⟨3,5,0,0,0,0,0,false⟩:Ins),Bd,Bk,aA,(⟨3,5,0,0,0,1,0,false⟩:Ins),aB]
theorem aAh:amF KK  []=tm (t144 ) fun r=>(.ret (.slice (Rw Ins.cells r) .no),[]):=by
 simp [-l9,-lV,-lU,-lW,-lZ,-lY,-lX,amF,t144,El,I4,ab3,XR]
theorem BO (h:lT):KK 144 [] h=tm (t144 ) fun r=>(.ret (.slice (Rw Ins.cells r) .no),h):=oE rfl rfl (adY ..) (aAh )
def XT (mm:Nat) (aB:R):Option (nT×lT) :=
 (fun aA aC=>Ex.oA aB.1 (nZ mm aA aC)) (gd aB.2.1 0) aB.2.2
theorem ab4 (y0:Int) (y1:Int) (y2:Int) (y3:Int) (y4:Int) (y5:Int) (y6:Int) (y7:Bool) (y8:Int) (y9:Int) (y10:Int) (y11:Int) (y12:Int) (y13:Int) (y14:Int) (y15:Bool) (y16:Int) (y17:Int) (y18:Int) (y19:Int) (y20:Int) (y21:Int) (y22:Int) (y23:Bool) (y24:Int) (y25:Int) (y26:Int) (y27:Int) (y28:Int) (y29:Int) (y30:Int) (y31:Bool) (y32:Int) (y33:Int) (y34:Int) (y35:Int) (y36:Int) (y37:Int) (y38:Int) (y39:Bool) (y40:Int) (y41:Int) (y42:Int) (y43:Int) (y44:Int) (y45:Int) (y46:Int) (y47:Bool) (h:lT):mD 6 8 [(.int .i64 0),(.int .i64 0),(.int .i64 0),(.int .i64 0),(.int .i64 0),(.int .i64 0),(.int .i64 0),(.bool false)] [(0,(.agg [(.int .i64 y0),(.int .i64 y1),(.int .i64 y2),(.int .i64 y3),(.int .i64 y4),(.int .i64 y5),(.int .i64 y6),(.bool y7)])),(1,(.agg [(.int .i64 y8),(.int .i64 y9),(.int .i64 y10),(.int .i64 y11),(.int .i64 y12),(.int .i64 y13),(.int .i64 y14),(.bool y15)])),(2,(.agg [(.int .i64 y16),(.int .i64 y17),(.int .i64 y18),(.int .i64 y19),(.int .i64 y20),(.int .i64 y21),(.int .i64 y22),(.bool y23)])),(3,(.agg [(.int .i64 y24),(.int .i64 y25),(.int .i64 y26),(.int .i64 y27),(.int .i64 y28),(.int .i64 y29),(.int .i64 y30),(.bool y31)])),(4,(.agg [(.int .i64 y32),(.int .i64 y33),(.int .i64 y34),(.int .i64 y35),(.int .i64 y36),(.int .i64 y37),(.int .i64 y38),(.bool y39)])),(5,(.agg [(.int .i64 y40),(.int .i64 y41),(.int .i64 y42),(.int .i64 y43),(.int .i64 y44),(.int .i64 y45),(.int .i64 y46),(.bool y47)]))] h=some (.slice (Rw Ins.cells [(⟨y0,y1,y2,y3,y4,y5,y6,y7⟩:Ins),(⟨y8,y9,y10,y11,y12,y13,y14,y15⟩:Ins),(⟨y16,y17,y18,y19,y20,y21,y22,y23⟩:Ins),(⟨y24,y25,y26,y27,y28,y29,y30,y31⟩:Ins),(⟨y32,y33,y34,y35,y36,y37,y38,y39⟩:Ins),(⟨y40,y41,y42,y43,y44,y45,y46,y47⟩:Ins)]) (.own h.length),h++[oR 8 6]):=by
 rfl
def amG (K:mA) (h0:lT):Option (nT×lT) :=
 ((fun(aN:lS) (aA:lT)=>ca (K 146 [(lS.l_ (.int .i64 10)),(lS.l_ (.int .i64 4)),(lS.l_ (.int .i64 0)),(lS.l_ (.int .i64 1))] aA) fun aI aB=>ca (K 146 [(lS.l_ (.int .i64 14)),(lS.l_ (.int .i64 5)),(lS.l_ (.int .i64 0)),(lS.l_ (.int .i64 1))] aB) fun aJ aC=>ca (K 146 [(lS.l_ (.int .i64 12)),(lS.l_ (.int .i64 6)),(lS.l_ (.int .i64 0)),(lS.l_ (.int .i64 1))] aC) fun t28 aD=>ca (K 146 [(lS.l_ (.int .i64 11)),(lS.l_ (.int .i64 2)),(lS.l_ (.int .i64 6)),(lS.l_ (.int .i64 5))] aD) fun t31 aE=>ca (K 146 [(lS.l_ (.int .i64 12)),(lS.l_ (.int .i64 6)),(lS.l_ (.int .i64 4)),(lS.l_ (.int .i64 2))] aE) fun aK aF=>ca (K 142 [(lS.l_ (.int .i64 6)),(lS.l_ (.int .i64 3)),(lS.l_ (.int .i64 6)),(lS.l_ (.int .i64 31))] aF) fun aL aG=>mC (mD 6 8 [(.int .i64 0),(.int .i64 0),(.int .i64 0),(.int .i64 0),(.int .i64 0),(.int .i64 0),(.int .i64 0),(.bool false)] [(0,aI),(1,aJ),(2,t28),(3,t31),(4,aK),(5,aL)] aG) fun aM aH=>some (.ret,[aM],aH)) (.slice (Rw Ins.cells []) (.own (aa5 h0))) (h0++[.front 0 0])).bind (XT (aa5 h0))
theorem adZ (K:mA) (h0:lT):p9 Tryz.prog nM nL K 145 [] h0=amG (mW nM K) h0:=by kernel_rfl
def t145:Option ((List Ins)) :=
 tb ((t146 10 4 0 1)) fun yE=>tb ((t146 14 5 0 1)) fun aA=>tb ((t146 12 6 0 1)) fun AM=>tb ((t146 11 2 6 5)) fun aB=>tb ((t146 12 6 4 2)) fun Pz=>tb ((t142 6 3 6 31)) fun aC=>some [yE,aA,AM,aB,Pz,aC]
theorem aAi:amG KK  []=tm (t145 ) fun r=>(.ret (.slice (Rw Ins.cells r) .no),[]):=by
 simp [-l9,-lV,-lU,-lW,-lZ,-lY,-lX,amG,t145,El,I4,ab4,XT]
theorem aBG (h:lT):KK 145 [] h=tm (t145 ) fun r=>(.ret (.slice (Rw Ins.cells r) .no),h):=oE rfl rfl (adZ ..) (aAi )
def XV (mm:Nat) (aA:R):Option (nT×lT) :=
 (fun aB aC=>Ex.oA aA.1 (nZ mm aB aC)) (gd aA.2.1 0) aA.2.2
def MW (K:mA) (m:Nat) (t31:lS) (aB:lS) (aC:lS) (aD:lS) (t26:lS) (aA:lT):Option R :=
 mH t31 (mK m .normal [aB,aC,aD,(.int .i64 2),t26] aA) (mK m .normal [aB,aC,aD,(.int .i64 0),t26] aA)
def EJ (aA:Bool):Option (Int) :=
 tc aA (some 2) (some 0)
theorem ae9 (w32:Bool) (Bd:Int) (p0:Op) (p1:oW):(MW KK 3 (.bool w32) (.ptr 0 0) (.ptr 1 0) (.slice (Rw Ins.cells []) (.own 2)) (.int .i64 Bd) ([.cells [(.int .i64 p0.kind),(.int .i64 p0.dst),(.int .i64 p0.a),(.int .i64 p0.b),(.int .i64 p0.c),(.int .i64 p0.imm)],.cells [(.int .i64 p1.elem),(.int .i64 p1.off),(.bool p1.inp)],.front 0 0]:lT))=tm (EJ w32) fun r=>(.normal,[(.ptr 0 0),(.ptr 1 0),(.slice (Rw Ins.cells []) (.own 2)),(.int .i64 r),(.int .i64 Bd)],([.cells [(.int .i64 p0.kind),(.int .i64 p0.dst),(.int .i64 p0.a),(.int .i64 p0.b),(.int .i64 p0.c),(.int .i64 p0.imm)],.cells [(.int .i64 p1.elem),(.int .i64 p1.off),(.bool p1.inp)],.front 0 0]:lT)):=by
 cases w32 <;> simp [-l9,-lV,-lU,-lW,-lZ,-lY,-lX,MW,EJ]
def MX (K:mA) (m:Nat) (aG:lS) (aA:lS) (aB:lS) (aC:lS) (aD:lS) (aF:lT) (aE:lS):Option R :=
 mH aG (mK m .normal [aA,aB,aC,aD,(.int .i64 536936448)] aF) (mK m .normal [aA,aB,aC,aD,aE] aF)
def EK (p1:oW) (Bd:Int):Option (Int) :=
 tc p1.inp (some 536936448) (some Bd)
theorem afA (p1:oW) (r33:Int) (p0:Op) (Bd:Int):(MX KK 3 (.bool p1.inp) (.ptr 0 0) (.ptr 1 0) (.slice (Rw Ins.cells []) (.own 2)) (.int .i64 r33) ([.cells [(.int .i64 p0.kind),(.int .i64 p0.dst),(.int .i64 p0.a),(.int .i64 p0.b),(.int .i64 p0.c),(.int .i64 p0.imm)],.cells [(.int .i64 p1.elem),(.int .i64 p1.off),(.bool p1.inp)],.front 0 0]:lT) (.int .i64 Bd))=tm (EK p1 Bd) fun r=>(.normal,[(.ptr 0 0),(.ptr 1 0),(.slice (Rw Ins.cells []) (.own 2)),(.int .i64 r33),(.int .i64 r)],([.cells [(.int .i64 p0.kind),(.int .i64 p0.dst),(.int .i64 p0.a),(.int .i64 p0.b),(.int .i64 p0.c),(.int .i64 p0.imm)],.cells [(.int .i64 p1.elem),(.int .i64 p1.off),(.bool p1.inp)],.front 0 0]:lT)):=by
 simp [-l9,-lV,-lU,-lW,-lZ,-lY,-lX,MX,EK]
theorem ab5 (y0:Int) (y1:Int) (y2:Int) (y3:Int) (y4:Int) (y5:Int) (y6:Int) (y7:Bool) (y8:Int) (y9:Int) (y10:Int) (y11:Int) (y12:Int) (y13:Int) (y14:Int) (y15:Bool) (y16:Int) (y17:Int) (y18:Int) (y19:Int) (y20:Int) (y21:Int) (y22:Int) (y23:Bool) (y24:Int) (y25:Int) (y26:Int) (y27:Int) (y28:Int) (y29:Int) (y30:Int) (y31:Bool) (y32:Int) (y33:Int) (y34:Int) (y35:Int) (y36:Int) (y37:Int) (y38:Int) (y39:Bool) (y40:Int) (y41:Int) (y42:Int) (y43:Int) (y44:Int) (y45:Int) (y46:Int) (y47:Bool) (h:lT):mD 6 8 [(.int .i64 0),(.int .i64 0),(.int .i64 0),(.int .i64 0),(.int .i64 0),(.int .i64 0),(.int .i64 0),(.bool false)] [(0,(.agg [(.int .i64 y0),(.int .i64 y1),(.int .i64 y2),(.int .i64 y3),(.int .i64 y4),(.int .i64 y5),(.int .i64 y6),(.bool y7)])),(1,(.agg [(.int .i64 y8),(.int .i64 y9),(.int .i64 y10),(.int .i64 y11),(.int .i64 y12),(.int .i64 y13),(.int .i64 y14),(.bool y15)])),(2,(.agg [(.int .i64 y16),(.int .i64 y17),(.int .i64 y18),(.int .i64 y19),(.int .i64 y20),(.int .i64 y21),(.int .i64 y22),(.bool y23)])),(3,(.agg [(.int .i64 y24),(.int .i64 y25),(.int .i64 y26),(.int .i64 y27),(.int .i64 y28),(.int .i64 y29),(.int .i64 y30),(.bool y31)])),(4,(.agg [(.int .i64 y32),(.int .i64 y33),(.int .i64 y34),(.int .i64 y35),(.int .i64 y36),(.int .i64 y37),(.int .i64 y38),(.bool y39)])),(5,(.agg [(.int .i64 y40),(.int .i64 y41),(.int .i64 y42),(.int .i64 y43),(.int .i64 y44),(.int .i64 y45),(.int .i64 y46),(.bool y47)]))] h=some (.slice (Rw Ins.cells [(⟨y0,y1,y2,y3,y4,y5,y6,y7⟩:Ins),(⟨y8,y9,y10,y11,y12,y13,y14,y15⟩:Ins),(⟨y16,y17,y18,y19,y20,y21,y22,y23⟩:Ins),(⟨y24,y25,y26,y27,y28,y29,y30,y31⟩:Ins),(⟨y32,y33,y34,y35,y36,y37,y38,y39⟩:Ins),(⟨y40,y41,y42,y43,y44,y45,y46,y47⟩:Ins)]) (.own h.length),h++[oR 8 6]):=by
 rfl
def MY (K:mA) (m:Nat) (aG:lS) (aD:lT) (aC:lS) (aA:lS) (aB:lS) (aE:lS):Option R :=
 mH aG ((mV [(.int .i64 0),(.int .i64 0),(.int .i64 0),(.int .i64 0),(.int .i64 0),(.int .i64 0),(.int .i64 0),(.bool false)] [(0,1),(1,1),(2,1),(3,1),(4,1),(5,1),(6,1),(7,1)] [(0,(.int .i64 20)),(1,(.int .i64 1)),(2,(.int .i64 5))]).bind fun aH=>(mL 8 aD aC aH).bind fun aF=>mK m .normal [aA,aB,aE,aC] aF) (mK m .normal [aA,aB,aE,aC] aD)
def EL (aA:Bool):Option (Ins) :=
 tc aA (some (⟨20,1,5,0,0,0,0,false⟩:Ins)) (some (⟨19,3,5,0,0,0,0,false⟩:Ins))
theorem afB (w73:Bool) (p0:Op) (p1:oW) (n72:Nat) (w72:(List Ins)):(MY KK 5 (.bool w73) ([.cells [(.int .i64 p0.kind),(.int .i64 p0.dst),(.int .i64 p0.a),(.int .i64 p0.b),(.int .i64 p0.c),(.int .i64 p0.imm)],.cells [(.int .i64 p1.elem),(.int .i64 p1.off),(.bool p1.inp)],.front 0 0,oR 8 n72,.cells [(.int .i64 19),(.int .i64 3),(.int .i64 5),(.int .i64 0),(.int .i64 0),(.int .i64 0),(.int .i64 0),(.bool false)]]:lT) (.ptr 4 0) (.ptr 1 0) (.slice (Rw Ins.cells []) (.own 2)) (.slice (Rw Ins.cells w72) (.own 3)))=tm (EL w73) fun r=>(.normal,[(.ptr 1 0),(.slice (Rw Ins.cells []) (.own 2)),(.slice (Rw Ins.cells w72) (.own 3)),(.ptr 4 0)],([.cells [(.int .i64 p0.kind),(.int .i64 p0.dst),(.int .i64 p0.a),(.int .i64 p0.b),(.int .i64 p0.c),(.int .i64 p0.imm)],.cells [(.int .i64 p1.elem),(.int .i64 p1.off),(.bool p1.inp)],.front 0 0,oR 8 n72,.cells [(.int .i64 r.op),(.int .i64 r.rd),(.int .i64 r.rn),(.int .i64 r.rm),(.int .i64 r.ra),(.int .i64 r.imm),(.int .i64 r.cond),(.bool r.wide)]]:lT)):=by
 cases w73 <;> simp [-l9,-lV,-lU,-lW,-lZ,-lY,-lX,MY,EL]
def MZ (K:mA) (m:Nat) (aF:lS) (aA:lS) (aD:lT) (aB:lS) (aC:lS):Option R :=
 mH aF (fa 0 aA fun aG=>ld false 1 aD aG fun aH=>bo .add aH (.int .i64 2) fun aI=>fa 0 aA fun aJ=>(mL 1 aD aJ aI).bind fun aE=>mK m .normal [aB,aC,aA] aE) (mK m .normal [aB,aC,aA] aD)
def EM (aB:Bool) (aA:Ins):Option (Ins) :=
 tc aB (some (⟨(IntKind.wrap .i64 (aA.op+2)),aA.rd,aA.rn,aA.rm,aA.ra,aA.imm,aA.cond,aA.wide⟩:Ins)) (some aA)
theorem afC (w86:Bool) (p0:Op) (p1:oW) (n85:Nat) (w85:(List Ins)) (r76:Ins):(MZ KK 5 (.bool w86) (.ptr 4 0) ([.cells [(.int .i64 p0.kind),(.int .i64 p0.dst),(.int .i64 p0.a),(.int .i64 p0.b),(.int .i64 p0.c),(.int .i64 p0.imm)],.cells [(.int .i64 p1.elem),(.int .i64 p1.off),(.bool p1.inp)],.front 0 0,oR 8 n85,.cells [(.int .i64 r76.op),(.int .i64 r76.rd),(.int .i64 r76.rn),(.int .i64 r76.rm),(.int .i64 r76.ra),(.int .i64 r76.imm),(.int .i64 r76.cond),(.bool r76.wide)]]:lT) (.slice (Rw Ins.cells []) (.own 2)) (.slice (Rw Ins.cells w85) (.own 3)))=tm (EM w86 r76) fun r=>(.normal,[(.slice (Rw Ins.cells []) (.own 2)),(.slice (Rw Ins.cells w85) (.own 3)),(.ptr 4 0)],([.cells [(.int .i64 p0.kind),(.int .i64 p0.dst),(.int .i64 p0.a),(.int .i64 p0.b),(.int .i64 p0.c),(.int .i64 p0.imm)],.cells [(.int .i64 p1.elem),(.int .i64 p1.off),(.bool p1.inp)],.front 0 0,oR 8 n85,.cells [(.int .i64 r.op),(.int .i64 r.rd),(.int .i64 r.rn),(.int .i64 r.rm),(.int .i64 r.ra),(.int .i64 r.imm),(.int .i64 r.cond),(.bool r.wide)]]:lT)):=by
 cases w86 <;> simp [-l9,-lV,-lU,-lW,-lZ,-lY,-lX,MZ,EM]
theorem ab6 (y0:Int) (y1:Int) (y2:Int) (y3:Int) (y4:Int) (y5:Int) (y6:Int) (y7:Bool) (h:lT):mD 1 8 [(.int .i64 0),(.int .i64 0),(.int .i64 0),(.int .i64 0),(.int .i64 0),(.int .i64 0),(.int .i64 0),(.bool false)] [(0,(.agg [(.int .i64 y0),(.int .i64 y1),(.int .i64 y2),(.int .i64 y3),(.int .i64 y4),(.int .i64 y5),(.int .i64 y6),(.bool y7)]))] h=some (.slice (Rw Ins.cells [(⟨y0,y1,y2,y3,y4,y5,y6,y7⟩:Ins)]) (.own h.length),h++[oR 8 1]):=by
 rfl
def amI (K:mA) (a0 a1 a2:lS) (h0:lT):Option (nT×lT) :=
 (mC (nP 6 h0 a0) fun bO bI=>mC (nP 3 bI a1) fun bF bC=>(fun(bP:lS) (bJ:lT)=>ca (K 135 [(lS.l_ a2)] bJ) fun t26 aX=>fa 0 bF fun t29=>ld false 1 aX t29 fun t30=>bo .eql t30 (.int .i64 4) fun t31=>(MW K (aa5 aX) t31 bO bF bP t26 aX).bind fun aC=>(fun aJ aA aM aP aR aY=>Ex.rQ aC.1 (fa 2 aA fun bQ=>ld false 1 aY bQ fun bR=>(MX K (aa5 aY) bR aJ aA aM aP aY aR).bind fun aD=>(fun aK aB aN aQ aS aV=>Ex.rQ aD.1 (fa 1 aB fun aH=>ld false 1 aV aH fun bS=>(mV [(.int .i64 0),(.int .i64 0),(.int .i64 0),(.int .i64 0),(.int .i64 0),(.int .i64 0),(.int .i64 0),(.bool false)] [(0,1),(1,1),(2,1),(3,1),(4,1),(5,1),(6,1),(7,1)] [(0,(.int .i64 3)),(1,(.int .i64 5)),(5,bS)]).bind fun bT=>(mV [(.int .i64 0),(.int .i64 0),(.int .i64 0),(.int .i64 0),(.int .i64 0),(.int .i64 0),(.int .i64 0),(.bool false)] [(0,1),(1,1),(2,1),(3,1),(4,1),(5,1),(6,1),(7,1)] [(0,(.int .i64 3)),(1,(.int .i64 5))]).bind fun bU=>bo .shr aS (.int .u64 16) fun t53=>(mV [(.int .i64 0),(.int .i64 0),(.int .i64 0),(.int .i64 0),(.int .i64 0),(.int .i64 0),(.int .i64 0),(.bool false)] [(0,1),(1,1),(2,1),(3,1),(4,1),(5,1),(6,1),(7,1)] [(0,(.int .i64 4)),(1,(.int .i64 5)),(5,t53)]).bind fun bV=>(mV [(.int .i64 0),(.int .i64 0),(.int .i64 0),(.int .i64 0),(.int .i64 0),(.int .i64 0),(.int .i64 0),(.bool false)] [(0,1),(1,1),(2,1),(3,1),(4,1),(5,1),(6,1),(7,1)] [(0,(.int .i64 18)),(1,(.int .i64 5)),(2,(.int .i64 6)),(4,(.int .i64 16))]).bind fun bW=>ca (K 142 [(lS.l_ (.int .i64 5)),(lS.l_ (.int .i64 4)),(lS.l_ (.int .i64 0)),(lS.l_ aQ)] (rZ (mX [0] [aH]) aV)) fun bX bD=>ca (K 146 [(lS.l_ (.int .i64 14)),(lS.l_ (.int .i64 6)),(lS.l_ (.int .i64 4)),(lS.l_ (.int .i64 5))] (rZ (mX [0] [aH]) (oD (mX [0] [aH]) aV bD))) fun t60 bK=>mC (mD 6 8 [(.int .i64 0),(.int .i64 0),(.int .i64 0),(.int .i64 0),(.int .i64 0),(.int .i64 0),(.int .i64 0),(.bool false)] [(0,bX),(1,bT),(2,t60),(3,bU),(4,bV),(5,bW)] (oD (mX [0] [aH]) (oD (mX [0] [aH]) aV bD) bK)) fun bY bL=>(mV [(.int .i64 0),(.int .i64 0),(.int .i64 0),(.int .i64 0),(.int .i64 0),(.int .i64 0),(.int .i64 0),(.bool false)] [(0,1),(1,1),(2,1),(3,1),(4,1),(5,1),(6,1),(7,1)] [(0,(.int .i64 19)),(1,(.int .i64 3)),(2,(.int .i64 5))]).bind fun bZ=>mC (nP 8 bL (.agg [(.int .i64 0),(.int .i64 0),(.int .i64 0),(.int .i64 0),(.int .i64 0),(.int .i64 0),(.int .i64 0),(.bool false)])) fun bG bM=>(mL 8 bM bG bZ).bind fun aZ=>fa 0 aK fun b_=>ld false 1 aZ b_ fun t70=>bo .eql t70 (.int .i64 19) fun cA=>(MY K (aa5 aZ) cA aZ bG aB aN bY).bind fun aG=>(fun aL aO aT aE a_=>Ex.rQ aG.1 (fa 0 aL fun cB=>ld false 1 a_ cB fun cC=>bo .eql cC (.int .i64 1) fun cD=>(MZ K (aa5 a_) cD aE a_ aO aT).bind fun aI=>(fun bH aU aF bE=>Ex.rQ aI.1 (ld true 8 bE aF fun cE=>mC (mD 1 8 [(.int .i64 0),(.int .i64 0),(.int .i64 0),(.int .i64 0),(.int .i64 0),(.int .i64 0),(.int .i64 0),(.bool false)] [(0,cE)] bE) fun cF bN=>mC (nD 8 64 bN aU cF) fun bB aW=>some (.ret,[bB],aW))) (gd aI.2.1 0) (gd aI.2.1 1) (gd aI.2.1 2) aI.2.2)) (gd aG.2.1 0) (gd aG.2.1 1) (gd aG.2.1 2) (gd aG.2.1 3) aG.2.2)) (gd aD.2.1 0) (gd aD.2.1 1) (gd aD.2.1 2) (gd aD.2.1 3) (gd aD.2.1 4) aD.2.2)) (gd aC.2.1 0) (gd aC.2.1 1) (gd aC.2.1 2) (gd aC.2.1 3) (gd aC.2.1 4) aC.2.2) (.slice (Rw Ins.cells []) (.own (aa5 bC))) (bC++[.front 0 0])).bind (XV (aa5 h0))
theorem ad1 (K:mA) (a0 a1 a2:lS) (h0:lT):p9 Tryz.prog nM nL K 147 [a0,a1,a2] h0=amI (mW nM K) a0 a1 a2 h0:=by kernel_rfl
def t147 (p0:Op) (p1:oW) (p2:Int):Option ((List Ins)) :=
 tb ((t135 p2)) fun Bd=>tb (EJ (decide (p1.elem=4))) fun aC=>tb (EK p1 Bd) fun aD=>tb ((Tb .i64 aD 16)) fun aB=>tb ((t142 5 4 0 aC)) fun aE=>tb ((t146 14 6 4 5)) fun aF=>tb (EL (decide (p0.kind=19))) fun aG=>tb (EM (decide (p1.elem=1)) aG) fun aH=>tb ((pD 64 [aE,(⟨3,5,0,0,0,p1.off,0,false⟩:Ins),aF,(⟨3,5,0,0,0,0,0,false⟩:Ins),(⟨4,5,0,0,0,aB,0,false⟩:Ins),(⟨18,5,6,0,16,0,0,false⟩:Ins)] [aH])) fun aA=>some aA
theorem aAk (p0:Op) (p1:oW) (p2:Int):amI KK (.agg [(.int .i64 p0.kind),(.int .i64 p0.dst),(.int .i64 p0.a),(.int .i64 p0.b),(.int .i64 p0.c),(.int .i64 p0.imm)]) (.agg [(.int .i64 p1.elem),(.int .i64 p1.off),(.bool p1.inp)]) (.int .i64 p2) []=tm (t147 p0 p1 p2) fun r=>(.ret (.slice (Rw Ins.cells r) .no),[]):=by
 simp [-l9,-lV,-lU,-lW,-lZ,-lY,-lX,amI,t147,Dr,ae9,afA,I4,El,ab5,afB,afC,ab6,XV]
theorem Bj (p0:Op) (p1:oW) (p2:Int) (h:lT):KK 147 [(.agg [(.int .i64 p0.kind),(.int .i64 p0.dst),(.int .i64 p0.a),(.int .i64 p0.b),(.int .i64 p0.c),(.int .i64 p0.imm)]),(.agg [(.int .i64 p1.elem),(.int .i64 p1.off),(.bool p1.inp)]),(.int .i64 p2)] h=tm (t147 p0 p1 p2) fun r=>(.ret (.slice (Rw Ins.cells r) .no),h):=oE rfl rfl (ad1 ..) (aAk p0 p1 p2)
def XW (mm:Nat) (EW:R):Option (nT×lT) :=
 (fun aA aB=>Ex.oA EW.1 (nZ mm aA aB)) (gd EW.2.1 0) EW.2.2
def amJ (K:mA) (a0:lS) (h0:lT):Option (nT×lT) :=
 (bo .eql a0 (.int .i64 3) fun aA=>mH aA (some (.ret,[(.int .i64 14)],h0)) (bo .eql a0 (.int .i64 4) fun aB=>mH aB (some (.ret,[(.int .i64 15)],h0)) (bo .eql a0 (.int .i64 5) fun aC=>mH aC (some (.ret,[(.int .i64 16)],h0)) (bo .eql a0 (.int .i64 7) fun t23=>mH t23 (some (.ret,[(.int .i64 10)],h0)) (bo .eql a0 (.int .i64 8) fun t24=>mH t24 (some (.ret,[(.int .i64 12)],h0)) (bo .eql a0 (.int .i64 9) fun aD=>mH aD (some (.ret,[(.int .i64 13)],h0)) (some (.ret,[(.int .i64 0)],h0)))))))).bind (XW (aa5 h0))
theorem ad2 (K:mA) (a0:lS) (h0:lT):p9 Tryz.prog nM nL K 148 [a0] h0=amJ (mW nM K) a0 h0:=by kernel_rfl
def t148 (p0:Int):Option (Int) :=
 tc (decide (p0=3)) (some 14) (tc (decide (p0=4)) (some 15) (tc (decide (p0=5)) (some 16) (tc (decide (p0=7)) (some 10) (tc (decide (p0=8)) (some 12) (tc (decide (p0=9)) (some 13) (some 0))))))
theorem aAl (p0:Int):amJ KK (.int .i64 p0) []=tm (t148 p0) fun r=>(.ret (.int .i64 r),[]):=by
 simp [-l9,-lV,-lU,-lW,-lZ,-lY,-lX,amJ,t148,XW]
theorem afD (p0:Int) (h:lT):KK 148 [(.int .i64 p0)] h=tm (t148 p0) fun r=>(.ret (.int .i64 r),h):=oE rfl rfl (ad2 ..) (aAl p0)
def XN (mm:Nat) (sK:R):Option (nT×lT) :=
 (fun aA aB=>Ex.oA sK.1 (nZ mm aA aB)) (gd sK.2.1 0) sK.2.2
theorem abT (y0:Int) (y1:Int) (y2:Int) (y3:Int) (y4:Int) (y5:Int) (y6:Int) (y7:Bool) (h:lT):mD 1 8 [(.int .i64 0),(.int .i64 0),(.int .i64 0),(.int .i64 0),(.int .i64 0),(.int .i64 0),(.int .i64 0),(.bool false)] [(0,(.agg [(.int .i64 y0),(.int .i64 y1),(.int .i64 y2),(.int .i64 y3),(.int .i64 y4),(.int .i64 y5),(.int .i64 y6),(.bool y7)]))] h=some (.slice (Rw Ins.cells [(⟨y0,y1,y2,y3,y4,y5,y6,y7⟩:Ins)]) (.own h.length),h++[oR 8 1]):=by
 rfl
theorem abU (y0:Int) (y1:Int) (y2:Int) (y3:Int) (y4:Int) (y5:Int) (y6:Int) (y7:Bool) (h:lT):mD 1 8 [(.int .i64 0),(.int .i64 0),(.int .i64 0),(.int .i64 0),(.int .i64 0),(.int .i64 0),(.int .i64 0),(.bool false)] [(0,(.agg [(.int .i64 y0),(.int .i64 y1),(.int .i64 y2),(.int .i64 y3),(.int .i64 y4),(.int .i64 y5),(.int .i64 y6),(.bool y7)]))] h=some (.slice (Rw Ins.cells [(⟨y0,y1,y2,y3,y4,y5,y6,y7⟩:Ins)]) (.own h.length),h++[oR 8 1]):=by
 rfl
theorem abV (y0:Int) (y1:Int) (y2:Int) (y3:Int) (y4:Int) (y5:Int) (y6:Int) (y7:Bool) (h:lT):mD 1 8 [(.int .i64 0),(.int .i64 0),(.int .i64 0),(.int .i64 0),(.int .i64 0),(.int .i64 0),(.int .i64 0),(.bool false)] [(0,(.agg [(.int .i64 y0),(.int .i64 y1),(.int .i64 y2),(.int .i64 y3),(.int .i64 y4),(.int .i64 y5),(.int .i64 y6),(.bool y7)]))] h=some (.slice (Rw Ins.cells [(⟨y0,y1,y2,y3,y4,y5,y6,y7⟩:Ins)]) (.own h.length),h++[oR 8 1]):=by
 rfl
theorem abW (y0:Int) (y1:Int) (y2:Int) (y3:Int) (y4:Int) (y5:Int) (y6:Int) (y7:Bool) (h:lT):mD 1 8 [(.int .i64 0),(.int .i64 0),(.int .i64 0),(.int .i64 0),(.int .i64 0),(.int .i64 0),(.int .i64 0),(.bool false)] [(0,(.agg [(.int .i64 y0),(.int .i64 y1),(.int .i64 y2),(.int .i64 y3),(.int .i64 y4),(.int .i64 y5),(.int .i64 y6),(.bool y7)]))] h=some (.slice (Rw Ins.cells [(⟨y0,y1,y2,y3,y4,y5,y6,y7⟩:Ins)]) (.own h.length),h++[oR 8 1]):=by
 rfl
theorem abX (y0:Int) (y1:Int) (y2:Int) (y3:Int) (y4:Int) (y5:Int) (y6:Int) (y7:Bool) (h:lT):mD 1 8 [(.int .i64 0),(.int .i64 0),(.int .i64 0),(.int .i64 0),(.int .i64 0),(.int .i64 0),(.int .i64 0),(.bool false)] [(0,(.agg [(.int .i64 y0),(.int .i64 y1),(.int .i64 y2),(.int .i64 y3),(.int .i64 y4),(.int .i64 y5),(.int .i64 y6),(.bool y7)]))] h=some (.slice (Rw Ins.cells [(⟨y0,y1,y2,y3,y4,y5,y6,y7⟩:Ins)]) (.own h.length),h++[oR 8 1]):=by
 rfl
theorem abY (y0:Int) (y1:Int) (y2:Int) (y3:Int) (y4:Int) (y5:Int) (y6:Int) (y7:Bool) (h:lT):mD 1 8 [(.int .i64 0),(.int .i64 0),(.int .i64 0),(.int .i64 0),(.int .i64 0),(.int .i64 0),(.int .i64 0),(.bool false)] [(0,(.agg [(.int .i64 y0),(.int .i64 y1),(.int .i64 y2),(.int .i64 y3),(.int .i64 y4),(.int .i64 y5),(.int .i64 y6),(.bool y7)]))] h=some (.slice (Rw Ins.cells [(⟨y0,y1,y2,y3,y4,y5,y6,y7⟩:Ins)]) (.own h.length),h++[oR 8 1]):=by
 rfl
theorem abZ (y0:Int) (y1:Int) (y2:Int) (y3:Int) (y4:Int) (y5:Int) (y6:Int) (y7:Bool) (y8:Int) (y9:Int) (y10:Int) (y11:Int) (y12:Int) (y13:Int) (y14:Int) (y15:Bool) (y16:Int) (y17:Int) (y18:Int) (y19:Int) (y20:Int) (y21:Int) (y22:Int) (y23:Bool) (h:lT):mD 3 8 [(.int .i64 0),(.int .i64 0),(.int .i64 0),(.int .i64 0),(.int .i64 0),(.int .i64 0),(.int .i64 0),(.bool false)] [(0,(.agg [(.int .i64 y0),(.int .i64 y1),(.int .i64 y2),(.int .i64 y3),(.int .i64 y4),(.int .i64 y5),(.int .i64 y6),(.bool y7)])),(1,(.agg [(.int .i64 y8),(.int .i64 y9),(.int .i64 y10),(.int .i64 y11),(.int .i64 y12),(.int .i64 y13),(.int .i64 y14),(.bool y15)])),(2,(.agg [(.int .i64 y16),(.int .i64 y17),(.int .i64 y18),(.int .i64 y19),(.int .i64 y20),(.int .i64 y21),(.int .i64 y22),(.bool y23)]))] h=some (.slice (Rw Ins.cells [(⟨y0,y1,y2,y3,y4,y5,y6,y7⟩:Ins),(⟨y8,y9,y10,y11,y12,y13,y14,y15⟩:Ins),(⟨y16,y17,y18,y19,y20,y21,y22,y23⟩:Ins)]) (.own h.length),h++[oR 8 3]):=by
 rfl
def MN (K:mA) (m:Nat) (aF:lS) (a2:lS) (aC:lS) (aD:lS) (aE:lS) (aB:lT) (aG:lS):Option R :=
 mH aF (mK m .normal [a2,aC,aD,aE,aF] aB) (bo .eql aG (.int .i64 19) fun aA=>mK m .normal [a2,aC,aD,aE,aA] aB)
def ED (aA:Bool) (p0:Op):Option (Bool) :=
 tc aA (some aA) (some (decide (p0.kind=19)))
theorem ae5 (w108:Bool) (p2:Int) (p0:Op) (p1:oW):(MN KK 3 (.bool w108) (.int .i64 p2) (.ptr 0 0) (.ptr 1 0) (.slice (Rw Ins.cells []) (.own 2)) ([.cells [(.int .i64 p0.kind),(.int .i64 p0.dst),(.int .i64 p0.a),(.int .i64 p0.b),(.int .i64 p0.c),(.int .i64 p0.imm)],.cells [(.int .i64 p1.elem),(.int .i64 p1.off),(.bool p1.inp)],.front 0 0]:lT) (.int .i64 p0.kind))=tm (ED w108 p0) fun r=>(.normal,[(.int .i64 p2),(.ptr 0 0),(.ptr 1 0),(.slice (Rw Ins.cells []) (.own 2)),(.bool r)],([.cells [(.int .i64 p0.kind),(.int .i64 p0.dst),(.int .i64 p0.a),(.int .i64 p0.b),(.int .i64 p0.c),(.int .i64 p0.imm)],.cells [(.int .i64 p1.elem),(.int .i64 p1.off),(.bool p1.inp)],.front 0 0]:lT)):=by
 cases w108 <;> simp [-l9,-lV,-lU,-lW,-lZ,-lY,-lX,MN,ED]
theorem ab0 (y0:Int) (y1:Int) (y2:Int) (y3:Int) (y4:Int) (y5:Int) (y6:Int) (y7:Bool) (h:lT):mD 1 8 [(.int .i64 0),(.int .i64 0),(.int .i64 0),(.int .i64 0),(.int .i64 0),(.int .i64 0),(.int .i64 0),(.bool false)] [(0,(.agg [(.int .i64 y0),(.int .i64 y1),(.int .i64 y2),(.int .i64 y3),(.int .i64 y4),(.int .i64 y5),(.int .i64 y6),(.bool y7)]))] h=some (.slice (Rw Ins.cells [(⟨y0,y1,y2,y3,y4,y5,y6,y7⟩:Ins)]) (.own h.length),h++[oR 8 1]):=by
 rfl
def al8 (K:mA) (a0 a1 a2:lS) (h0:lT):Option (nT×lT) :=
 (mC (nP 6 h0 a0) fun aI aU=>mC (nP 3 aU a1) fun bN aT=>(fun(bO:lS) (aA:lT)=>fa 0 aI fun t26=>ld false 1 aA t26 fun aC=>bo .eql aC (.int .i64 1) fun t28=>mH t28 (fa 5 aI fun t29=>ld false 1 aA t29 fun t30=>ca (K 60 [(lS.l_ (.int .i64 3)),(lS.l_ t30)] aA) fun t31 aV=>some (.ret,[t31],aV)) (bo .eql aC (.int .i64 2) fun bP=>mH bP (ca (K 142 [(lS.l_ (.int .i64 5)),(lS.l_ (.int .i64 3)),(lS.l_ (.int .i64 0)),(lS.l_ (.int .i64 0))] aA) fun bQ aW=>mC (mD 1 8 [(.int .i64 0),(.int .i64 0),(.int .i64 0),(.int .i64 0),(.int .i64 0),(.int .i64 0),(.int .i64 0),(.bool false)] [(0,bQ)] aW) fun bR aX=>some (.ret,[bR],aX)) (bo .eql aC (.int .i64 6) fun bS=>mH bS ((mV [(.int .i64 0),(.int .i64 0),(.int .i64 0),(.int .i64 0),(.int .i64 0),(.int .i64 0),(.int .i64 0),(.bool false)] [(0,1),(1,1),(2,1),(3,1),(4,1),(5,1),(6,1),(7,1)] [(0,(.int .i64 17)),(1,(.int .i64 4)),(4,(.int .i64 3)),(2,(.int .i64 0)),(3,(.int .i64 1))]).bind fun bT=>mC (mD 1 8 [(.int .i64 0),(.int .i64 0),(.int .i64 0),(.int .i64 0),(.int .i64 0),(.int .i64 0),(.int .i64 0),(.bool false)] [(0,bT)] aA) fun bU aY=>some (.ret,[bU],aY)) (bo .eql aC (.int .i64 10) fun bV=>mH bV ((mV [(.int .i64 0),(.int .i64 0),(.int .i64 0),(.int .i64 0),(.int .i64 0),(.int .i64 0),(.int .i64 0),(.bool false)] [(0,1),(1,1),(2,1),(3,1),(4,1),(5,1),(6,1),(7,1)] [(0,(.int .i64 9)),(1,(.int .i64 3)),(3,(.int .i64 0))]).bind fun bW=>mC (mD 1 8 [(.int .i64 0),(.int .i64 0),(.int .i64 0),(.int .i64 0),(.int .i64 0),(.int .i64 0),(.int .i64 0),(.bool false)] [(0,bW)] aA) fun bX aZ=>some (.ret,[bX],aZ)) (bo .eql aC (.int .i64 11) fun bY=>mH bY (fa 5 aI fun bZ=>ld false 1 aA bZ fun b_=>ca (K 142 [(lS.l_ (.int .i64 5)),(lS.l_ (.int .i64 3)),(lS.l_ (.int .i64 0)),(lS.l_ b_)] aA) fun cA a_=>mC (mD 1 8 [(.int .i64 0),(.int .i64 0),(.int .i64 0),(.int .i64 0),(.int .i64 0),(.int .i64 0),(.int .i64 0),(.bool false)] [(0,cA)] a_) fun cB bB=>some (.ret,[cB],bB)) (bo .eql aC (.int .i64 12) fun cC=>mH cC (fa 5 aI fun cD=>ld false 1 aA cD fun cE=>ca (K 142 [(lS.l_ (.int .i64 6)),(lS.l_ (.int .i64 3)),(lS.l_ (.int .i64 0)),(lS.l_ cE)] aA) fun cF bC=>mC (mD 1 8 [(.int .i64 0),(.int .i64 0),(.int .i64 0),(.int .i64 0),(.int .i64 0),(.int .i64 0),(.int .i64 0),(.bool false)] [(0,cF)] bC) fun cG bD=>some (.ret,[cG],bD)) (bo .eql aC (.int .i64 13) fun cH=>mH cH (fa 5 aI fun cI=>ld false 1 aA cI fun cJ=>ca (K 142 [(lS.l_ (.int .i64 8)),(lS.l_ (.int .i64 3)),(lS.l_ (.int .i64 0)),(lS.l_ cJ)] aA) fun cK bE=>mC (mD 1 8 [(.int .i64 0),(.int .i64 0),(.int .i64 0),(.int .i64 0),(.int .i64 0),(.int .i64 0),(.int .i64 0),(.bool false)] [(0,cK)] bE) fun t70 bF=>some (.ret,[t70],bF)) (bo .eql aC (.int .i64 14) fun cL=>mH cL (ca (K 143 [] aA) fun t73 bG=>some (.ret,[t73],bG)) (bo .eql aC (.int .i64 15) fun cM=>mH cM (ca (K 144 [] aA) fun cN bH=>some (.ret,[cN],bH)) (bo .eql aC (.int .i64 16) fun cO=>mH cO (ca (K 145 [] aA) fun cP bI=>some (.ret,[cP],bI)) (bo .eql aC (.int .i64 17) fun cQ=>mH cQ (ca (K 146 [(lS.l_ (.int .i64 10)),(lS.l_ (.int .i64 4)),(lS.l_ (.int .i64 0)),(lS.l_ (.int .i64 2))] aA) fun cR bJ=>ca (K 146 [(lS.l_ (.int .i64 11)),(lS.l_ (.int .i64 5)),(lS.l_ (.int .i64 1)),(lS.l_ (.int .i64 2))] bJ) fun cS bK=>ca (K 146 [(lS.l_ (.int .i64 12)),(lS.l_ (.int .i64 3)),(lS.l_ (.int .i64 4)),(lS.l_ (.int .i64 5))] bK) fun cT bL=>mC (mD 3 8 [(.int .i64 0),(.int .i64 0),(.int .i64 0),(.int .i64 0),(.int .i64 0),(.int .i64 0),(.int .i64 0),(.bool false)] [(0,cR),(1,cS),(2,cT)] bL) fun cU bM=>some (.ret,[cU],bM)) (bo .eql aC (.int .i64 18) fun cV=>(MN K (aa5 aA) cV a2 aI bN bO aA aC).bind fun aB=>(fun aG aE aH aS aF aD=>Ex.rQ aB.1 (mH aF (ld true 6 aD aE fun aN=>ld true 3 aD aH fun aO=>ca (K 147 [(lS.l_ aN),(lS.l_ aO),(lS.l_ aG)] aD) fun aP aJ=>some (.ret,[aP],aJ)) (fa 0 aE fun aQ=>ld false 1 aD aQ fun aR=>ca (K 148 [(lS.l_ aR)] aD) fun t124 aK=>ca (K 146 [(lS.l_ t124),(lS.l_ (.int .i64 3)),(lS.l_ (.int .i64 0)),(lS.l_ (.int .i64 1))] aK) fun t127 aL=>mC (mD 1 8 [(.int .i64 0),(.int .i64 0),(.int .i64 0),(.int .i64 0),(.int .i64 0),(.int .i64 0),(.int .i64 0),(.bool false)] [(0,t127)] aL) fun t130 aM=>some (.ret,[t130],aM)))) (gd aB.2.1 0) (gd aB.2.1 1) (gd aB.2.1 2) (gd aB.2.1 3) (gd aB.2.1 4) aB.2.2)))))))))))) (.slice (Rw Ins.cells []) (.own (aa5 aT))) (aT++[.front 0 0])).bind (XN (aa5 h0))
theorem adS (K:mA) (a0 a1 a2:lS) (h0:lT):p9 Tryz.prog nM nL K 138 [a0,a1,a2] h0=al8 (mW nM K) a0 a1 a2 h0:=by kernel_rfl
def t138 (p0:Op) (p1:oW) (p2:Int):Option ((List Ins)) :=
 tc (decide (p0.kind=1)) (tb ((t60 3 p0.imm)) fun aC=>some aC) (tc (decide (p0.kind=2)) (tb ((t142 5 3 0 0)) fun aD=>some [aD]) (tc (decide (p0.kind=6)) (some [(⟨17,4,0,1,3,0,0,false⟩:Ins)]) (tc (decide (p0.kind=10)) (some [(⟨9,3,0,0,0,0,0,false⟩:Ins)]) (tc (decide (p0.kind=11)) (tb ((t142 5 3 0 p0.imm)) fun NC=>some [NC]) (tc (decide (p0.kind=12)) (tb ((t142 6 3 0 p0.imm)) fun aE=>some [aE]) (tc (decide (p0.kind=13)) (tb ((t142 8 3 0 p0.imm)) fun aF=>some [aF]) (tc (decide (p0.kind=14)) (tb ((t143 )) fun aG=>some aG) (tc (decide (p0.kind=15)) (tb ((t144 )) fun aH=>some aH) (tc (decide (p0.kind=16)) (tb ((t145 )) fun aI=>some aI) (tc (decide (p0.kind=17)) (tb ((t146 10 4 0 2)) fun aJ=>tb ((t146 11 5 1 2)) fun aK=>tb ((t146 12 3 4 5)) fun aL=>some [aJ,aK,aL]) (tb (ED (decide (p0.kind=18)) p0) fun aA=>tc aA (tb ((t147 p0 p1 p2)) fun aB=>some aB) (tb ((t148 p0.kind)) fun aeV=>tb ((t146 aeV 3 0 1)) fun VA=>some [VA]))))))))))))
theorem aAb (p0:Op) (p1:oW) (p2:Int):al8 KK (.agg [(.int .i64 p0.kind),(.int .i64 p0.dst),(.int .i64 p0.a),(.int .i64 p0.b),(.int .i64 p0.c),(.int .i64 p0.imm)]) (.agg [(.int .i64 p1.elem),(.int .i64 p1.off),(.bool p1.inp)]) (.int .i64 p2) []=tm (t138 p0 p1 p2) fun r=>(.ret (.slice (Rw Ins.cells r) .no),[]):=by
 simp -implicitDefEqProofs (maxSteps:=2000000) [-l9,-lV,-lU,-lW,-lZ,-lY,-lX,al8,t138,DE,I4,abT,abU,abV,abW,abX,abY,aBF,BO,aBG,El,abZ,ae5,Bj,afD,ab0,XN]
theorem avX (p0:Op) (p1:oW) (p2:Int) (h:lT):KK 138 [(.agg [(.int .i64 p0.kind),(.int .i64 p0.dst),(.int .i64 p0.a),(.int .i64 p0.b),(.int .i64 p0.c),(.int .i64 p0.imm)]),(.agg [(.int .i64 p1.elem),(.int .i64 p1.off),(.bool p1.inp)]),(.int .i64 p2)] h=tm (t138 p0 p1 p2) fun r=>(.ret (.slice (Rw Ins.cells r) .no),h):=oE rfl rfl (adS ..) (aAb p0 p1 p2)
def XJ (mm:Nat) (aA:R):Option (nT×lT) :=
 (fun aB aC aD=>Ex.oA aA.1 (nZ mm (.tuple [aB,aC]) aD)) (gd aA.2.1 0) (gd aA.2.1 1) aA.2.2
def G4 (K:mA) (m:Nat) (s:List lS×lT):Option R :=
 (fun aD aE aF aG aH aI aB aC aA aJ=>bo .lss aA aC fun aN=>mH aN (ix 1 aB aA fun aO=>ld false 1 aJ aO fun aP=>ca (K 130 [(lS.l_ aP)] aJ) fun aQ aK=>ca (K 129 [(lS.l_ aQ),(lS.l_ aD),(lS.l_ aA)] aK) fun aR aL=>mC (nD 8 64 aL aI aR) fun aS aM=>bo .add aA (.int .i64 1) fun aT=>mK m .normal [aD,aE,aF,aG,aH,aS,aB,aC,aT] aM) (mK m (.exit 0) [aD,aE,aF,aG,aH,aI,aB,aC,aA] aJ)) (gd s.1 0) (gd s.1 1) (gd s.1 2) (gd s.1 3) (gd s.1 4) (gd s.1 5) (gd s.1 6) (gd s.1 7) (gd s.1 8) s.2
def AR (p2:Int) (aC:(List Int)) (aF:Int) (aA:(List Ins)×Int):Option (Ey×(List Ins)×Int) :=
 tc (decide (aA.2<aF)) (tb ((o8 aC aA.2)) fun aE=>tb ((t130 aE)) fun DE=>tb ((t129 DE p2 aA.2)) fun aD=>tb ((pD 64 aA.1 aD)) fun aB=>some (.n,(aB,(IntKind.wrap .i64 (aA.2+1))))) (some ((.x 0),(aA.1,aA.2)))
theorem abB (p2:Int) (r39:(List Int)) (w42:Int) (p0:Op) (p1:oW) (s43:(List Ins)×Int):G4 KK 4 ([(.int .i64 p2),(.ptr 0 0),(.ptr 1 0),(.slice (Rw Ins.cells []) (.own 2)),(.int .i64 0),(.slice (Rw Ins.cells s43.1) (.own 3)),(.slice (Rw (ci .i64) r39) .no),(.int .i64 w42),(.int .i64 s43.2)],([.cells [(.int .i64 p0.kind),(.int .i64 p0.dst),(.int .i64 p0.a),(.int .i64 p0.b),(.int .i64 p0.c),(.int .i64 p0.imm)],.cells [(.int .i64 p1.elem),(.int .i64 p1.off),(.bool p1.inp)],.front 0 0,oR 8 (aa5 s43.1)]:lT))=tm (AR p2 r39 w42 s43) fun r=>(r.1.ex,[(.int .i64 p2),(.ptr 0 0),(.ptr 1 0),(.slice (Rw Ins.cells []) (.own 2)),(.int .i64 0),(.slice (Rw Ins.cells r.2.1) (.own 3)),(.slice (Rw (ci .i64) r39) .no),(.int .i64 w42),(.int .i64 r.2.2)],([.cells [(.int .i64 p0.kind),(.int .i64 p0.dst),(.int .i64 p0.a),(.int .i64 p0.b),(.int .i64 p0.c),(.int .i64 p0.imm)],.cells [(.int .i64 p1.elem),(.int .i64 p1.off),(.bool p1.inp)],.front 0 0,oR 8 (aa5 r.2.1)]:lT)):=by
 simp [-l9,-lV,-lU,-lW,-lZ,-lY,-lX,G4,AR,aeW,VA]
theorem ae0 (p2:Int) (r39:(List Int)) (w42:Int) (p0:Op) (p1:oW) (i6:Int):nL (G4 KK 4) ([(.int .i64 p2),(.ptr 0 0),(.ptr 1 0),(.slice (Rw Ins.cells []) (.own 2)),(.int .i64 0),(.slice (Rw Ins.cells []) (.own 3)),(.slice (Rw (ci .i64) r39) .no),(.int .i64 w42),(.int .i64 i6)],([.cells [(.int .i64 p0.kind),(.int .i64 p0.dst),(.int .i64 p0.a),(.int .i64 p0.b),(.int .i64 p0.c),(.int .i64 p0.imm)],.cells [(.int .i64 p1.elem),(.int .i64 p1.off),(.bool p1.inp)],.front 0 0,.front 0 0]:lT))=tm (sG (AR p2 r39 w42) ([],i6)) fun r=>(r.1.ex,[(.int .i64 p2),(.ptr 0 0),(.ptr 1 0),(.slice (Rw Ins.cells []) (.own 2)),(.int .i64 0),(.slice (Rw Ins.cells r.2.1) (.own 3)),(.slice (Rw (ci .i64) r39) .no),(.int .i64 w42),(.int .i64 r.2.2)],([.cells [(.int .i64 p0.kind),(.int .i64 p0.dst),(.int .i64 p0.a),(.int .i64 p0.b),(.int .i64 p0.c),(.int .i64 p0.imm)],.cells [(.int .i64 p1.elem),(.int .i64 p1.off),(.bool p1.inp)],.front 0 0,oR 8 (aa5 r.2.1)]:lT)):=by
 exact s7 (enc:=fun s43=>([(.int .i64 p2),(.ptr 0 0),(.ptr 1 0),(.slice (Rw Ins.cells []) (.own 2)),(.int .i64 0),(.slice (Rw Ins.cells s43.1) (.own 3)),(.slice (Rw (ci .i64) r39) .no),(.int .i64 w42),(.int .i64 s43.2)],([.cells [(.int .i64 p0.kind),(.int .i64 p0.dst),(.int .i64 p0.a),(.int .i64 p0.b),(.int .i64 p0.c),(.int .i64 p0.imm)],.cells [(.int .i64 p1.elem),(.int .i64 p1.off),(.bool p1.inp)],.front 0 0,oR 8 (aa5 s43.1)]:lT))) (fun s43=>abB p2 r39 w42 p0 p1 s43) ([],i6)
theorem abR (y0:List Ins) (y1:List Ins) (h:lT):mD 2 1 [(.slice (Rw Ins.cells []) .nil)] [(0,(.slice (Rw Ins.cells y0) (.own 3))),(1,(.slice (Rw Ins.cells y1) .no))] h=some (.slice (Rw (vE Ins.cells) [y0,y1]) (.own h.length),h++[oR 1 2]):=by
 rfl
theorem abS (y0:List Ins) (y1:List Ins) (h:lT):mD 2 1 [(.slice (Rw Ins.cells []) .nil)] [(0,(.slice (Rw Ins.cells y0) .no)),(1,(.slice (Rw Ins.cells y1) .no))] h=some (.slice (Rw (vE Ins.cells) [y0,y1]) (.own h.length),h++[oR 1 2]):=by
 rfl
def MA (K:mA) (m:Nat) (aP:lS) (aD:lS) (aI:lT) (aC:lS) (aO:lS) (aA:lS) (aB:lS):Option R :=
 mH aP (fa 1 aD fun aQ=>ld false 1 aI aQ fun aJ=>ca (K 130 [(lS.l_ aJ)] aI) fun aK aE=>ca (K 139 [(lS.l_ aK),(lS.l_ aC),(lS.l_ (.int .i64 3))] aE) fun aL aF=>mC (mD 2 1 [(.slice (Rw Ins.cells []) .nil)] [(0,aO),(1,aL)] aF) fun aM aG=>ca (K 137 [(lS.l_ aM)] aG) fun aN aH=>mK m .normal [aA,aB,aN] aH) (mK m .normal [aA,aB,aO] aI)
def Et (aE:Bool) (p0:Op) (p2:Int) (aD:(List Ins)):Option ((List Ins)) :=
 tc aE (tb ((t130 p0.dst)) fun aA=>tb ((t139 aA p2 3)) fun aB=>tb ((t137 [aD,aB])) fun aC=>some aC) (some aD)
theorem aeZ (r94:Bool) (p0:Op) (p1:oW) (w97:Nat) (w98:Nat) (p2:Int) (r90:(List Ins)):(MA KK 5 (.bool r94) (.ptr 0 0) ([.cells [(.int .i64 p0.kind),(.int .i64 p0.dst),(.int .i64 p0.a),(.int .i64 p0.b),(.int .i64 p0.c),(.int .i64 p0.imm)],.cells [(.int .i64 p1.elem),(.int .i64 p1.off),(.bool p1.inp)],.front 0 0,oR 8 w97,oR 1 w98]:lT) (.int .i64 p2) (.slice (Rw Ins.cells r90) .no) (.slice (Rw Ins.cells []) (.own 2)) (.int .i64 0))=tm (Et r94 p0 p2 r90) fun r=>(.normal,[(.slice (Rw Ins.cells []) (.own 2)),(.int .i64 0),(.slice (Rw Ins.cells r) .no)],([.cells [(.int .i64 p0.kind),(.int .i64 p0.dst),(.int .i64 p0.a),(.int .i64 p0.b),(.int .i64 p0.c),(.int .i64 p0.imm)],.cells [(.int .i64 p1.elem),(.int .i64 p1.off),(.bool p1.inp)],.front 0 0,oR 8 w97,oR 1 w98]:lT)):=by
 cases r94 <;> simp [-l9,-lV,-lU,-lW,-lZ,-lY,-lX,MA,Et,aeW,CL,abS,avW]
def al2 (K:mA) (a0 a1 a2:lS) (h0:lT):Option (nT×lT) :=
 (mC (nP 6 h0 a0) fun aN bC=>mC (nP 3 bC a1) fun aY aT=>(fun(bG:lS) (aM:lT)=>ld true 6 aM aN fun t26=>ld true 3 aM aY fun bH=>ca (K 136 [(lS.l_ t26),(lS.l_ bH),(lS.l_ a2)] aM) fun t28 aJ=>(yD .not t28).bind fun t31=>mH t31 ((fun(bI:lS) (bD:lT)=>some (.ret,[bI,(.int .i64 2)],bD)) (.slice (Rw Ins.cells []) (.own (aa5 aJ))) (aJ++[.front 0 0])) ((fun(bJ:lS) (aU:lT)=>ld true 6 aU aN fun t36=>ca (K 36 [(lS.l_ t36)] aU) fun aZ aV=>ln aZ fun bK=>(nL (G4 K (aa5 aV)) ([a2,aN,aY,bG,(.int .i64 0),bJ,aZ,bK,(.int .i64 0)],aV)).bind fun aB=>(fun aD aC aH aE aF aI aO aP aQ aK=>Ex.nC aB.1 none (fun a_=>Ex.inBlock 0 a_ (ld true 6 aK aC fun bL=>ld true 3 aK aH fun bM=>ca (K 138 [(lS.l_ bL),(lS.l_ bM),(lS.l_ aD)] aK) fun bN bE=>mC (mD 2 1 [(.slice (Rw Ins.cells []) .nil)] [(0,aI),(1,bN)] bE) fun bO bF=>ca (K 137 [(lS.l_ bO)] bF) fun bP aW=>ld true 6 aW aC fun bQ=>ca (K 73 [(lS.l_ bQ)] aW) fun bR aX=>(MA K (aa5 aX) bR aC aX aD bP aE aF).bind fun aA=>(fun aR aS aG aL=>Ex.rQ aA.1 (some (.ret,[aG,(.int .i64 0)],aL))) (gd aA.2.1 0) (gd aA.2.1 1) (gd aA.2.1 2) aA.2.2) (fun bB=>some (bB,[aE,aF],aK)))) (gd aB.2.1 0) (gd aB.2.1 1) (gd aB.2.1 2) (gd aB.2.1 3) (gd aB.2.1 4) (gd aB.2.1 5) (gd aB.2.1 6) (gd aB.2.1 7) (gd aB.2.1 8) aB.2.2) (.slice (Rw Ins.cells []) (.own (aa5 aJ))) (aJ++[.front 0 0]))) (.slice (Rw Ins.cells []) (.own (aa5 aT))) (aT++[.front 0 0])).bind (XJ (aa5 h0))
theorem adM (K:mA) (a0 a1 a2:lS) (h0:lT):p9 Tryz.prog nM nL K 132 [a0,a1,a2] h0=al2 (mW nM K) a0 a1 a2 h0:=by kernel_rfl
def t132 (p0:Op) (p1:oW) (p2:Int):Option ((List Ins)×Int) :=
 tb ((t136 p0 p1 p2)) fun AM=>tc (!AM) (some ([],2)) (tb ((t36 p0)) fun aB=>tb (sG (AR p2 aB ((aa5 aB:Nat):Int)) ([],0)) fun aC=>uW aC.1 none fun aD=>vA 0 aD (tb ((t138 p0 p1 p2)) fun aF=>tb ((t137 [aC.2.1,aF])) fun aG=>tb ((t73 p0)) fun aH=>tb (Et aH p0 p2 aG) fun aA=>some (aA,0)) fun aE=>Ga aE (some ([],0)))
theorem az5 (p0:Op) (p1:oW) (p2:Int):al2 KK (.agg [(.int .i64 p0.kind),(.int .i64 p0.dst),(.int .i64 p0.a),(.int .i64 p0.b),(.int .i64 p0.c),(.int .i64 p0.imm)]) (.agg [(.int .i64 p1.elem),(.int .i64 p1.off),(.bool p1.inp)]) (.int .i64 p2) []=tm (t132 p0 p1 p2) fun r=>(.ret (.tuple [(.slice (Rw Ins.cells r.1) .no),(.int .i64 r.2)]),[]):=by
 simp [-l9,-lV,-lU,-lW,-lZ,-lY,-lX,al2,t132,avV,Pz,ae0,avX,abR,avW,r73,aeZ,XJ]
theorem sK (p0:Op) (p1:oW) (p2:Int) (h:lT):KK 132 [(.agg [(.int .i64 p0.kind),(.int .i64 p0.dst),(.int .i64 p0.a),(.int .i64 p0.b),(.int .i64 p0.c),(.int .i64 p0.imm)]),(.agg [(.int .i64 p1.elem),(.int .i64 p1.off),(.bool p1.inp)]),(.int .i64 p2)] h=tm (t132 p0 p1 p2) fun r=>(.ret (.tuple [(.slice (Rw Ins.cells r.1) .no),(.int .i64 r.2)]),h):=oE rfl rfl (adM ..) (az5 p0 p1 p2)
end
end Go.Proofs.YtgllbnabmglcfaaGreatDoor
