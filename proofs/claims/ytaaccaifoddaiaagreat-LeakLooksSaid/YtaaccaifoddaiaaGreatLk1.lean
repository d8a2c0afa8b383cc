/-
  The texts LK.M0, LK.T1, LK.T1b, LK.T7, LK.T8, LK.W1, LK.W2, LK.W3, LK.W4, LK.W5, LK.M2, LK.S, LK.C1, LK.C2, LK.C3, one behind another. No conditions.
-/
import Derived.Test.YtaaccaifoddaiaaGreatProg
import Derived.Test.YtaaccaifoddaiaaGreatVt1
import Derived.KernelRfl
set_option linter.unusedVariables false
set_option linter.unusedSimpArgs false
set_option linter.all false
open List renaming length → aa5
open Nat renaming mod_lt → aq2, pow_le_pow_right → al2
open Option.some renaming injEq → aa9
open Prod.mk renaming injEq → ap2
namespace Go.Proofs.YtaaccaifoddaiaaGreat
noncomputable section
open Go Hk
def DV:Int→List (List kN)→Option Int
 | b,[]=>some b
 | b,[.int .i64 n,.int .i64 f,.int .i64 m,.int .i64 a]::r =>
  if 0≤f∧f<64∧0≤m∧m<63∧0≤a∧a<64 then
   DV (IntKind.i64.wrap (BitVec.ofInt 64 b ||| BitVec.ofInt 64 (IntKind.i64.wrap ((IntKind.i64.wrap (BitVec.ofInt 64 (n.fdiv (2^f.toNat)) &&& BitVec.ofInt 64 (2^m.toNat-1)).toNat)*2^a.toNat))).toNat) r
  else none
 | _,_=>none
def WN:List kN→Option kN
 | [.int .i64 b,.slice rows _]=>if rows.length≤1000 then(DV b rows).map (.int .i64) else none
 | _=>none
def al5:List Nat:=[56,59,41]
def Zr:List Nat:=[56,59,41,28,40,37,39,20,21,82,83,118,173,91,30,44,23]
def aw5:List Nat:=[]
def mJ:xS:={ prm:=fun f=>if f=155 then some (.fn WN) else none,rb:=fun f=>f == 119,grow:=fun f=>f == 30 || f == 44 || f == 23,dfr:=fun f=>f == 28,vlit:=fun f=>f == 26,sub:=fun f=>f == 91 || f == 30 || f == 44 || f == 23 || f == 28 || f == 37 || f == 39 || f == 82 || f == 83,out:=fun f=>f == 26 || f == 19 || f == 22,vec:=fun f=>f == 26,glob:=fun _=>none,pure:=fun f=>!(Zr.contains f),pan:=fun f=>al5.contains f,vmk:=fun f=>!(aw5.contains f),jt:=fun f=>!(aw5.contains f) }
abbrev KK:kT:=lG mJ (Ag Tryz.prog mJ)
instance:Coe Int kN:=⟨.int .i64⟩
instance:Coe Bool kN:=⟨.bool⟩
instance:Coe (List UInt8) kN:=⟨.str⟩
structure Tk where
def zO:Tk:=⟨⟩
instance:CoeDep Tk zO kN:=⟨.int .i64 0⟩
abbrev nN (K:kT) (f:Nat) (a:List kN) (h:kO):Option (mR×kO):=C8 Tryz.prog mJ nP K f a h
def mA (mm:Nat) (r:R):Option (mR×kO):=(fun x h=>Ex.oH r.1 (oM mm x h)) (gd r.2.1 0) r.2.2
def Cm (mm:Nat) (r:R):Option (mR×kO):=(fun x y h=>Ex.oH r.1 (oM mm (.tuple [x,y]) h)) (gd r.2.1 0) (gd r.2.1 1) r.2.2
structure Sz where
 inn:Int
 outt:Int
 rail:Int
 deriving DecidableEq
def Sz.cells (x:Sz):List kN:=[.int .i64 x.inn,.int .i64 x.outt,.int .i64 x.rail]
@[simp] theorem Sz.lX (x:Sz):x.cells=[.int .i64 x.inn,.int .i64 x.outt,.int .i64 x.rail]:=(rfl)
structure Hd where
 reset:Int
 handler:Int
 sizes:Sz
 mode:Int
 deriving DecidableEq
def Hd.cells (x:Hd):List kN:=[.int .i64 x.reset,.int .i64 x.handler,.int .i64 x.sizes.inn,.int .i64 x.sizes.outt,.int .i64 x.sizes.rail,.int .i64 x.mode]
@[simp] theorem Hd.lX (x:Hd):x.cells=[.int .i64 x.reset,.int .i64 x.handler,.int .i64 x.sizes.inn,.int .i64 x.sizes.outt,.int .i64 x.sizes.rail,.int .i64 x.mode]:=(rfl)
structure lL where
 op:Int
 rd:Int
 rn:Int
 rm:Int
 ra:Int
 imm:Int
 cond:Int
 wide:Bool
 deriving DecidableEq
def lL.cells (x:lL):List kN:=[.int .i64 x.op,.int .i64 x.rd,.int .i64 x.rn,.int .i64 x.rm,.int .i64 x.ra,.int .i64 x.imm,.int .i64 x.cond,.bool x.wide]
@[simp] theorem lL.lX (x:lL):x.cells=[.int .i64 x.op,.int .i64 x.rd,.int .i64 x.rn,.int .i64 x.rm,.int .i64 x.ra,.int .i64 x.imm,.int .i64 x.cond,.bool x.wide]:=(rfl)
structure mZ where
 base:Int
 len:Int
 write:Bool
 deriving DecidableEq
def mZ.cells (x:mZ):List kN:=[.int .i64 x.base,.int .i64 x.len,.bool x.write]
@[simp] theorem mZ.lX (x:mZ):x.cells=[.int .i64 x.base,.int .i64 x.len,.bool x.write]:=(rfl)
structure tX where
 sizes:Sz
 flash:List UInt8
 input:List UInt8
 deriving DecidableEq
def tX.cells (x:tX):List kN:=[.int .i64 x.sizes.inn,.int .i64 x.sizes.outt,.int .i64 x.sizes.rail,.str x.flash,.str x.input]
@[simp] theorem tX.lX (x:tX):x.cells=[.int .i64 x.sizes.inn,.int .i64 x.sizes.outt,.int .i64 x.sizes.rail,.str x.flash,.str x.input]:=(rfl)
structure pF where
 kind:Int
 a:Int
 n:Int
 v:Int
 deriving DecidableEq
def pF.cells (x:pF):List kN:=[.int .i64 x.kind,.int .i64 x.a,.int .i64 x.n,.int .i64 x.v]
@[simp] theorem pF.lX (x:pF):x.cells=[.int .i64 x.kind,.int .i64 x.a,.int .i64 x.n,.int .i64 x.v]:=(rfl)
structure AR where
 v:Int
 e:Int
 deriving DecidableEq
def AR.cells (x:AR):List kN:=[.int .i64 x.v,.int .i64 x.e]
@[simp] theorem AR.lX (x:AR):x.cells=[.int .i64 x.v,.int .i64 x.e]:=(rfl)
structure Ev where
 kind:Int
 pc:Int
 addr:Int
 cycles:Int
 deriving DecidableEq
def Ev.cells (x:Ev):List kN:=[.int .i64 x.kind,.int .i64 x.pc,.int .i64 x.addr,.int .i64 x.cycles]
@[simp] theorem Ev.lX (x:Ev):x.cells=[.int .i64 x.kind,.int .i64 x.pc,.int .i64 x.addr,.int .i64 x.cycles]:=(rfl)
structure y_ where
 kind:Int
 step:Int
 reg:Int
 bit:Int
 deriving DecidableEq
def y_.cells (x:y_):List kN:=[.int .i64 x.kind,.int .i64 x.step,.int .i64 x.reg,.int .i64 x.bit]
@[simp] theorem y_.lX (x:y_):x.cells=[.int .i64 x.kind,.int .i64 x.step,.int .i64 x.reg,.int .i64 x.bit]:=(rfl)
structure Acc where
 addr:Int
 size:Int
 value:Int
 write:Bool
 deriving DecidableEq
def Acc.cells (x:Acc):List kN:=[.int .i64 x.addr,.int .i64 x.size,.int .i64 x.value,.bool x.write]
@[simp] theorem Acc.lX (x:Acc):x.cells=[.int .i64 x.addr,.int .i64 x.size,.int .i64 x.value,.bool x.write]:=(rfl)
structure Fm where
 rd:Int
 rn:Int
 rm:Int
 ra:Int
 least:Int
 most:Int
 deriving DecidableEq
def Fm.cells (x:Fm):List kN:=[.int .i64 x.rd,.int .i64 x.rn,.int .i64 x.rm,.int .i64 x.ra,.int .i64 x.least,.int .i64 x.most]
@[simp] theorem Fm.lX (x:Fm):x.cells=[.int .i64 x.rd,.int .i64 x.rn,.int .i64 x.rm,.int .i64 x.ra,.int .i64 x.least,.int .i64 x.most]:=(rfl)
structure G8 where
 first:Int
 second:Int
 long:Bool
 deriving DecidableEq
def G8.cells (x:G8):List kN:=[.int .i64 x.first,.int .i64 x.second,.bool x.long]
@[simp] theorem G8.lX (x:G8):x.cells=[.int .i64 x.first,.int .i64 x.second,.bool x.long]:=(rfl)
structure rR where
 n:Int
 frm:Int
 many:Int
 pos:Int
 deriving DecidableEq
def rR.cells (x:rR):List kN:=[.int .i64 x.n,.int .i64 x.frm,.int .i64 x.many,.int .i64 x.pos]
@[simp] theorem rR.lX (x:rR):x.cells=[.int .i64 x.n,.int .i64 x.frm,.int .i64 x.many,.int .i64 x.pos]:=(rfl)
structure Knd where
 first:Int
 op:Int
 deriving DecidableEq
def Knd.cells (x:Knd):List kN:=[.int .i64 x.first,.int .i64 x.op]
@[simp] theorem Knd.lX (x:Knd):x.cells=[.int .i64 x.first,.int .i64 x.op]:=(rfl)
def tby (xs:List Int):List UInt8:=xs.map fun z=>UInt8.ofNat z.toNat
theorem VX:∀(xs:List Int),bytesOf (Rw (ci .u8) xs)=some (tby xs)
 | []=>rfl
 | x::xs=>by have:=VX xs;simp only [Rw,ci,List.map_cons,bytesOf] at this ⊢;rw [this];rfl
@[simp] theorem adS {xs:List Int}{t:Tok}:rM (.slice (Rw (ci .u8) xs) t)=some (.str (tby xs)):=by simp only [rM,VX];rfl
@[simp 2000] theorem aFn {s t:List UInt8}:lF .add (.str s) (.str t)=tm (C0 s t) kN.str:=Oq
@[simp] theorem ap6 {x:kN}:Dj x []=some x:=(rfl)
@[simp] theorem agS {x y:kN}{r:List kN}:Dj x (y::r)=(Ck x y).bind fun z=>Dj z r:=(rfl)
@[simp] theorem ap4 {x:kN}:Di x []=some x:=(rfl)
@[simp] theorem agR {x y:kN}{r:List kN}:Di x (y::r)=(Dh x y).bind fun z=>Di z r:=(rfl)
@[simp] theorem ao1 {m:Nat}{h:kO}{u v w:kN}:kN.vS m h (.tuple [u,v,w])=.tuple [(match u with | .agg cs=>.agg (cs.map (·.oW m h)) | v=>v.oW m h),(match v with | .agg cs=>.agg (cs.map (·.oW m h)) | v=>v.oW m h),(match w with | .agg cs=>.agg (cs.map (·.oW m h)) | v=>v.oW m h)]:=(rfl)
@[simp] theorem adD {u v w:kN}:kN.kP (.tuple [u,v,w])=.tuple [(match u with | .agg cs=>.agg (cs.map kN.qK) | v=>v.qK),(match v with | .agg cs=>.agg (cs.map kN.qK) | v=>v.qK),(match w with | .agg cs=>.agg (cs.map kN.qK) | v=>v.qK)]:=(rfl)
@[simp] theorem aIp {a1 a2 a3 a4 b1 b2 b3 b4:Int}:Cv [.i,.i,.i,.i] (.agg [.int .i64 a1,.int .i64 a2,.int .i64 a3,.int .i64 a4]) (.agg [.int .i64 b1,.int .i64 b2,.int .i64 b3,.int .i64 b4])=some ((a1 == b1)&&((a2 == b2)&&((a3 == b3)&&((a4 == b4)&&true)))):=(rfl)
attribute [simp] lA A7 oR lO Du xQ
end
noncomputable section
open Go Hk
section
set_option maxHeartbeats 8000000
def m36 (K:kT) (a0:kN) (h0:kO):Option (mR×kO) :=
 (bo .and a0 (4294967295:Int) fun aA=>some (.ret,[aA],h0)).bind (mA (aa5 h0))
theorem aj1 K a0 h0:nN K 36 [a0] h0=m36 (lG mJ K) a0 h0:=by kernel_rfl
def t36 (p0:Int):Option (Int) :=
 some (rC .i64 p0 4294967295)
theorem Co (p0:Int) (h:kO):KK 36 [p0] h=tm (t36 p0) fun r=>(.ret r,h):=lJ rfl rfl (aj1 ..) (by
 simp [-rZ,-oZ,-oJ,-p5,-pV,-qX,-qY,m36,t36,mA])
def m78 (K:kT) (a0:kN) (h0:kO):Option (mR×kO) :=
 (bo .and a0 (31:Int) fun aA=>some (.ret,[aA],h0)).bind (mA (aa5 h0))
theorem ak5 K a0 h0:nN K 78 [a0] h0=m78 (lG mJ K) a0 h0:=by kernel_rfl
def t78 (p0:Int):Option (Int) :=
 some (rC .i64 p0 31)
theorem Kv (p0:Int) (h:kO):KK 78 [p0] h=tm (t78 p0) fun r=>(.ret r,h):=lJ rfl rfl (ak5 ..) (by
 simp [-rZ,-oZ,-oJ,-p5,-pV,-qX,-qY,m78,t78,mA])
def m57 (K:kT) (a0 a1:kN) (h0:kO):Option (mR×kO) :=
 (bo .add a0 a1 fun aB=>ca (K 36 [(kN.kP aB)] h0) fun aC aA=>some (.ret,[aC],aA)).bind (mA (aa5 h0))
theorem akK K a0 a1 h0:nN K 57 [a0,a1] h0=m57 (lG mJ K) a0 a1 h0:=by kernel_rfl
def t57 (p0:Int) (p1:Int):Option (Int) :=
 tb ((t36 (IntKind.wrap .i64 (p0+p1)))) fun aA=>some aA
theorem r57 (p0:Int) (p1:Int) (h:kO):KK 57 [p0,p1] h=tm (t57 p0 p1) fun r=>(.ret r,h):=lJ rfl rfl (akK ..) (by
 simp [-rZ,-oZ,-oJ,-p5,-pV,-qX,-qY,m57,t57,Co,mA])
def m27 (K:kT) (a0:kN) (h0:kO):Option (mR×kO) :=
 ((vN .xor a0).bind fun aB=>ca (K 36 [(kN.kP aB)] h0) fun aC aA=>some (.ret,[aC],aA)).bind (mA (aa5 h0))
theorem ajT K a0 h0:nN K 27 [a0] h0=m27 (lG mJ K) a0 h0:=by kernel_rfl
def t27 (p0:Int):Option (Int) :=
 tb ((t36 (Pu .i64 p0))) fun aA=>some aA
theorem Ce (p0:Int) (h:kO):KK 27 [p0] h=tm (t27 p0) fun r=>(.ret r,h):=lJ rfl rfl (ajT ..) (by
 simp [-rZ,-oZ,-oJ,-p5,-pV,-qX,-qY,m27,t27,Co,mA])
def avW (K:kT) (a0 a1:kN) (h0:kO):Option (mR×kO) :=
 (ca (K 36 [(kN.kP a0)] h0) fun aC aA=>(mC .u64 aC).bind fun aD=>ca (K 36 [(kN.kP a1)] aA) fun t24 aB=>(mC .u64 t24).bind fun t27=>bo .mul aD t27 fun aE=>some (.ret,[aE],aB)).bind (mA (aa5 h0))
theorem aaQ K a0 a1 h0:nN K 150 [a0,a1] h0=avW (lG mJ K) a0 a1 h0:=by kernel_rfl
def t150 (p0:Int) (p1:Int):Option (Int) :=
 tb ((t36 p0)) fun aA=>tb ((t36 p1)) fun aB=>some (IntKind.wrap .u64 ((IntKind.wrap .u64 aA)*(IntKind.wrap .u64 aB)))
theorem WT (p0:Int) (p1:Int) (h:kO):KK 150 [p0,p1] h=tm (t150 p0 p1) fun r=>(.ret (.int .u64 r),h):=lJ rfl rfl (aaQ ..) (by
 simp [-rZ,-oZ,-oJ,-p5,-pV,-qX,-qY,avW,t150,Co,mA])
def avA (K:kT) (a0 a1:kN) (h0:kO):Option (mR×kO) :=
 (ca (K 150 [(kN.kP a0),(kN.kP a1)] h0) fun aB aA=>bo .and aB (.int .u64 4294967295) fun aC=>(mC .i64 aC).bind fun t24=>some (.ret,[t24],aA)).bind (mA (aa5 h0))
theorem Z1 K a0 a1 h0:nN K 125 [a0,a1] h0=avA (lG mJ K) a0 a1 h0:=by kernel_rfl
def t125 (p0:Int) (p1:Int):Option (Int) :=
 tb ((t150 p0 p1)) fun aA=>some (IntKind.wrap .i64 (rC .u64 aA 4294967295))
theorem ab1 (p0:Int) (p1:Int) (h:kO):KK 125 [p0,p1] h=tm (t125 p0 p1) fun r=>(.ret r,h):=lJ rfl rfl (Z1 ..) (by
 simp [-rZ,-oZ,-oJ,-p5,-pV,-qX,-qY,avA,t125,WT,mA])
def avB (K:kT) (a0 a1:kN) (h0:kO):Option (mR×kO) :=
 (ca (K 150 [(kN.kP a0),(kN.kP a1)] h0) fun aB aA=>bo .shr aB (.int .u64 32) fun aC=>(mC .i64 aC).bind fun aD=>some (.ret,[aD],aA)).bind (mA (aa5 h0))
theorem Z2 K a0 a1 h0:nN K 126 [a0,a1] h0=avB (lG mJ K) a0 a1 h0:=by kernel_rfl
def t126 (p0:Int) (p1:Int):Option (Int) :=
 tb ((t150 p0 p1)) fun aB=>tb ((sX .u64 aB 32)) fun aA=>some (IntKind.wrap .i64 aA)
theorem aD2 (p0:Int) (p1:Int) (h:kO):KK 126 [p0,p1] h=tm (t126 p0 p1) fun r=>(.ret r,h):=lJ rfl rfl (Z2 ..) (by
 simp [-rZ,-oZ,-oJ,-p5,-pV,-qX,-qY,avB,t126,WT,mA])
def avT (K:kT) (a0 a1:kN) (h0:kO):Option (mR×kO) :=
 (bo .and a0 a1 fun aB=>ca (K 36 [(kN.kP aB)] h0) fun aC aA=>some (.ret,[aC],aA)).bind (mA (aa5 h0))
theorem aaN K a0 a1 h0:nN K 147 [a0,a1] h0=avT (lG mJ K) a0 a1 h0:=by kernel_rfl
def t147 (p0:Int) (p1:Int):Option (Int) :=
 tb ((t36 (rC .i64 p0 p1))) fun aA=>some aA
theorem AX (p0:Int) (p1:Int) (h:kO):KK 147 [p0,p1] h=tm (t147 p0 p1) fun r=>(.ret r,h):=lJ rfl rfl (aaN ..) (by
 simp [-rZ,-oZ,-oJ,-p5,-pV,-qX,-qY,avT,t147,Co,mA])
def avU (K:kT) (a0 a1:kN) (h0:kO):Option (mR×kO) :=
 (bo .or a0 a1 fun aB=>ca (K 36 [(kN.kP aB)] h0) fun aC aA=>some (.ret,[aC],aA)).bind (mA (aa5 h0))
theorem aaO K a0 a1 h0:nN K 148 [a0,a1] h0=avU (lG mJ K) a0 a1 h0:=by kernel_rfl
def t148 (p0:Int) (p1:Int):Option (Int) :=
 tb ((t36 (sD .i64 p0 p1))) fun aA=>some aA
theorem UT (p0:Int) (p1:Int) (h:kO):KK 148 [p0,p1] h=tm (t148 p0 p1) fun r=>(.ret r,h):=lJ rfl rfl (aaO ..) (by
 simp [-rZ,-oZ,-oJ,-p5,-pV,-qX,-qY,avU,t148,Co,mA])
def m77 (K:kT) (a0 a1:kN) (h0:kO):Option (mR×kO) :=
 (bo .xor a0 a1 fun aB=>ca (K 36 [(kN.kP aB)] h0) fun aC aA=>some (.ret,[aC],aA)).bind (mA (aa5 h0))
theorem ak4 K a0 a1 h0:nN K 77 [a0,a1] h0=m77 (lG mJ K) a0 a1 h0:=by kernel_rfl
def t77 (p0:Int) (p1:Int):Option (Int) :=
 tb ((t36 (C5 .i64 p0 p1))) fun aA=>some aA
theorem AZ (p0:Int) (p1:Int) (h:kO):KK 77 [p0,p1] h=tm (t77 p0 p1) fun r=>(.ret r,h):=lJ rfl rfl (ak4 ..) (by
 simp [-rZ,-oZ,-oJ,-p5,-pV,-qX,-qY,m77,t77,Co,mA])
def avV (K:kT) (a0 a1:kN) (h0:kO):Option (mR×kO) :=
 (bo .sub a0 a1 fun aB=>ca (K 36 [(kN.kP aB)] h0) fun aC aA=>some (.ret,[aC],aA)).bind (mA (aa5 h0))
theorem aaP K a0 a1 h0:nN K 149 [a0,a1] h0=avV (lG mJ K) a0 a1 h0:=by kernel_rfl
def t149 (p0:Int) (p1:Int):Option (Int) :=
 tb ((t36 (IntKind.wrap .i64 (p0-p1)))) fun aA=>some aA
theorem axC (p0:Int) (p1:Int) (h:kO):KK 149 [p0,p1] h=tm (t149 p0 p1) fun r=>(.ret r,h):=lJ rfl rfl (aaP ..) (by
 simp [-rZ,-oZ,-oJ,-p5,-pV,-qX,-qY,avV,t149,Co,mA])
def avP (K:kT) (a0 a1:kN) (h0:kO):Option (mR×kO) :=
 (ca (K 36 [(kN.kP a0)] h0) fun aD aA=>ca (K 78 [(kN.kP a1)] aA) fun aE aB=>bo .shl aD aE fun aF=>ca (K 36 [(kN.kP aF)] aB) fun aG aC=>some (.ret,[aG],aC)).bind (mA (aa5 h0))
theorem aaJ K a0 a1 h0:nN K 143 [a0,a1] h0=avP (lG mJ K) a0 a1 h0:=by kernel_rfl
def t143 (p0:Int) (p1:Int):Option (Int) :=
 tb ((t36 p0)) fun aB=>tb ((t78 p1)) fun aC=>tb ((qP .i64 aB aC)) fun aA=>tb ((t36 aA)) fun aD=>some aD
theorem axB (p0:Int) (p1:Int) (h:kO):KK 143 [p0,p1] h=tm (t143 p0 p1) fun r=>(.ret r,h):=lJ rfl rfl (aaJ ..) (by
 simp [-rZ,-oZ,-oJ,-p5,-pV,-qX,-qY,avP,t143,Co,Kv,mA])
def avQ (K:kT) (a0 a1:kN) (h0:kO):Option (mR×kO) :=
 (ca (K 36 [(kN.kP a0)] h0) fun aC aA=>ca (K 78 [(kN.kP a1)] aA) fun aD aB=>bo .shr aC aD fun aE=>some (.ret,[aE],aB)).bind (mA (aa5 h0))
theorem aaK K a0 a1 h0:nN K 144 [a0,a1] h0=avQ (lG mJ K) a0 a1 h0:=by kernel_rfl
def t144 (p0:Int) (p1:Int):Option (Int) :=
 tb ((t36 p0)) fun aB=>tb ((t78 p1)) fun aC=>tb ((sX .i64 aB aC)) fun aA=>some aA
theorem amC (p0:Int) (p1:Int) (h:kO):KK 144 [p0,p1] h=tm (t144 p0 p1) fun r=>(.ret r,h):=lJ rfl rfl (aaK ..) (by
 simp [-rZ,-oZ,-oJ,-p5,-pV,-qX,-qY,avQ,t144,Co,Kv,mA])
def avR (K:kT) (a0 a1:kN) (h0:kO):Option (mR×kO) :=
 (ca (K 36 [(kN.kP a0)] h0) fun aD aA=>(mC .u32 aD).bind fun aE=>(mC .i32 aE).bind fun t24=>(mC .i64 t24).bind fun aF=>ca (K 78 [(kN.kP a1)] aA) fun aG aB=>bo .shr aF aG fun t29=>ca (K 36 [(kN.kP t29)] aB) fun t31 aC=>some (.ret,[t31],aC)).bind (mA (aa5 h0))
theorem aaL K a0 a1 h0:nN K 145 [a0,a1] h0=avR (lG mJ K) a0 a1 h0:=by kernel_rfl
def t145 (p0:Int) (p1:Int):Option (Int) :=
 tb ((t36 p0)) fun aB=>tb ((t78 p1)) fun aC=>tb ((sX .i64 (IntKind.wrap .i64 (IntKind.wrap .i32 (IntKind.wrap .u32 aB))) aC)) fun aA=>tb ((t36 aA)) fun CF=>some CF
theorem aD5 (p0:Int) (p1:Int) (h:kO):KK 145 [p0,p1] h=tm (t145 p0 p1) fun r=>(.ret r,h):=lJ rfl rfl (aaL ..) (by
 simp [-rZ,-oZ,-oJ,-p5,-pV,-qX,-qY,avR,t145,Co,Kv,mA])
def avS (K:kT) (a0 a1:kN) (h0:kO):Option (mR×kO) :=
 (ca (K 144 [(kN.kP a0),(kN.kP a1)] h0) fun aF aA=>ca (K 36 [(kN.kP a0)] aA) fun aG aB=>ca (K 78 [(kN.kP a1)] aB) fun aH aC=>bo .sub (32:Int) aH fun t29=>bo .shl aG t29 fun aI=>ca (K 36 [(kN.kP aI)] aC) fun t32 aD=>ca (K 148 [(kN.kP aF),(kN.kP t32)] aD) fun t35 aE=>some (.ret,[t35],aE)).bind (mA (aa5 h0))
theorem aaM K a0 a1 h0:nN K 146 [a0,a1] h0=avS (lG mJ K) a0 a1 h0:=by kernel_rfl
def t146 (p0:Int) (p1:Int):Option (Int) :=
 tb ((t144 p0 p1)) fun aB=>tb ((t36 p0)) fun aC=>tb ((t78 p1)) fun aD=>tb ((qP .i64 aC (IntKind.wrap .i64 (32-aD)))) fun aA=>tb ((t36 aA)) fun aE=>tb ((t148 aB aE)) fun aF=>some aF
theorem JS (p0:Int) (p1:Int) (h:kO):KK 146 [p0,p1] h=tm (t146 p0 p1) fun r=>(.ret r,h):=lJ rfl rfl (aaM ..) (by
 simp [-rZ,-oZ,-oJ,-p5,-pV,-qX,-qY,avS,t146,amC,Co,Kv,UT,mA])
def avO (K:kT) (a0 a1 a2:kN) (h0:kO):Option (mR×kO) :=
 (bo .and a1 a0 fun aB=>bo .andNot a2 a0 fun aC=>ca (K 148 [(kN.kP aB),(kN.kP aC)] h0) fun aD aA=>some (.ret,[aD],aA)).bind (mA (aa5 h0))
theorem aaI K a0 a1 a2 h0:nN K 142 [a0,a1,a2] h0=avO (lG mJ K) a0 a1 a2 h0:=by kernel_rfl
def t142 (p0:Int) (p1:Int) (p2:Int):Option (Int) :=
 tb ((t148 (rC .i64 p1 p0) (Jc .i64 p2 p0))) fun pY=>some pY
theorem aD4 (p0:Int) (p1:Int) (p2:Int) (h:kO):KK 142 [p0,p1,p2] h=tm (t142 p0 p1 p2) fun r=>(.ret r,h):=lJ rfl rfl (aaI ..) (by
 simp [-rZ,-oZ,-oJ,-p5,-pV,-qX,-qY,avO,t142,UT,mA])
def avX (K:kT) (a0 a1:kN) (h0:kO):Option (mR×kO) :=
 (ca (K 144 [(kN.kP a0),(kN.kP a1)] h0) fun aB aA=>bo .and aB (1:Int) fun aC=>some (.ret,[aC],aA)).bind (mA (aa5 h0))
theorem aaR K a0 a1 h0:nN K 151 [a0,a1] h0=avX (lG mJ K) a0 a1 h0:=by kernel_rfl
def t151 (p0:Int) (p1:Int):Option (Int) :=
 tb ((t144 p0 p1)) fun aA=>some (rC .i64 aA 1)
theorem wU (p0:Int) (p1:Int) (h:kO):KK 151 [p0,p1] h=tm (t151 p0 p1) fun r=>(.ret r,h):=lJ rfl rfl (aaR ..) (by
 simp [-rZ,-oZ,-oJ,-p5,-pV,-qX,-qY,avX,t151,amC,mA])
def m31 (K:kT) (a0:kN) (h0:kO):Option (mR×kO) :=
 ((mC .u64 a0).bind fun aA=>bo .rem aA (.int .u64 4294967296) fun aB=>(mC .i64 aB).bind fun aC=>some (.ret,[aC],h0)).bind (mA (aa5 h0))
theorem ajW K a0 h0:nN K 31 [a0] h0=m31 (lG mJ K) a0 h0:=by kernel_rfl
def t31 (p0:Int):Option (Int) :=
 tb ((qA (IntKind.wrap .u64 p0) 4294967296)) fun aA=>some (IntKind.wrap .i64 aA)
theorem yP (p0:Int) (h:kO):KK 31 [p0] h=tm (t31 p0) fun r=>(.ret r,h):=lJ rfl rfl (ajW ..) (by
 simp [-rZ,-oZ,-oJ,-p5,-pV,-qX,-qY,m31,t31,mA])
def m88 (K:kT) (a0:kN) (h0:kO):Option (mR×kO) :=
 ((mC .u64 a0).bind fun aA=>bo .rem aA (.int .u64 32) fun aB=>(mC .i64 aB).bind fun aC=>some (.ret,[aC],h0)).bind (mA (aa5 h0))
theorem alF K a0 h0:nN K 88 [a0] h0=m88 (lG mJ K) a0 h0:=by kernel_rfl
def t88 (p0:Int):Option (Int) :=
 tb ((qA (IntKind.wrap .u64 p0) 32)) fun aA=>some (IntKind.wrap .i64 aA)
theorem Ij (p0:Int) (h:kO):KK 88 [p0] h=tm (t88 p0) fun r=>(.ret r,h):=lJ rfl rfl (alF ..) (by
 simp [-rZ,-oZ,-oJ,-p5,-pV,-qX,-qY,m88,t88,mA])
def Mt (K:kT) (m:Nat) (s:List kN×kO):Option R :=
 (fun aA aC aD aB aE=>bo .lss aB aA fun aF=>kV aF (bo .mul aD (2:Int) fun t27=>bo .add aB (1:Int) fun aG=>kZ m .normal [aA,aC,t27,aG] aE) (kZ m (.exit 0) [aA,aC,aD,aB] aE)) (gd s.1 0) (gd s.1 1) (gd s.1 2) (gd s.1 3) s.2
def CX (p0:Int) (oA:Int×Int):Option (Ey×Int×Int) :=
 tc (decide (oA.2<p0)) (some (.n,((IntKind.wrap .i64 (oA.1*2)),(IntKind.wrap .i64 (oA.2+1))))) (some ((.x 0),(oA.1,oA.2)))
theorem ahC (p0:Int) (oA:Int×Int):Mt KK 0 ([p0,zO,oA.1,oA.2],([]:kO))=tm (β:=R) (CX p0 oA) fun r=>(r.1.ex,[p0,zO,r.2.1,r.2.2],([]:kO)):=by
 simp [-rZ,-oZ,-oJ,-p5,-pV,-qX,-qY,Mt,CX]
theorem anJ (p0:Int) (i2:Int) (i3:Int):nP (Mt KK 0) ([p0,zO,i2,i3],([]:kO))=tm (β:=R) (rX (CX p0) (i2,i3)) fun r=>(r.1.ex,[p0,zO,r.2.1,r.2.2],([]:kO)):=by
 exact uE (enc:=fun oA=>([(.int .i64 p0),(.int .i64 0),(.int .i64 oA.1),(.int .i64 oA.2)],([]:kO))) (fun oA=>ahC p0 oA) (i2,i3)
def m87 (K:kT) (a0:kN) (h0:kO):Option (mR×kO) :=
 ((nP (Mt K (aa5 h0)) ([a0,zO,(1:Int),zO],h0)).bind fun uZ=>(fun aD aA aB aE aC=>Ex.l_ uZ.1 none (fun aF=>Ex.inBlock 0 aF (some (.ret,[aB],aC)) (fun aG=>some (aG,[aA],aC)))) (gd uZ.2.1 0) (gd uZ.2.1 1) (gd uZ.2.1 2) (gd uZ.2.1 3) uZ.2.2).bind (mA (aa5 h0))
theorem alE K a0 h0:nN K 87 [a0] h0=m87 (lG mJ K) a0 h0:=by kernel_rfl
def t87 (p0:Int):Option (Int) :=
 tb (rX (CX p0) (1,0)) fun uZ=>uL uZ.1 none fun aA=>vO 0 aA (some uZ.2.1) fun aB=>Ao aB (some 0)
theorem SN (p0:Int) (h:kO):KK 87 [p0] h=tm (t87 p0) fun r=>(.ret r,h):=lJ rfl rfl (alE ..) (by
 simp [-rZ,-oZ,-oJ,-p5,-pV,-qX,-qY,m87,t87,anJ,mA])
def m46 (K:kT) (a0 a1:kN) (h0:kO):Option (mR×kO) :=
 (ca (K 31 [(kN.kP a0)] h0) fun aD aA=>ca (K 31 [(kN.kP a1)] aA) fun aE aB=>bo .add aD aE fun aF=>ca (K 31 [(kN.kP aF)] aB) fun t27 aC=>some (.ret,[t27],aC)).bind (mA (aa5 h0))
theorem aj9 K a0 a1 h0:nN K 46 [a0,a1] h0=m46 (lG mJ K) a0 a1 h0:=by kernel_rfl
def t46 (p0:Int) (p1:Int):Option (Int) :=
 tb ((t31 p0)) fun aA=>tb ((t31 p1)) fun aB=>tb ((t31 (IntKind.wrap .i64 (aA+aB)))) fun uZ=>some uZ
theorem AY (p0:Int) (p1:Int) (h:kO):KK 46 [p0,p1] h=tm (t46 p0 p1) fun r=>(.ret r,h):=lJ rfl rfl (aj9 ..) (by
 simp [-rZ,-oZ,-oJ,-p5,-pV,-qX,-qY,m46,t46,yP,mA])
def m74 (K:kT) (a0 a1:kN) (h0:kO):Option (mR×kO) :=
 (ca (K 31 [(kN.kP a0)] h0) fun aD aA=>bo .add aD (4294967296:Int) fun aE=>ca (K 31 [(kN.kP a1)] aA) fun t24 aB=>bo .sub aE t24 fun t27=>ca (K 31 [(kN.kP t27)] aB) fun aF aC=>some (.ret,[aF],aC)).bind (mA (aa5 h0))
theorem ak1 K a0 a1 h0:nN K 74 [a0,a1] h0=m74 (lG mJ K) a0 a1 h0:=by kernel_rfl
def t74 (p0:Int) (p1:Int):Option (Int) :=
 tb ((t31 p0)) fun aA=>tb ((t31 p1)) fun aB=>tb ((t31 (IntKind.wrap .i64 ((IntKind.wrap .i64 (aA+4294967296))-aB)))) fun aC=>some aC
theorem r74 (p0:Int) (p1:Int) (h:kO):KK 74 [p0,p1] h=tm (t74 p0 p1) fun r=>(.ret r,h):=lJ rfl rfl (ak1 ..) (by
 simp [-rZ,-oZ,-oJ,-p5,-pV,-qX,-qY,m74,t74,yP,mA])
def auX (K:kT) (a0 a1:kN) (h0:kO):Option (mR×kO) :=
 (ca (K 31 [(kN.kP a0)] h0) fun aC aA=>(mC .u64 aC).bind fun aD=>ca (K 31 [(kN.kP a1)] aA) fun t24 aB=>(mC .u64 t24).bind fun t27=>bo .mul aD t27 fun aE=>bo .rem aE (.int .u64 4294967296) fun t29=>(mC .i64 t29).bind fun t31=>some (.ret,[t31],aB)).bind (mA (aa5 h0))
theorem ZL K a0 a1 h0:nN K 108 [a0,a1] h0=auX (lG mJ K) a0 a1 h0:=by kernel_rfl
def t108 (p0:Int) (p1:Int):Option (Int) :=
 tb ((t31 p0)) fun aB=>tb ((t31 p1)) fun aC=>tb ((qA (IntKind.wrap .u64 ((IntKind.wrap .u64 aB)*(IntKind.wrap .u64 aC))) 4294967296)) fun aA=>some (IntKind.wrap .i64 aA)
theorem aw9 (p0:Int) (p1:Int) (h:kO):KK 108 [p0,p1] h=tm (t108 p0 p1) fun r=>(.ret r,h):=lJ rfl rfl (ZL ..) (by
 simp [-rZ,-oZ,-oJ,-p5,-pV,-qX,-qY,auX,t108,yP,mA])
def m76 (K:kT) (a0 a1:kN) (h0:kO):Option (mR×kO) :=
 (ca (K 31 [(kN.kP a0)] h0) fun aC aA=>(mC .u64 aC).bind fun aD=>ca (K 31 [(kN.kP a1)] aA) fun t24 aB=>(mC .u64 t24).bind fun t27=>bo .mul aD t27 fun aE=>bo .quo aE (.int .u64 4294967296) fun t29=>(mC .i64 t29).bind fun t31=>some (.ret,[t31],aB)).bind (mA (aa5 h0))
theorem ak3 K a0 a1 h0:nN K 76 [a0,a1] h0=m76 (lG mJ K) a0 a1 h0:=by kernel_rfl
def t76 (p0:Int) (p1:Int):Option (Int) :=
 tb ((t31 p0)) fun aB=>tb ((t31 p1)) fun aC=>tb ((A0 .u64 (IntKind.wrap .u64 ((IntKind.wrap .u64 aB)*(IntKind.wrap .u64 aC))) 4294967296)) fun aA=>some (IntKind.wrap .i64 aA)
theorem PF (p0:Int) (p1:Int) (h:kO):KK 76 [p0,p1] h=tm (t76 p0 p1) fun r=>(.ret r,h):=lJ rfl rfl (ak3 ..) (by
 simp [-rZ,-oZ,-oJ,-p5,-pV,-qX,-qY,m76,t76,yP,mA])
def m73 (K:kT) (a0 a1:kN) (h0:kO):Option (mR×kO) :=
 (ca (K 31 [(kN.kP a0)] h0) fun aD aA=>ca (K 88 [(kN.kP a1)] aA) fun aE aB=>ca (K 87 [(kN.kP aE)] aB) fun aF aC=>bo .quo aD aF fun t29=>bo .rem t29 (2:Int) fun t31=>some (.ret,[t31],aC)).bind (mA (aa5 h0))
theorem ak0 K a0 a1 h0:nN K 73 [a0,a1] h0=m73 (lG mJ K) a0 a1 h0:=by kernel_rfl
def t73 (p0:Int) (p1:Int):Option (Int) :=
 tb ((t31 p0)) fun aC=>tb ((t88 p1)) fun aD=>tb ((t87 aD)) fun aE=>tb ((A0 .i64 aC aE)) fun aA=>tb ((qA aA 2)) fun aB=>some aB
theorem r73 (p0:Int) (p1:Int) (h:kO):KK 73 [p0,p1] h=tm (t73 p0 p1) fun r=>(.ret r,h):=lJ rfl rfl (ak0 ..) (by
 simp [-rZ,-oZ,-oJ,-p5,-pV,-qX,-qY,m73,t73,yP,Ij,SN,mA])
def LR (K:kT) (m:Nat) (aJ:kN) (aB:kN) (aC:kN) (aD:kN) (aE:kN) (aF:kN) (aG:kN) (aA:kN) (aI:kN) (aH:kO) (t33:kN):Option R :=
 kV aJ (kZ m .normal [aB,aC,aD,aE,aF,aG,aA,aI] aH) (kZ m .normal [aB,aC,aD,aE,aF,aG,aA,t33] aH)
def Nk (aA:Bool) (xG:Int) (tB:Int):Option (Int) :=
 tc aA (some xG) (some tB)
theorem ab8 (w57:Bool) (p0:Int) (p1:Int) (p2:Int) (p3:Int) (w37:Int) (w38:Int) (xG:Int) (tB:Int):(LR KK 0 w57 p0 p1 p2 p3 zO w37 w38 xG ([]:kO) tB)=tm (β:=R) (Nk w57 xG tB) fun r=>(.normal,[p0,p1,p2,p3,zO,w37,w38,r],([]:kO)):=by
 simp [-rZ,-oZ,-oJ,-p5,-pV,-qX,-qY,LR,Nk]
def LQ (K:kT) (m:Nat) (t48:kN) (aS:kN) (t33:kN) (aB:kN) (aD:kN) (aE:kN) (aF:kN) (aG:kN) (aH:kN) (aA:kN) (aQ:kO):Option R :=
 kV t48 (bo .add aS t33 fun aU=>bo .rem aU (2:Int) fun aV=>kZ m .normal [aB,aD,aE,aF,aG,aH,aA,aV] aQ) (ca (K 73 [(kN.kP aB),(kN.kP aA)] aQ) fun t53 aR=>bo .eql t53 (1:Int) fun aW=>(LR K (aa5 aR) aW aB aD aE aF aG aH aA aS aR t33).bind fun aC=>(fun aK aL aM aN aO aP aI aJ aT=>Ex.pR aC.1 (kZ m .normal [aK,aL,aM,aN,aO,aP,aI,aJ] aT)) (gd aC.2.1 0) (gd aC.2.1 1) (gd aC.2.1 2) (gd aC.2.1 3) (gd aC.2.1 4) (gd aC.2.1 5) (gd aC.2.1 6) (gd aC.2.1 7) aC.2.2)
def GV (aD:Bool) (xG:Int) (tB:Int) (p0:Int) (aC:Int):Option (Int) :=
 tc aD (tb ((qA (IntKind.wrap .i64 (xG+tB)) 2)) fun aA=>some aA) (tb ((t73 p0 aC)) fun Na=>tb (Nk (decide (Na=1)) xG tB) fun aB=>some aB)
theorem ab7 (w49:Bool) (xG:Int) (tB:Int) (p0:Int) (p1:Int) (p2:Int) (p3:Int) (w37:Int) (w38:Int):(LQ KK 0 w49 xG tB p0 p1 p2 p3 zO w37 w38 ([]:kO))=tm (β:=R) (GV w49 xG tB p0 w38) fun r=>(.normal,[p0,p1,p2,p3,zO,w37,w38,r],([]:kO)):=by
 simp [-rZ,-oZ,-oJ,-p5,-pV,-qX,-qY,LQ,GV,r73,ab8]
def LP (K:kT) (m:Nat) (t45:kN) (aQ:kN) (t33:kN) (aC:kN) (aD:kN) (aE:kN) (aB:kN) (aF:kN) (aG:kN) (aA:kN) (aP:kO):Option R :=
 kV t45 ((Dh aQ t33).bind fun aS=>kZ m .normal [aC,aD,aE,aB,aF,aG,aA,aS] aP) (bo .eql aB (3:Int) fun t48=>(LQ K (aa5 aP) t48 aQ t33 aC aD aE aB aF aG aA aP).bind fun JT=>(fun aJ aK aL aM aN aO aH aI aR=>Ex.pR JT.1 (kZ m .normal [aJ,aK,aL,aM,aN,aO,aH,aI] aR)) (gd JT.2.1 0) (gd JT.2.1 1) (gd JT.2.1 2) (gd JT.2.1 3) (gd JT.2.1 4) (gd JT.2.1 5) (gd JT.2.1 6) (gd JT.2.1 7) JT.2.2)
def El (aB:Bool) (xG:Int) (tB:Int) (p0:Int) (p3:Int) (aA:Int):Option (Int) :=
 tc aB (some (max xG tB)) (tb (GV (decide (p3=3)) xG tB p0 aA) fun JT=>some JT)
theorem ab6 (w46:Bool) (xG:Int) (tB:Int) (p0:Int) (p1:Int) (p2:Int) (p3:Int) (w37:Int) (w38:Int):(LP KK 0 w46 xG tB p0 p1 p2 p3 zO w37 w38 ([]:kO))=tm (β:=R) (El w46 xG tB p0 p3 w38) fun r=>(.normal,[p0,p1,p2,p3,zO,w37,w38,r],([]:kO)):=by
 simp [-rZ,-oZ,-oJ,-p5,-pV,-qX,-qY,LP,El,ab7]
def LN (K:kT) (m:Nat) (t42:kN) (aQ:kN) (t33:kN) (aC:kN) (aD:kN) (aE:kN) (aB:kN) (aF:kN) (aG:kN) (aA:kN) (aP:kO):Option R :=
 kV t42 (bo .mul aQ t33 fun aS=>kZ m .normal [aC,aD,aE,aB,aF,aG,aA,aS] aP) (bo .eql aB (2:Int) fun t45=>(LP K (aa5 aP) t45 aQ t33 aC aD aE aB aF aG aA aP).bind fun Kv=>(fun aJ aK aL aM aN aO aH aI aR=>Ex.pR Kv.1 (kZ m .normal [aJ,aK,aL,aM,aN,aO,aH,aI] aR)) (gd Kv.2.1 0) (gd Kv.2.1 1) (gd Kv.2.1 2) (gd Kv.2.1 3) (gd Kv.2.1 4) (gd Kv.2.1 5) (gd Kv.2.1 6) (gd Kv.2.1 7) Kv.2.2)
def B9 (aB:Bool) (xG:Int) (tB:Int) (p0:Int) (p3:Int) (aA:Int):Option (Int) :=
 tc aB (some (IntKind.wrap .i64 (xG*tB))) (tb (El (decide (p3=2)) xG tB p0 p3 aA) fun Kv=>some Kv)
theorem ab5 (w43:Bool) (xG:Int) (tB:Int) (p0:Int) (p1:Int) (p2:Int) (p3:Int) (w37:Int) (w38:Int):(LN KK 0 w43 xG tB p0 p1 p2 p3 zO w37 w38 ([]:kO))=tm (β:=R) (B9 w43 xG tB p0 p3 w38) fun r=>(.normal,[p0,p1,p2,p3,zO,w37,w38,r],([]:kO)):=by
 simp [-rZ,-oZ,-oJ,-p5,-pV,-qX,-qY,LN,B9,ab6]
def LM (K:kT) (m:Nat) (t36:kN) (aQ:kN) (aC:kN) (aD:kN) (aE:kN) (aB:kN) (aF:kN) (aG:kN) (aA:kN) (aP:kO) (t33:kN):Option R :=
 kV t36 (bo .sub (1:Int) aQ fun aS=>kZ m .normal [aC,aD,aE,aB,aF,aG,aA,aS] aP) (bo .eql aB (1:Int) fun t42=>(LN K (aa5 aP) t42 aQ t33 aC aD aE aB aF aG aA aP).bind fun Ij=>(fun aJ aK aL aM aN aO aH aI aR=>Ex.pR Ij.1 (kZ m .normal [aJ,aK,aL,aM,aN,aO,aH,aI] aR)) (gd Ij.2.1 0) (gd Ij.2.1 1) (gd Ij.2.1 2) (gd Ij.2.1 3) (gd Ij.2.1 4) (gd Ij.2.1 5) (gd Ij.2.1 6) (gd Ij.2.1 7) Ij.2.2)
def yW (aB:Bool) (xG:Int) (p0:Int) (p3:Int) (aA:Int) (tB:Int):Option (Int) :=
 tc aB (some (IntKind.wrap .i64 (1-xG))) (tb (B9 (decide (p3=1)) xG tB p0 p3 aA) fun Ij=>some Ij)
theorem ab4 (w40:Bool) (xG:Int) (p0:Int) (p1:Int) (p2:Int) (p3:Int) (w37:Int) (w38:Int) (tB:Int):(LM KK 0 w40 xG p0 p1 p2 p3 zO w37 w38 ([]:kO) tB)=tm (β:=R) (yW w40 xG p0 p3 w38 tB) fun r=>(.normal,[p0,p1,p2,p3,zO,w37,w38,r],([]:kO)):=by
 simp [-rZ,-oZ,-oJ,-p5,-pV,-qX,-qY,LM,yW,ab5]
def GC (K:kT) (m:Nat) (s:List kN×kO):Option R :=
 (fun aG aB aC aD aH aI aA aQ=>bo .geq aA zO fun t29=>kV t29 (ca (K 73 [(kN.kP aB),(kN.kP aA)] aQ) fun aT aS=>ca (K 73 [(kN.kP aC),(kN.kP aA)] aS) fun t33 aR=>bo .eql aD zO fun t36=>(LM K (aa5 aR) t36 aT aG aB aC aD aH aI aA aR t33).bind fun TR=>(fun aO aJ aK aL aM aN aE aF aP=>Ex.pR TR.1 (bo .mul (2:Int) aN fun t108=>bo .add t108 aF fun t109=>bo .sub aE (1:Int) fun t110=>kZ m .normal [aO,aJ,aK,aL,aM,t109,t110] aP)) (gd TR.2.1 0) (gd TR.2.1 1) (gd TR.2.1 2) (gd TR.2.1 3) (gd TR.2.1 4) (gd TR.2.1 5) (gd TR.2.1 6) (gd TR.2.1 7) TR.2.2) (kZ m (.exit 0) [aG,aB,aC,aD,aH,aI,aA] aQ)) (gd s.1 0) (gd s.1 1) (gd s.1 2) (gd s.1 3) (gd s.1 4) (gd s.1 5) (gd s.1 6) s.2
def AF (p0:Int) (p1:Int) (p2:Int) (p3:Int) (oA:Int×Int):Option (Ey×Int×Int) :=
 tc (decide (0≤oA.2)) (tb ((t73 p1 oA.2)) fun xG=>tb ((t73 p2 oA.2)) fun tB=>tb (yW (decide (p3=0)) xG p0 p3 oA.2 tB) fun TR=>some (.n,((IntKind.wrap .i64 ((IntKind.wrap .i64 (2*oA.1))+TR)),(IntKind.wrap .i64 (oA.2-1))))) (some ((.x 0),(oA.1,oA.2)))
theorem YT (p0:Int) (p1:Int) (p2:Int) (p3:Int) (oA:Int×Int):GC KK 0 ([p0,p1,p2,p3,zO,oA.1,oA.2],([]:kO))=tm (β:=R) (AF p0 p1 p2 p3 oA) fun r=>(r.1.ex,[p0,p1,p2,p3,zO,r.2.1,r.2.2],([]:kO)):=by
 simp [-rZ,-oZ,-oJ,-p5,-pV,-qX,-qY,GC,AF,r73,ab4]
theorem ab9 (p0:Int) (p1:Int) (p2:Int) (p3:Int) (i5:Int) (i6:Int):nP (GC KK 0) ([p0,p1,p2,p3,zO,i5,i6],([]:kO))=tm (β:=R) (rX (AF p0 p1 p2 p3) (i5,i6)) fun r=>(r.1.ex,[p0,p1,p2,p3,zO,r.2.1,r.2.2],([]:kO)):=by
 exact uE (enc:=fun oA=>([(.int .i64 p0),(.int .i64 p1),(.int .i64 p2),(.int .i64 p3),(.int .i64 0),(.int .i64 oA.1),(.int .i64 oA.2)],([]:kO))) (fun oA=>YT p0 p1 p2 p3 oA) (i5,i6)
def avF (K:kT) (a0 a1 a2 a3:kN) (h0:kO):Option (mR×kO) :=
 ((nP (GC K (aa5 h0)) ([a0,a1,a2,a3,zO,zO,(31:Int)],h0)).bind fun aA=>(fun aH aI aJ aK aB aC aE aD=>Ex.l_ aA.1 none (fun aF=>Ex.inBlock 0 aF (some (.ret,[aC],aD)) (fun aG=>some (aG,[aB],aD)))) (gd aA.2.1 0) (gd aA.2.1 1) (gd aA.2.1 2) (gd aA.2.1 3) (gd aA.2.1 4) (gd aA.2.1 5) (gd aA.2.1 6) aA.2.2).bind (mA (aa5 h0))
theorem Z7 K a0 a1 a2 a3 h0:nN K 130 [a0,a1,a2,a3] h0=avF (lG mJ K) a0 a1 a2 a3 h0:=by kernel_rfl
def t130 (p0:Int) (p1:Int) (p2:Int) (p3:Int):Option (Int) :=
 tb (rX (AF p0 p1 p2 p3) (0,31)) fun aA=>uL aA.1 none fun aB=>vO 0 aB (some aA.2.1) fun aC=>Ao aC (some 0)
theorem ab3 (p0:Int) (p1:Int) (p2:Int) (p3:Int) (h:kO):KK 130 [p0,p1,p2,p3] h=tm (t130 p0 p1 p2 p3) fun r=>(.ret r,h):=lJ rfl rfl (Z7 ..) (by
 simp [-rZ,-oZ,-oJ,-p5,-pV,-qX,-qY,avF,t130,ab9,mA])
def auT (K:kT) (a0:kN) (h0:kO):Option (mR×kO) :=
 (ca (K 130 [(kN.kP zO),(kN.kP a0),(kN.kP zO),(kN.kP zO)] h0) fun aB aA=>some (.ret,[aB],aA)).bind (mA (aa5 h0))
theorem ZH K a0 h0:nN K 104 [a0] h0=auT (lG mJ K) a0 h0:=by kernel_rfl
def t104 (p0:Int):Option (Int) :=
 tb ((t130 0 p0 0 0)) fun aA=>some aA
theorem aD0 (p0:Int) (h:kO):KK 104 [p0] h=tm (t104 p0) fun r=>(.ret r,h):=lJ rfl rfl (ZH ..) (by
 simp [-rZ,-oZ,-oJ,-p5,-pV,-qX,-qY,auT,t104,ab3,mA])
def auU (K:kT) (a0 a1:kN) (h0:kO):Option (mR×kO) :=
 (ca (K 130 [(kN.kP zO),(kN.kP a0),(kN.kP a1),(kN.kP (1:Int))] h0) fun aB aA=>some (.ret,[aB],aA)).bind (mA (aa5 h0))
theorem ZI K a0 a1 h0:nN K 105 [a0,a1] h0=auU (lG mJ K) a0 a1 h0:=by kernel_rfl
def t105 (p0:Int) (p1:Int):Option (Int) :=
 tb ((t130 0 p0 p1 1)) fun aA=>some aA
theorem wT (p0:Int) (p1:Int) (h:kO):KK 105 [p0,p1] h=tm (t105 p0 p1) fun r=>(.ret r,h):=lJ rfl rfl (ZI ..) (by
 simp [-rZ,-oZ,-oJ,-p5,-pV,-qX,-qY,auU,t105,ab3,mA])
def auV (K:kT) (a0 a1:kN) (h0:kO):Option (mR×kO) :=
 (ca (K 130 [(kN.kP zO),(kN.kP a0),(kN.kP a1),(kN.kP (2:Int))] h0) fun aB aA=>some (.ret,[aB],aA)).bind (mA (aa5 h0))
theorem ZJ K a0 a1 h0:nN K 106 [a0,a1] h0=auV (lG mJ K) a0 a1 h0:=by kernel_rfl
def t106 (p0:Int) (p1:Int):Option (Int) :=
 tb ((t130 0 p0 p1 2)) fun aA=>some aA
theorem Gm (p0:Int) (p1:Int) (h:kO):KK 106 [p0,p1] h=tm (t106 p0 p1) fun r=>(.ret r,h):=lJ rfl rfl (ZJ ..) (by
 simp [-rZ,-oZ,-oJ,-p5,-pV,-qX,-qY,auV,t106,ab3,mA])
def auW (K:kT) (a0 a1:kN) (h0:kO):Option (mR×kO) :=
 (ca (K 130 [(kN.kP zO),(kN.kP a0),(kN.kP a1),(kN.kP (3:Int))] h0) fun aB aA=>some (.ret,[aB],aA)).bind (mA (aa5 h0))
theorem ZK K a0 a1 h0:nN K 107 [a0,a1] h0=auW (lG mJ K) a0 a1 h0:=by kernel_rfl
def t107 (p0:Int) (p1:Int):Option (Int) :=
 tb ((t130 0 p0 p1 3)) fun aA=>some aA
theorem AV (p0:Int) (p1:Int) (h:kO):KK 107 [p0,p1] h=tm (t107 p0 p1) fun r=>(.ret r,h):=lJ rfl rfl (ZK ..) (by
 simp [-rZ,-oZ,-oJ,-p5,-pV,-qX,-qY,auW,t107,ab3,mA])
def auP (K:kT) (a0 a1:kN) (h0:kO):Option (mR×kO) :=
 (ca (K 88 [(kN.kP a1)] h0) fun aD aA=>ca (K 87 [(kN.kP aD)] aA) fun aE aB=>ca (K 108 [(kN.kP a0),(kN.kP aE)] aB) fun aF aC=>some (.ret,[aF],aC)).bind (mA (aa5 h0))
theorem ZD K a0 a1 h0:nN K 100 [a0,a1] h0=auP (lG mJ K) a0 a1 h0:=by kernel_rfl
def t100 (p0:Int) (p1:Int):Option (Int) :=
 tb ((t88 p1)) fun aA=>tb ((t87 aA)) fun aB=>tb ((t108 p0 aB)) fun aC=>some aC
theorem xN (p0:Int) (p1:Int) (h:kO):KK 100 [p0,p1] h=tm (t100 p0 p1) fun r=>(.ret r,h):=lJ rfl rfl (ZD ..) (by
 simp [-rZ,-oZ,-oJ,-p5,-pV,-qX,-qY,auP,t100,Ij,SN,aw9,mA])
def auQ (K:kT) (a0 a1:kN) (h0:kO):Option (mR×kO) :=
 (ca (K 31 [(kN.kP a0)] h0) fun aD aA=>ca (K 88 [(kN.kP a1)] aA) fun aE aB=>ca (K 87 [(kN.kP aE)] aB) fun aF aC=>bo .quo aD aF fun t29=>some (.ret,[t29],aC)).bind (mA (aa5 h0))
theorem ZE K a0 a1 h0:nN K 101 [a0,a1] h0=auQ (lG mJ K) a0 a1 h0:=by kernel_rfl
def t101 (p0:Int) (p1:Int):Option (Int) :=
 tb ((t31 p0)) fun aB=>tb ((t88 p1)) fun aC=>tb ((t87 aC)) fun aD=>tb ((A0 .i64 aB aD)) fun aA=>some aA
theorem DW (p0:Int) (p1:Int) (h:kO):KK 101 [p0,p1] h=tm (t101 p0 p1) fun r=>(.ret r,h):=lJ rfl rfl (ZE ..) (by
 simp [-rZ,-oZ,-oJ,-p5,-pV,-qX,-qY,auQ,t101,yP,Ij,SN,mA])
def Gx (K:kT) (m:Nat) (s:List kN×kO):Option R :=
 (fun aA aD aB aC aF=>ca (K 88 [(kN.kP aA)] aF) fun t29 aE=>bo .lss aC t29 fun t32=>kV t32 (bo .quo aB (2:Int) fun t33=>bo .quo aB (2147483648:Int) fun t35=>bo .mul t35 (2147483648:Int) fun aG=>bo .add t33 aG fun t38=>bo .add aC (1:Int) fun aH=>kZ m .normal [aA,aD,t38,aH] aE) (kZ m (.exit 0) [aA,aD,aB,aC] aE)) (gd s.1 0) (gd s.1 1) (gd s.1 2) (gd s.1 3) s.2
def AD (p1:Int) (Cg:Int×Int):Option (Ey×Int×Int) :=
 tb ((t88 p1)) fun yP=>tc (decide (Cg.2<yP)) (tb ((A0 .i64 Cg.1 2)) fun aA=>tb ((A0 .i64 Cg.1 2147483648)) fun aB=>some (.n,((IntKind.wrap .i64 (aA+(IntKind.wrap .i64 (aB*2147483648)))),(IntKind.wrap .i64 (Cg.2+1))))) (some ((.x 0),(Cg.1,Cg.2)))
theorem YO (p1:Int) (Cg:Int×Int):Gx KK 0 ([p1,zO,Cg.1,Cg.2],([]:kO))=tm (β:=R) (AD p1 Cg) fun r=>(r.1.ex,[p1,zO,r.2.1,r.2.2],([]:kO)):=by
 simp [-rZ,-oZ,-oJ,-p5,-pV,-qX,-qY,Gx,AD,Ij]
theorem abI (p1:Int) (i2:Int) (i3:Int):nP (Gx KK 0) ([p1,zO,i2,i3],([]:kO))=tm (β:=R) (rX (AD p1) (i2,i3)) fun r=>(r.1.ex,[p1,zO,r.2.1,r.2.2],([]:kO)):=by
 exact uE (enc:=fun Cg=>([(.int .i64 p1),(.int .i64 0),(.int .i64 Cg.1),(.int .i64 Cg.2)],([]:kO))) (fun Cg=>YO p1 Cg) (i2,i3)
def auR (K:kT) (a0 a1:kN) (h0:kO):Option (mR×kO) :=
 (ca (K 31 [(kN.kP a0)] h0) fun aJ aD=>(nP (Gx K (aa5 aD)) ([a1,zO,aJ,zO],aD)).bind fun aA=>(fun aF aB aC aG aE=>Ex.l_ aA.1 none (fun aH=>Ex.inBlock 0 aH (some (.ret,[aC],aE)) (fun aI=>some (aI,[aB],aE)))) (gd aA.2.1 0) (gd aA.2.1 1) (gd aA.2.1 2) (gd aA.2.1 3) aA.2.2).bind (mA (aa5 h0))
theorem ZF K a0 a1 h0:nN K 102 [a0,a1] h0=auR (lG mJ K) a0 a1 h0:=by kernel_rfl
def t102 (p0:Int) (p1:Int):Option (Int) :=
 tb ((t31 p0)) fun aD=>tb (rX (AD p1) (aD,0)) fun aA=>uL aA.1 none fun aB=>vO 0 aB (some aA.2.1) fun aC=>Ao aC (some 0)
theorem al7 (p0:Int) (p1:Int) (h:kO):KK 102 [p0,p1] h=tm (t102 p0 p1) fun r=>(.ret r,h):=lJ rfl rfl (ZF ..) (by
 simp [-rZ,-oZ,-oJ,-p5,-pV,-qX,-qY,auR,t102,yP,abI,mA])
def Gy (K:kT) (m:Nat) (s:List kN×kO):Option R :=
 (fun aA aD aB aC aF=>ca (K 88 [(kN.kP aA)] aF) fun t29 aE=>bo .lss aC t29 fun t32=>kV t32 (bo .quo aB (2:Int) fun t33=>bo .rem aB (2:Int) fun t35=>bo .mul t35 (2147483648:Int) fun aG=>bo .add t33 aG fun t38=>bo .add aC (1:Int) fun aH=>kZ m .normal [aA,aD,t38,aH] aE) (kZ m (.exit 0) [aA,aD,aB,aC] aE)) (gd s.1 0) (gd s.1 1) (gd s.1 2) (gd s.1 3) s.2
def AE (p1:Int) (Cg:Int×Int):Option (Ey×Int×Int) :=
 tb ((t88 p1)) fun yP=>tc (decide (Cg.2<yP)) (tb ((A0 .i64 Cg.1 2)) fun aA=>tb ((qA Cg.1 2)) fun aB=>some (.n,((IntKind.wrap .i64 (aA+(IntKind.wrap .i64 (aB*2147483648)))),(IntKind.wrap .i64 (Cg.2+1))))) (some ((.x 0),(Cg.1,Cg.2)))
theorem YP (p1:Int) (Cg:Int×Int):Gy KK 0 ([p1,zO,Cg.1,Cg.2],([]:kO))=tm (β:=R) (AE p1 Cg) fun r=>(r.1.ex,[p1,zO,r.2.1,r.2.2],([]:kO)):=by
 simp [-rZ,-oZ,-oJ,-p5,-pV,-qX,-qY,Gy,AE,Ij]
theorem abJ (p1:Int) (i2:Int) (i3:Int):nP (Gy KK 0) ([p1,zO,i2,i3],([]:kO))=tm (β:=R) (rX (AE p1) (i2,i3)) fun r=>(r.1.ex,[p1,zO,r.2.1,r.2.2],([]:kO)):=by
 exact uE (enc:=fun Cg=>([(.int .i64 p1),(.int .i64 0),(.int .i64 Cg.1),(.int .i64 Cg.2)],([]:kO))) (fun Cg=>YP p1 Cg) (i2,i3)
def auS (K:kT) (a0 a1:kN) (h0:kO):Option (mR×kO) :=
 (ca (K 31 [(kN.kP a0)] h0) fun aJ aD=>(nP (Gy K (aa5 aD)) ([a1,zO,aJ,zO],aD)).bind fun aA=>(fun aF aB aC aG aE=>Ex.l_ aA.1 none (fun aH=>Ex.inBlock 0 aH (some (.ret,[aC],aE)) (fun aI=>some (aI,[aB],aE)))) (gd aA.2.1 0) (gd aA.2.1 1) (gd aA.2.1 2) (gd aA.2.1 3) aA.2.2).bind (mA (aa5 h0))
theorem ZG K a0 a1 h0:nN K 103 [a0,a1] h0=auS (lG mJ K) a0 a1 h0:=by kernel_rfl
def t103 (p0:Int) (p1:Int):Option (Int) :=
 tb ((t31 p0)) fun aD=>tb (rX (AE p1) (aD,0)) fun aA=>uL aA.1 none fun aB=>vO 0 aB (some aA.2.1) fun aC=>Ao aC (some 0)
theorem UR (p0:Int) (p1:Int) (h:kO):KK 103 [p0,p1] h=tm (t103 p0 p1) fun r=>(.ret r,h):=lJ rfl rfl (ZG ..) (by
 simp [-rZ,-oZ,-oJ,-p5,-pV,-qX,-qY,auS,t103,yP,abJ,mA])
def m62 (K:kT) (a0 a1:kN) (h0:kO):Option (mR×kO) :=
 (ca (K 88 [(kN.kP a1)] h0) fun aG aC=>ca (K 87 [(kN.kP aG)] aC) fun aB aD=>ca (K 73 [(kN.kP a0),(kN.kP a1)] aD) fun aH aA=>bo .eql aH (1:Int) fun t29=>kV t29 (ca (K 31 [(kN.kP a0)] aA) fun aI aE=>bo .sub aI aB fun t33=>some (.ret,[t33],aE)) (ca (K 31 [(kN.kP a0)] aA) fun aJ aF=>bo .add aJ aB fun aK=>some (.ret,[aK],aF))).bind (mA (aa5 h0))
theorem akP K a0 a1 h0:nN K 62 [a0,a1] h0=m62 (lG mJ K) a0 a1 h0:=by kernel_rfl
def t62 (p0:Int) (p1:Int):Option (Int) :=
 tb ((t88 p1)) fun aB=>tb ((t87 aB)) fun aA=>tb ((t73 p0 p1)) fun aC=>tc (decide (aC=1)) (tb ((t31 p0)) fun xG=>some (IntKind.wrap .i64 (xG-aA))) (tb ((t31 p0)) fun Co=>some (IntKind.wrap .i64 (Co+aA)))
theorem F0 (p0:Int) (p1:Int) (h:kO):KK 62 [p0,p1] h=tm (t62 p0 p1) fun r=>(.ret r,h):=lJ rfl rfl (akP ..) (by
 simp [-rZ,-oZ,-oJ,-p5,-pV,-qX,-qY,m62,t62,Ij,SN,r73,yP,mA])
def m14 (K:kT) (a0:kN) (h0:kO):Option (mR×kO) :=
 ((nG a0).bind fun aA=>bo .neq aA (4:Int) fun aB=>kV aB (some (.ret,[zO,false],h0)) ((mS a0 zO).bind fun aC=>(mC .i64 aC).bind fun t24=>(mS a0 (1:Int)).bind fun aD=>(mC .i64 aD).bind fun t27=>bo .mul (256:Int) t27 fun aE=>bo .add t24 aE fun t29=>(mS a0 (2:Int)).bind fun aF=>(mC .i64 aF).bind fun t32=>bo .mul (65536:Int) t32 fun t33=>bo .add t29 t33 fun aG=>(mS a0 (3:Int)).bind fun t35=>(mC .i64 t35).bind fun aH=>bo .mul (16777216:Int) aH fun t38=>bo .add aG t38 fun aI=>some (.ret,[aI,true],h0))).bind (Cm (aa5 h0))
theorem ajI K a0 h0:nN K 14 [a0] h0=m14 (lG mJ K) a0 h0:=by kernel_rfl
def t14 (p0:(List UInt8)):Option (Int×Bool) :=
 tc (!decide (((p0.length:Nat):Int)=4)) (some (0,false)) (tb ((uU p0 0)) fun aA=>tb ((uU p0 1)) fun aB=>tb ((uU p0 2)) fun aC=>tb ((uU p0 3)) fun aD=>some ((IntKind.wrap .i64 ((IntKind.wrap .i64 ((IntKind.wrap .i64 ((IntKind.wrap .i64 aA)+(IntKind.wrap .i64 (256*(IntKind.wrap .i64 aB)))))+(IntKind.wrap .i64 (65536*(IntKind.wrap .i64 aC)))))+(IntKind.wrap .i64 (16777216*(IntKind.wrap .i64 aD))))),true))
theorem r14 (p0:(List UInt8)) (h:kO):KK 14 [p0] h=tm (t14 p0) fun r=>(.ret (.tuple [r.1,r.2]),h):=lJ rfl rfl (ajI ..) (by
 simp [-rZ,-oZ,-oJ,-p5,-pV,-qX,-qY,m14,t14,Cm])
end
end
noncomputable section
open Go Hk
section
set_option maxHeartbeats 8000000
theorem ahR (y0:Int) (y1:Int) (y2:Int) (y3:Int) (h:kO):lE 4 1 [(.int .u8 0)] [(0,(.int .u8 y0)),(1,(.int .u8 y1)),(2,(.int .u8 y2)),(3,(.int .u8 y3))] h=some (.slice (Rw (ci .u8) [y0,y1,y2,y3]) (.own h.length),h++[qL 1 4]):=by
 rfl
def m24 (K:kT) (a0:kN) (h0:kO):Option (mR×kO) :=
 (ca (K 31 [(kN.kP a0)] h0) fun aA aB=>bo .rem aA (256:Int) fun aD=>(mC .u8 aD).bind fun aE=>bo .quo aA (256:Int) fun aF=>bo .rem aF (256:Int) fun aG=>(mC .u8 aG).bind fun aH=>bo .quo aA (65536:Int) fun t31=>bo .rem t31 (256:Int) fun t33=>(mC .u8 t33).bind fun t35=>bo .quo aA (16777216:Int) fun t36=>(mC .u8 t36).bind fun t38=>kW (lE 4 1 [(.int .u8 0)] [(0,aE),(1,aH),(2,t35),(3,t38)] aB) fun aI aC=>(rM aI).bind fun aJ=>some (.ret,[aJ],aC)).bind (mA (aa5 h0))
theorem ajR K a0 h0:nN K 24 [a0] h0=m24 (lG mJ K) a0 h0:=by kernel_rfl
def t24 (p0:Int):Option ((List UInt8)) :=
 tb ((t31 p0)) fun aA=>tb ((qA aA 256)) fun aB=>tb ((A0 .i64 aA 256)) fun aC=>tb ((qA aC 256)) fun aD=>tb ((A0 .i64 aA 65536)) fun aE=>tb ((qA aE 256)) fun aF=>tb ((A0 .i64 aA 16777216)) fun aG=>some (tby [(IntKind.wrap .u8 aB),(IntKind.wrap .u8 aD),(IntKind.wrap .u8 aF),(IntKind.wrap .u8 aG)])
theorem pY (p0:Int) (h:kO):KK 24 [p0] h=tm (t24 p0) fun r=>(.ret r,h):=lJ rfl rfl (ajR ..) (by
 simp [-rZ,-oZ,-oJ,-p5,-pV,-qX,-qY,m24,t24,yP,ahR,mA])
theorem ahV (y0:Int) (h:kO):lE 1 1 [(.int .u8 0)] [(0,(.int .u8 y0))] h=some (.slice (Rw (ci .u8) [y0]) (.own h.length),h++[qL 1 1]):=by
 rfl
def Mu (K:kT) (m:Nat) (s:List kN×kO):Option R :=
 (fun aA aC aD aB aE=>bo .lss aB (16:Int) fun aG=>kV aG (bo .rem aA (2:Int) fun t27=>bo .add (48:Int) t27 fun t29=>(mC .u8 t29).bind fun aH=>kW (lE 1 1 [(.int .u8 0)] [(0,aH)] aE) fun t31 aF=>(rM t31).bind fun t33=>bo .add t33 aD fun aI=>bo .quo aA (2:Int) fun t36=>bo .add aB (1:Int) fun t38=>kZ m .normal [t36,aC,aI,t38] aF) (kZ m (.exit 0) [aA,aC,aD,aB] aE)) (gd s.1 0) (gd s.1 1) (gd s.1 2) (gd s.1 3) s.2
def CY (oA:Int×(List UInt8)×Int):Option (Ey×Int×(List UInt8)×Int) :=
 tc (decide (oA.2.2<16)) (tb ((qA oA.1 2)) fun aA=>tb ((C0 (tby [(IntKind.wrap .u8 (IntKind.wrap .i64 (48+aA)))]) oA.2.1)) fun aB=>tb ((A0 .i64 oA.1 2)) fun aC=>some (.n,(aC,aB,(IntKind.wrap .i64 (oA.2.2+1))))) (some ((.x 0),(oA.1,oA.2.1,oA.2.2)))
theorem ahD (oA:Int×(List UInt8)×Int):Mu KK 0 ([oA.1,(.str []),oA.2.1,oA.2.2],([]:kO))=tm (β:=R) (CY  oA) fun r=>(r.1.ex,[r.2.1,(.str []),r.2.2.1,r.2.2.2],([]:kO)):=by
 simp [-rZ,-oZ,-oJ,-p5,-pV,-qX,-qY,Mu,CY,ahV]
theorem anK (i0:Int) (i3:Int):nP (Mu KK 0) ([i0,(.str []),(.str []),i3],([]:kO))=tm (β:=R) (rX (CY ) (i0,[],i3)) fun r=>(r.1.ex,[r.2.1,(.str []),r.2.2.1,r.2.2.2],([]:kO)):=by
 exact uE (enc:=fun oA=>([(.int .i64 oA.1),(.str []),(.str oA.2.1),(.int .i64 oA.2.2)],([]:kO))) (fun oA=>ahD  oA) (i0,[],i3)
def m89 (K:kT) (a0:kN) (h0:kO):Option (mR×kO) :=
 ((nP (Mu K (aa5 h0)) ([a0,(.str []),(.str []),zO],h0)).bind fun aA=>(fun aE aB aC aF aD=>Ex.l_ aA.1 none (fun aG=>Ex.inBlock 0 aG (some (.ret,[aC],aD)) (fun aH=>some (aH,[aB],aD)))) (gd aA.2.1 0) (gd aA.2.1 1) (gd aA.2.1 2) (gd aA.2.1 3) aA.2.2).bind (mA (aa5 h0))
theorem alG K a0 h0:nN K 89 [a0] h0=m89 (lG mJ K) a0 h0:=by kernel_rfl
def t89 (p0:Int):Option ((List UInt8)) :=
 tb (rX (CY ) (p0,[],0)) fun aA=>uL aA.1 none fun aB=>vO 0 aB (some aA.2.2.1) fun aC=>Ao aC (some [])
theorem Pk (p0:Int) (h:kO):KK 89 [p0] h=tm (t89 p0) fun r=>(.ret r,h):=lJ rfl rfl (alG ..) (by
 simp [-rZ,-oZ,-oJ,-p5,-pV,-qX,-qY,m89,t89,anK,mA])
def Qr (K:kT) (t110:kN) (aA:kO):Option R :=
 kV t110 (some (.ret,[(5:Int)],aA)) (some (.ret,[zO],aA))
def Nm (aA:Bool):Option (Int) :=
 tc aA (some 5) (some 0)
theorem Ic (w113:Bool) (p0:Sz):((Qr KK w113 ([.cells [p0.inn,p0.outt,p0.rail]]:kO))).bind (mA 0)=tm (Nm w113) fun r=>(.ret r,[]):=by
 cases w113 <;> simp [-rZ,-oZ,-oJ,-p5,-pV,-qX,-qY,Qr,Nm,mA]
def Qq (K:kT) (t93:kN) (aA:kO) (aD:kN) (a1:kN):Option R :=
 kV t93 (some (.ret,[(2:Int)],aA)) (fa 0 aD fun t97=>ld false 1 aA t97 fun t98=>fa 1 aD fun aE=>ld false 1 aA aE fun t100=>fa 2 aD fun t101=>ld false 1 aA t101 fun t102=>(Di t98 [t100,t102]).bind fun t103=>bo .gtr t103 (65536:Int) fun t104=>gS false t104 (lI a1 aA) aA fun t105 aB=>gS false t104 (bo .gtr t105 (262144:Int) fun t107=>lI t107 aB) aB fun t108 aC=>(lH t104 true t108).bind fun t110=>Qr K t110 aC)
def Iq (aA:Bool) (p0:Sz) (p1:Int):Option (Int) :=
 tc aA (some 2) (tc (decide (65536<(max (max p0.inn p0.outt) p0.rail))) (Nm true) (Nm (decide (262144<p1))))
theorem M8 (w96:Bool) (p0:Sz) (p1:Int):((Qq KK w96 ([.cells [p0.inn,p0.outt,p0.rail]]:kO) (.ptr 0 0) p1)).bind (mA 0)=tm (Iq w96 p0 p1) fun r=>(.ret r,[]):=by
 cases w96 <;> simp +contextual [-rZ,-oZ,-oJ,-p5,-pV,-qX,-qY,Qq,Iq,mA,Ic]
def Qp (K:kT) (t76:kN) (aE:kN) (aB:kO) (a1:kN):Option R :=
 gS false t76 (fa 2 aE fun t80=>lI t80 aB) aB fun aG aA=>gS false t76 (ld false 1 aA aG fun aH=>lI aH aA) aA fun aI aC=>gS false t76 (bo .rem aI (4:Int) fun aJ=>lI aJ aC) aC fun t88 aD=>gS false t76 (bo .neq t88 zO fun t90=>lI t90 aD) aD fun t91 aF=>(lH t76 true t91).bind fun t93=>Qq K t93 aF aE a1
def Fl (aB:Bool) (p0:Sz) (p1:Int):Option (Int) :=
 tc aB (Iq true p0 p1) (tb ((qA p0.rail 4)) fun aA=>Iq (!decide (aA=0)) p0 p1)
theorem SE (w79:Bool) (p0:Sz) (p1:Int):((Qp KK w79 (.ptr 0 0) ([.cells [p0.inn,p0.outt,p0.rail]]:kO) p1)).bind (mA 0)=tm (Fl w79 p0 p1) fun r=>(.ret r,[]):=by
 cases w79 <;> simp [-rZ,-oZ,-oJ,-p5,-pV,-qX,-qY,Qp,Fl,mA,Ic,M8]
def Qo (K:kT) (aA:kN) (aF:kN) (aC:kO) (a1:kN):Option R :=
 gS false aA (fa 1 aF fun t63=>lI t63 aC) aC fun t64 aB=>gS false aA (ld false 1 aB t64 fun t66=>lI t66 aB) aB fun t67 aD=>gS false aA (bo .rem t67 (4:Int) fun aH=>lI aH aD) aD fun t71 aE=>gS false aA (bo .neq t71 zO fun t73=>lI t73 aE) aE fun t74 aG=>(lH aA true t74).bind fun t76=>Qp K t76 aF aG a1
def Fk (aB:Bool) (p0:Sz) (p1:Int):Option (Int) :=
 tc aB (Fl true p0 p1) (tb ((qA p0.outt 4)) fun aA=>Fl (!decide (aA=0)) p0 p1)
theorem WU (w62:Bool) (p0:Sz) (p1:Int):((Qo KK w62 (.ptr 0 0) ([.cells [p0.inn,p0.outt,p0.rail]]:kO) p1)).bind (mA 0)=tm (Fk w62 p0 p1) fun r=>(.ret r,[]):=by
 cases w62 <;> simp [-rZ,-oZ,-oJ,-p5,-pV,-qX,-qY,Qo,Fk,mA,Ic,M8,SE]
def Qn (K:kT) (aA:kN) (aF:kN) (aC:kO) (a1:kN):Option R :=
 gS false aA (fa 0 aF fun t46=>lI t46 aC) aC fun aH aB=>gS false aA (ld false 1 aB aH fun t49=>lI t49 aB) aB fun aI aD=>gS false aA (bo .rem aI (4:Int) fun t52=>lI t52 aD) aD fun t54 aE=>gS false aA (bo .neq t54 zO fun aJ=>lI aJ aE) aE fun t57 aG=>(lH aA true t57).bind fun aK=>Qo K aK aF aG a1
def Fj (aB:Bool) (p0:Sz) (p1:Int):Option (Int) :=
 tc aB (Fk true p0 p1) (tb ((qA p0.inn 4)) fun aA=>Fk (!decide (aA=0)) p0 p1)
theorem amE (w43:Bool) (p0:Sz) (p1:Int):((Qn KK w43 (.ptr 0 0) ([.cells [p0.inn,p0.outt,p0.rail]]:kO) p1)).bind (mA 0)=tm (Fj w43 p0 p1) fun r=>(.ret r,[]):=by
 cases w43 <;> simp [-rZ,-oZ,-oJ,-p5,-pV,-qX,-qY,Qn,Fj,mA,Ic,M8,SE,WU]
def m15 (K:kT) (a0 a1:kN) (h0:kO):Option (mR×kO) :=
 (kW (lR 3 h0 a0) fun aB aA=>fa 0 aB fun aG=>ld false 1 aA aG fun aH=>fa 1 aB fun t24=>ld false 1 aA t24 fun aI=>fa 2 aB fun aJ=>ld false 1 aA aJ fun t27=>bo .sub t27 (4:Int) fun aK=>(Dj aH [aI,aK,a1]).bind fun t29=>bo .lss t29 zO fun aC=>gS false aC (fa 2 aB fun t31=>lI t31 aA) aA fun t32 aD=>gS false aC (ld false 1 aD t32 fun aL=>lI aL aD) aD fun t35 aE=>gS false aC (bo .lss t35 (4:Int) fun aM=>lI aM aE) aE fun t38 aF=>(lH aC true t38).bind fun aN=>Qn K aN aB aF a1).bind (mA (aa5 h0))
theorem ajJ K a0 a1 h0:nN K 15 [a0,a1] h0=m15 (lG mJ K) a0 a1 h0:=by kernel_rfl
def t15 (p0:Sz) (p1:Int):Option (Int) :=
 tc (decide ((min (min (min p0.inn p0.outt) (IntKind.wrap .i64 (p0.rail-4))) p1)<0)) (Fj true p0 p1) (Fj (decide (p0.rail<4)) p0 p1)
theorem r15 (p0:Sz) (p1:Int) (h:kO):KK 15 [(.agg [p0.inn,p0.outt,p0.rail]),p1] h=tm (t15 p0 p1) fun r=>(.ret r,h):=lJ rfl rfl (ajJ ..) (by
 simp +contextual [-rZ,-oZ,-oJ,-p5,-pV,-qX,-qY,m15,t15,mA,Ic,M8,SE,WU,amE])
end
end
noncomputable section
open Go Hk
section
set_option maxHeartbeats 8000000
def Mg (K:kT) (m:Nat) (s:List kN×kO):Option R :=
 (fun aB aC aD aE aA aF=>bo .lss aA (4:Int) fun t31=>kV t31 ((mS aB aA).bind fun t32=>(mC .i64 t32).bind fun aG=>bo .mul (8:Int) aA fun t35=>bo .shl aG t35 fun t36=>bo .or aE t36 fun t38=>bo .add aA (1:Int) fun aH=>kZ m .normal [aB,aC,aD,t38,aH] aF) (kZ m (.exit 0) [aB,aC,aD,aE,aA] aF)) (gd s.1 0) (gd s.1 1) (gd s.1 2) (gd s.1 3) (gd s.1 4) s.2
def wE (p0:(List UInt8)) (aA:Int×Int):Option (Ey×Int×Int) :=
 tc (decide (aA.2<4)) (tb ((uU p0 aA.2)) fun aB=>tb ((qP .i64 (IntKind.wrap .i64 aB) (IntKind.wrap .i64 (8*aA.2)))) fun aC=>some (.n,((sD .i64 aA.1 aC),(IntKind.wrap .i64 (aA.2+1))))) (some ((.x 0),(aA.1,aA.2)))
theorem ag8 (p0:(List UInt8)) (s24:Int×Int):Mg KK 0 ([p0,zO,false,s24.1,s24.2],([]:kO))=tm (β:=R) (wE p0 s24) fun r=>(r.1.ex,[p0,zO,false,r.2.1,r.2.2],([]:kO)):=by
 simp [-rZ,-oZ,-oJ,-p5,-pV,-qX,-qY,Mg,wE]
theorem am2 (p0:(List UInt8)) (i3:Int) (i4:Int):nP (Mg KK 0) ([p0,zO,false,i3,i4],([]:kO))=tm (β:=R) (rX (wE p0) (i3,i4)) fun r=>(r.1.ex,[p0,zO,false,r.2.1,r.2.2],([]:kO)):=by
 exact uE (enc:=fun s24=>([(.str p0),(.int .i64 0),(.bool false),(.int .i64 s24.1),(.int .i64 s24.2)],([]:kO))) (fun s24=>ag8 p0 s24) (i3,i4)
def m52 (K:kT) (a0:kN) (h0:kO):Option (mR×kO) :=
 ((nG a0).bind fun aJ=>bo .neq aJ (4:Int) fun aK=>kV aK (some (.ret,[zO,false],h0)) ((nP (Mg K (aa5 h0)) ([a0,zO,false,zO,zO],h0)).bind fun aA=>(fun aF aB aC aD aG aE=>Ex.l_ aA.1 none (fun aH=>Ex.inBlock 0 aH (some (.ret,[aD,true],aE)) (fun aI=>some (aI,[aB,aC],aE)))) (gd aA.2.1 0) (gd aA.2.1 1) (gd aA.2.1 2) (gd aA.2.1 3) (gd aA.2.1 4) aA.2.2)).bind (Cm (aa5 h0))
theorem akF K a0 h0:nN K 52 [a0] h0=m52 (lG mJ K) a0 h0:=by kernel_rfl
def t52 (p0:(List UInt8)):Option (Int×Bool) :=
 tc (!decide (((p0.length:Nat):Int)=4)) (some (0,false)) (tb (rX (wE p0) (0,0)) fun aA=>uL aA.1 none fun aB=>vO 0 aB (some (aA.2.1,true)) fun aC=>Ao aC (some (0,false)))
theorem CH (p0:(List UInt8)) (h:kO):KK 52 [p0] h=tm (t52 p0) fun r=>(.ret (.tuple [r.1,r.2]),h):=lJ rfl rfl (akF ..) (by
 simp [-rZ,-oZ,-oJ,-p5,-pV,-qX,-qY,m52,t52,am2,Cm])
def L_ (K:kT) (t65:kN) (aA:kO):Option R :=
 some (.ret,[t65],aA)
def Eo (aA:Bool):Option (Bool) :=
 some aA
theorem TO (w68:Bool) (p0:mZ):((L_ KK w68 ([.cells [p0.base,p0.len,p0.write]]:kO))).bind (mA 0)=tm (Eo w68) fun r=>(.ret r,[]):=by
 cases w68 <;> simp [-rZ,-oZ,-oJ,-p5,-pV,-qX,-qY,L_,Eo,mA]
def L9 (K:kT) (t36:kN) (a1:kN) (aC:kO) (aJ:kN) (a2:kN):Option R :=
 gS true t36 (lI a1 aC) aC fun aL aD=>gS true t36 (fa 0 aJ fun t42=>lI t42 aD) aD fun aM aA=>gS true t36 (ld false 1 aA aM fun t45=>lI t45 aA) aA fun t46 aE=>gS true t36 (bo .sub aL t46 fun t48=>lI t48 aE) aE fun t49 aF=>gS true t36 (fa 1 aJ fun aN=>lI aN aF) aF fun t52 aB=>gS true t36 (ld false 1 aB t52 fun t54=>lI t54 aB) aB fun t55 aG=>gS true t36 (lI a2 aG) aG fun t57 aH=>gS true t36 (bo .sub t55 t57 fun aO=>lI aO aH) aH fun aP aI=>gS true t36 (bo .leq t49 aP fun t62=>lI t62 aI) aI fun t63 aK=>(lH t36 t63 false).bind fun t65=>L_ K t65 aK
def En (aA:Bool) (p1:Int) (p0:mZ) (p2:Int):Option (Bool) :=
 tc aA (Eo (decide ((IntKind.wrap .i64 (p1-p0.base))≤(IntKind.wrap .i64 (p0.len-p2))))) (Eo false)
theorem acJ (w39:Bool) (p1:Int) (p0:mZ) (p2:Int):((L9 KK w39 p1 ([.cells [p0.base,p0.len,p0.write]]:kO) (.ptr 0 0) p2)).bind (mA 0)=tm (En w39 p1 p0 p2) fun r=>(.ret r,[]):=by
 cases w39 <;> simp [-rZ,-oZ,-oJ,-p5,-pV,-qX,-qY,L9,En,mA,TO]
def av0 (K:kT) (a0 a1 a2:kN) (h0:kO):Option (mR×kO) :=
 (kW (lR 3 h0 a0) fun aC aA=>fa 0 aC fun aG=>ld false 1 aA aG fun aH=>bo .geq a1 aH fun t24=>gS true t24 (fa 1 aC fun aI=>lI aI aA) aA fun aJ aB=>gS true t24 (ld false 1 aB aJ fun aK=>lI aK aB) aB fun t29 aD=>gS true t24 (lI a2 aD) aD fun t31 aE=>gS true t24 (bo .geq t29 t31 fun t33=>lI t33 aE) aE fun aL aF=>(lH t24 aL false).bind fun t36=>L9 K t36 a1 aF aC a2).bind (mA (aa5 h0))
theorem aaU K a0 a1 a2 h0:nN K 154 [a0,a1,a2] h0=av0 (lG mJ K) a0 a1 a2 h0:=by kernel_rfl
def t154 (p0:mZ) (p1:Int) (p2:Int):Option (Bool) :=
 tc (decide (p0.base≤p1)) (En (decide (p2≤p0.len)) p1 p0 p2) (En false p1 p0 p2)
theorem amD (p0:mZ) (p1:Int) (p2:Int) (h:kO):KK 154 [(.agg [p0.base,p0.len,p0.write]),p1,p2] h=tm (t154 p0 p1 p2) fun r=>(.ret r,h):=lJ rfl rfl (aaU ..) (by
 simp +contextual [-rZ,-oZ,-oJ,-p5,-pV,-qX,-qY,av0,t154,mA,TO,acJ])
def L7 (K:kT) (m:Nat) (t68:kN) (aD:kN) (aE:kN) (aF:kN) (aG:kN) (aH:kN) (aB:kN) (aC:kN) (aA:kN) (aI:kO):Option R :=
 kV t68 (kZ m (.exit 1) [aD,aE,aF,aG,aH,aB,aC,aA] aI) (kZ m .ret [aD,aE,aF,aA,zO,aB,aC,aA] aI)
def Em (aC:Bool) (aB:Bool) (aD:Int) (aA:Int):Option (Ey×Bool×Int×Int) :=
 tc aC (some ((.x 1),(aB,aD,aA))) (some (.r,(aB,aA,aA)))
theorem acG (w72:Bool) (p1:Int) (p2:Int) (w69:Bool) (w73:Int) (p0:(List mZ)) (w35:Int) (w74:Int) (u48:mZ):(L7 KK 0 w72 p1 p2 w69 w73 zO (.slice (Rw mZ.cells p0) .no) w35 w74 ([.cells [u48.base,u48.len,u48.write]]:kO))=tm (β:=R) (Em w72 w69 w73 w74) fun r=>(r.1.ex,[p1,p2,r.2.1,r.2.2.1,zO,(.slice (Rw mZ.cells p0) .no),w35,r.2.2.2],([]:kO)):=by
 cases w72 <;> simp [-rZ,-oZ,-oJ,-p5,-pV,-qX,-qY,L7,Em,amD]
def GD (K:kT) (m:Nat) (s:List kN×kO):Option R :=
 (fun aE aF aB aG aH aC aD aA aI=>bo .lss aA aD fun t46=>kV t46 (ix 3 aC aA fun aQ=>ld true 3 aI aQ fun t49=>kW (lR 3 aI (.agg [zO,zO,false])) fun aL aO=>(kR 3 aO aL t49).bind fun aM=>ld true 3 aM aL fun t53=>ca (K 154 [(kN.kP t53),(kN.kP aE),(kN.kP aF)] aM) fun t54 aJ=>(vN .not t54).bind fun t57=>kV t57 (bo .add aA (1:Int) fun aR=>kZ m .normal [aE,aF,aB,aG,aH,aC,aD,aR] aJ) (gS true aB (fa 2 aL fun aS=>lI aS aJ) aJ fun aT aK=>gS true aB (ld false 1 aK aT fun t62=>lI t62 aK) aK fun t63 aN=>gS true aB ((vN .not t63).bind fun t65=>lI t65 aN) aN fun t66 aP=>(lH aB t66 false).bind fun t68=>L7 K m t68 aE aF aB aG aH aC aD aA aP)) (kZ m (.exit 1) [aE,aF,aB,aG,aH,aC,aD,aA] aI)) (gd s.1 0) (gd s.1 1) (gd s.1 2) (gd s.1 3) (gd s.1 4) (gd s.1 5) (gd s.1 6) (gd s.1 7) s.2
def xP (p1:Int) (p2:Int) (p0:(List mZ)) (aD:Int) (aA:Bool×Int×Int):Option (Ey×Bool×Int×Int) :=
 tc (decide (aA.2.2<aD)) (tb ((sF p0 aA.2.2)) fun aB=>tb ((t154 aB p1 p2)) fun aC=>tc (!aC) (some (.n,(aA.1,aA.2.1,(IntKind.wrap .i64 (aA.2.2+1))))) (tc aA.1 (Em (!aB.write) true aA.2.1 aA.2.2) (Em false false aA.2.1 aA.2.2))) (some ((.x 1),(aA.1,aA.2.1,aA.2.2)))
theorem YU (p1:Int) (p2:Int) (p0:(List mZ)) (w35:Int) (s36:Bool×Int×Int):GD KK 0 ([p1,p2,s36.1,s36.2.1,zO,(.slice (Rw mZ.cells p0) .no),w35,s36.2.2],([]:kO))=tm (β:=R) (xP p1 p2 p0 w35 s36) fun r=>(r.1.ex,[p1,p2,r.2.1,r.2.2.1,zO,(.slice (Rw mZ.cells p0) .no),w35,r.2.2.2],([]:kO)):=by
 simp +contextual [-rZ,-oZ,-oJ,-p5,-pV,-qX,-qY,GD,xP,amD,acG]
theorem TN (p1:Int) (p2:Int) (p0:(List mZ)) (w35:Int) (i2:Bool) (i3:Int) (i7:Int):nP (GD KK 0) ([p1,p2,i2,i3,zO,(.slice (Rw mZ.cells p0) .no),w35,i7],([]:kO))=tm (β:=R) (rX (xP p1 p2 p0 w35) (i2,i3,i7)) fun r=>(r.1.ex,[p1,p2,r.2.1,r.2.2.1,zO,(.slice (Rw mZ.cells p0) .no),w35,r.2.2.2],([]:kO)):=by
 exact uE (enc:=fun s36=>([(.int .i64 p1),(.int .i64 p2),(.bool s36.1),(.int .i64 s36.2.1),(.int .i64 0),(.slice (Rw mZ.cells p0) .no),(.int .i64 w35),(.int .i64 s36.2.2)],([]:kO))) (fun s36=>YU p1 p2 p0 w35 s36) (i2,i3,i7)
def LZ (K:kT) (aM:kN) (aC:kO) (a1:kN) (a2:kN) (a0:kN) (a3:kN):Option R :=
 kV aM (some (.ret,[zO,(2:Int)],aC)) (bo .rem a1 a2 fun aN=>bo .neq aN zO fun t32=>kV t32 (some (.ret,[zO,(8:Int)],aC)) (ln a0 fun t33=>(nP (GD K (aa5 aC)) ([a1,a2,a3,zO,zO,a0,t33,zO],aC)).bind fun AZ=>(fun aH aI aJ aA aB aD aE aF aG=>Ex.l_ AZ.1 none (fun aK=>Ex.inBlock 1 aK (some (.ret,[zO,(8:Int)],aG)) (fun aL=>some (aL,[aA,aB],aG)))) (gd AZ.2.1 0) (gd AZ.2.1 1) (gd AZ.2.1 2) (gd AZ.2.1 3) (gd AZ.2.1 4) (gd AZ.2.1 5) (gd AZ.2.1 6) (gd AZ.2.1 7) AZ.2.2))
def B_ (aD:Bool) (p1:Int) (p2:Int) (p0:(List mZ)) (p3:Bool):Option (Int×Int) :=
 tc aD (some (0,2)) (tb ((qA p1 p2)) fun aC=>tc (!decide (aC=0)) (some (0,8)) (tb (rX (xP p1 p2 p0 ((aa5 p0:Nat):Int)) (p3,0,0)) fun AZ=>uL AZ.1 none fun aA=>vO 1 aA (some (0,8)) fun aB=>Ao aB (some (AZ.2.2.1,0))))
theorem acF (w29:Bool) (p1:Int) (p2:Int) (p0:(List mZ)) (p3:Bool):((LZ KK w29 ([]:kO) p1 p2 (.slice (Rw mZ.cells p0) .no) p3)).bind (Cm 0)=tm (B_ w29 p1 p2 p0 p3) fun r=>(.ret (.tuple [r.1,r.2]),[]):=by
 cases w29 <;> simp [-rZ,-oZ,-oJ,-p5,-pV,-qX,-qY,LZ,B_,TN,Cm]
def avK (K:kT) (a0 a1 a2 a3:kN) (h0:kO):Option (mR×kO) :=
 (bo .neq a2 (1:Int) fun aA=>gS true aA (lI a2 h0) h0 fun aD aB=>gS true aA (bo .neq aD (4:Int) fun aE=>lI aE aB) aB fun t24 aC=>(lH aA t24 false).bind fun aF=>LZ K aF aC a1 a2 a0 a3).bind (Cm (aa5 h0))
theorem aaE K a0 a1 a2 a3 h0:nN K 138 [a0,a1,a2,a3] h0=avK (lG mJ K) a0 a1 a2 a3 h0:=by kernel_rfl
def t138 (p0:(List mZ)) (p1:Int) (p2:Int) (p3:Bool):Option (Int×Int) :=
 tc (!decide (p2=1)) (B_ (!decide (p2=4)) p1 p2 p0 p3) (B_ false p1 p2 p0 p3)
theorem aD3 (p0:(List mZ)) (p1:Int) (p2:Int) (p3:Bool) (h:kO):KK 138 [(.slice (Rw mZ.cells p0) .no),p1,p2,p3] h=tm (t138 p0 p1 p2 p3) fun r=>(.ret (.tuple [r.1,r.2]),h):=lJ rfl rfl (aaE ..) (by
 simp +contextual [-rZ,-oZ,-oJ,-p5,-pV,-qX,-qY,avK,t138,TN,Cm,acF])
theorem VU (y0:Int) (y1:Int) (y2:Int) (h:kO):lE 3 1 [zO] [(0,y0),(1,y1),(2,y2)] h=some (.slice (Rw (ci .i64) [y0,y1,y2]) (.own h.length),h++[qL 1 3]):=by
 rfl
def Q0 (K:kT) (m:Nat) (aC:kN) (aD:kN) (aE:kN) (aF:kN) (t71:kN) (aA:kN) (aB:kN) (aG:kO):Option R :=
 bo .add aC (1:Int) fun t76=>kZ m .normal [aD,aE,aF,t71,aA,aB,t76] aG
def Iz (aB:Int) (aA:Int) (aC:Bool):Option (Ey×Int×Bool×Int) :=
 some (.n,(aA,aC,(IntKind.wrap .i64 (aB+1))))
theorem W8 (w64:Int) (p1:Int) (w62:Int) (w75:Bool) (w33:(List Int)) (w34:Int) (p0:Sz):(Q0 KK 2 w64 p1 (.ptr 0 0) w62 w75 (.slice (Rw (ci .i64) w33) (.own 1)) w34 ([.cells [p0.inn,p0.outt,p0.rail],qL 1 (aa5 w33)]:kO))=tm (β:=R) (Iz w64 w62 w75) fun r=>(r.1.ex,[p1,(.ptr 0 0),r.2.1,r.2.2.1,(.slice (Rw (ci .i64) w33) (.own 1)),w34,r.2.2.2],([.cells [p0.inn,p0.outt,p0.rail],qL 1 (aa5 w33)]:kO)):=by
 cases w75 <;> simp [-rZ,-oZ,-oJ,-p5,-pV,-qX,-qY,Q0,Iz]
def QZ (K:kT) (m:Nat) (aL:kN) (aE:kN) (aF:kN) (aA:kN) (aB:kN) (aC:kN) (aD:kN) (aH:kO) (aK:kN) (aG:kN):Option R :=
 kV aL (kZ m .ret [aE,aF,(2:Int),aA,aB,aC,aD] aH) (gS false aA (lI aK aH) aH fun t66 aI=>gS false aA (bo .gtr t66 (65536:Int) fun t68=>lI t68 aI) aI fun aM aJ=>(lH aA true aM).bind fun t71=>Q0 K m aD aE aF aG t71 aB aC aJ)
def Iy (aE:Bool) (aC:Bool) (aA:Int) (aD:Int) (aB:Int):Option (Ey×Int×Bool×Int) :=
 tc aE (some (.r,(2,aC,aA))) (tc aC (Iz aA aB true) (Iz aA aB (decide (65536<aD))))
theorem am3 (w61:Bool) (p1:Int) (w63:Bool) (w33:(List Int)) (w34:Int) (w64:Int) (p0:Sz) (u46:Int) (w62:Int):(QZ KK 2 w61 p1 (.ptr 0 0) w63 (.slice (Rw (ci .i64) w33) (.own 1)) w34 w64 ([.cells [p0.inn,p0.outt,p0.rail],qL 1 (aa5 w33)]:kO) u46 w62)=tm (β:=R) (Iy w61 w63 w64 u46 w62) fun r=>(r.1.ex,[p1,(.ptr 0 0),r.2.1,r.2.2.1,(.slice (Rw (ci .i64) w33) (.own 1)),w34,r.2.2.2],([.cells [p0.inn,p0.outt,p0.rail],qL 1 (aa5 w33)]:kO)):=by
 cases w61 <;> simp +contextual [-rZ,-oZ,-oJ,-p5,-pV,-qX,-qY,QZ,Iy,W8]
def Mh (K:kT) (m:Nat) (s:List kN×kO):Option R :=
 (fun aD aE aF aG aB aC aA aH=>bo .lss aA aC fun aM=>kV aM (ix 1 aB aA fun t45=>ld false 1 aH t45 fun aI=>bo .lss aI zO fun t48=>gS false t48 (lI aI aH) aH fun t49 aJ=>gS false t48 (bo .rem t49 (4:Int) fun aN=>lI aN aJ) aJ fun t53 aK=>gS false t48 (bo .neq t53 zO fun t55=>lI t55 aK) aK fun aO aL=>(lH t48 true aO).bind fun aP=>QZ K m aP aD aE aG aB aC aA aL aI aF) (kZ m (.exit 0) [aD,aE,aF,aG,aB,aC,aA] aH)) (gd s.1 0) (gd s.1 1) (gd s.1 2) (gd s.1 3) (gd s.1 4) (gd s.1 5) (gd s.1 6) s.2
def zL (aD:(List Int)) (aE:Int) (aA:Int×Bool×Int):Option (Ey×Int×Bool×Int) :=
 tc (decide (aA.2.2<aE)) (tb ((sF aD aA.2.2)) fun aB=>tc (decide (aB<0)) (Iy true aA.2.1 aA.2.2 aB aA.1) (tb ((qA aB 4)) fun aC=>Iy (!decide (aC=0)) aA.2.1 aA.2.2 aB aA.1)) (some ((.x 0),(aA.1,aA.2.1,aA.2.2)))
theorem ag9 (p1:Int) (w33:(List Int)) (w34:Int) (p0:Sz) (s35:Int×Bool×Int):Mh KK 2 ([p1,(.ptr 0 0),s35.1,s35.2.1,(.slice (Rw (ci .i64) w33) (.own 1)),w34,s35.2.2],([.cells [p0.inn,p0.outt,p0.rail],qL 1 (aa5 w33)]:kO))=tm (β:=R) (zL w33 w34 s35) fun r=>(r.1.ex,[p1,(.ptr 0 0),r.2.1,r.2.2.1,(.slice (Rw (ci .i64) w33) (.own 1)),w34,r.2.2.2],([.cells [p0.inn,p0.outt,p0.rail],qL 1 (aa5 w33)]:kO)):=by
 simp +contextual [-rZ,-oZ,-oJ,-p5,-pV,-qX,-qY,Mh,zL,W8,am3]
theorem W7 (p1:Int) (w33:(List Int)) (w34:Int) (p0:Sz) (i1:Int) (i2:Bool) (i5:Int) (n1:Nat) (hn1:n1=(aa5 w33)):nP (Mh KK 2) ([p1,(.ptr 0 0),i1,i2,(.slice (Rw (ci .i64) w33) (.own 1)),w34,i5],([.cells [p0.inn,p0.outt,p0.rail],qL 1 n1]:kO))=tm (β:=R) (rX (zL w33 w34) (i1,i2,i5)) fun r=>(r.1.ex,[p1,(.ptr 0 0),r.2.1,r.2.2.1,(.slice (Rw (ci .i64) w33) (.own 1)),w34,r.2.2.2],([.cells [p0.inn,p0.outt,p0.rail],qL 1 (aa5 w33)]:kO)):=by
 subst hn1;exact uE (enc:=fun s35=>([(.int .i64 p1),(.ptr 0 0),(.int .i64 s35.1),(.bool s35.2.1),(.slice (Rw (ci .i64) w33) (.own 1)),(.int .i64 w34),(.int .i64 s35.2.2)],([.cells [(.int .i64 p0.inn),(.int .i64 p0.outt),(.int .i64 p0.rail)],qL 1 (aa5 w33)]:kO))) (fun s35=>ag9 p1 w33 w34 p0 s35) (i1,i2,i5)
def Q1 (K:kT) (t98:kN) (aB:kO) (aA:kN):Option R :=
 kV t98 (some (.ret,[(2:Int)],aB)) (kV aA (some (.ret,[(5:Int)],aB)) (some (.ret,[zO],aB)))
def IA (aA:Bool) (aB:Bool):Option (Int) :=
 tc aA (some 2) (tc aB (some 5) (some 0))
theorem am4 (w101:Bool) (p0:Sz) (w104:Nat) (w103:Bool):((Q1 KK w101 ([.cells [p0.inn,p0.outt,p0.rail],qL 1 w104]:kO) w103)).bind (mA 0)=tm (IA w101 w103) fun r=>(.ret r,[]):=by
 cases w101 <;> simp [-rZ,-oZ,-oJ,-p5,-pV,-qX,-qY,Q1,IA,VU,W7,mA]
def m53 (K:kT) (a0 a1:kN) (h0:kO):Option (mR×kO) :=
 (kW (lR 3 h0 a0) fun aF aE=>bo .gtr a1 (262144:Int) fun aQ=>fa 0 aF fun aR=>ld false 1 aE aR fun t24=>fa 1 aF fun aS=>ld false 1 aE aS fun aT=>fa 2 aF fun t27=>ld false 1 aE t27 fun aU=>kW (lE 3 1 [zO] [(0,t24),(1,aT),(2,aU)] aE) fun t29 aL=>ln t29 fun t31=>(nP (Mh K (aa5 aL)) ([a1,aF,zO,aQ,t29,t31,zO],aL)).bind fun AZ=>(fun aA aB aC aD aI aJ aK aG=>Ex.l_ AZ.1 none (fun aN=>Ex.inBlock 0 aN (bo .lss aA zO fun t88=>gS false t88 (fa 2 aB fun t89=>lI t89 aG) aG fun t90 aH=>gS false t88 (ld false 1 aH t90 fun t92=>lI t92 aH) aH fun t93 aM=>gS false t88 (bo .lss t93 (4:Int) fun t95=>lI t95 aM) aM fun t96 aP=>(lH t88 true t96).bind fun t98=>Q1 K t98 aP aD) (fun aO=>some (aO,[aC],aG)))) (gd AZ.2.1 0) (gd AZ.2.1 1) (gd AZ.2.1 2) (gd AZ.2.1 3) (gd AZ.2.1 4) (gd AZ.2.1 5) (gd AZ.2.1 6) AZ.2.2).bind (mA (aa5 h0))
theorem akG K a0 a1 h0:nN K 53 [a0,a1] h0=m53 (lG mJ K) a0 a1 h0:=by kernel_rfl
def t53 (p0:Sz) (p1:Int):Option (Int) :=
 tb (rX (zL [p0.inn,p0.outt,p0.rail] ((aa5 [p0.inn,p0.outt,p0.rail]:Nat):Int)) (0,(decide (262144<p1)),0)) fun AZ=>uL AZ.1 none fun aA=>vO 0 aA (tc (decide (p1<0)) (IA true AZ.2.2.1) (IA (decide (p0.rail<4)) AZ.2.2.1)) fun aB=>Ao aB (some AZ.2.1)
theorem Pj (p0:Sz) (p1:Int) (h:kO):KK 53 [(.agg [p0.inn,p0.outt,p0.rail]),p1] h=tm (t53 p0 p1) fun r=>(.ret r,h):=lJ rfl rfl (akG ..) (by
 simp +contextual [-rZ,-oZ,-oJ,-p5,-pV,-qX,-qY,m53,t53,VU,W7,mA,am4])
theorem ahS (y0:Int) (y1:Int) (y2:Bool) (y3:Int) (y4:Int) (y5:Bool) (y6:Int) (y7:Int) (y8:Bool) (y9:Int) (y10:Int) (y11:Bool) (y12:Int) (y13:Int) (y14:Bool) (y15:Int) (y16:Int) (y17:Bool) (y18:Int) (y19:Int) (y20:Bool) (h:kO):lE 7 3 [zO,zO,false] [(0,(.agg [y0,y1,y2])),(1,(.agg [y3,y4,y5])),(2,(.agg [y6,y7,y8])),(3,(.agg [y9,y10,y11])),(4,(.agg [y12,y13,y14])),(5,(.agg [y15,y16,y17])),(6,(.agg [y18,y19,y20]))] h=some (.slice (Rw mZ.cells [(⟨y0,y1,y2⟩:mZ),(⟨y3,y4,y5⟩:mZ),(⟨y6,y7,y8⟩:mZ),(⟨y9,y10,y11⟩:mZ),(⟨y12,y13,y14⟩:mZ),(⟨y15,y16,y17⟩:mZ),(⟨y18,y19,y20⟩:mZ)]) (.own h.length),h++[qL 3 7]):=by
 rfl
def m35 (K:kT) (a0 a1:kN) (h0:kO):Option (mR×kO) :=
 (kW (lR 3 h0 a0) fun aB aC=>(fun(aQ:kN) (aD:kO)=>ld true 3 aD aB fun t24=>ca (K 53 [(kN.kP t24),(kN.kP a1)] aD) fun aE aA=>bo .neq aE zO fun aH=>kV aH ((fun(aI:kN) (aF:kO)=>some (.ret,[aI,aE],aF)) (.slice (Rw mZ.cells []) (.own (aa5 aA))) (aA++[.front 0 0])) ((lB [zO,zO,false] [(0,1),(1,1),(2,1)] [(0,zO),(1,a1)]).bind fun t31=>fa 0 aB fun t32=>ld false 1 aA t32 fun t33=>(lB [zO,zO,false] [(0,1),(1,1),(2,1)] [(0,(536936448:Int)),(1,t33),(2,true)]).bind fun aJ=>fa 1 aB fun t35=>ld false 1 aA t35 fun t36=>(lB [zO,zO,false] [(0,1),(1,1),(2,1)] [(0,(537001984:Int)),(1,t36),(2,true)]).bind fun aK=>fa 2 aB fun t38=>ld false 1 aA t38 fun aL=>(lB [zO,zO,false] [(0,1),(1,1),(2,1)] [(0,(537133056:Int)),(1,aL),(2,true)]).bind fun aM=>fa 2 aB fun aN=>ld false 1 aA aN fun t42=>(lB [zO,zO,false] [(0,1),(1,1),(2,1)] [(0,(537395200:Int)),(1,t42),(2,true)]).bind fun aO=>(lB [zO,zO,false] [(0,1),(1,1),(2,1)] [(0,(537919488:Int)),(1,(4:Int)),(2,true)]).bind fun aP=>(lB [zO,zO,false] [(0,1),(1,1),(2,1)] [(0,(538968064:Int)),(1,(4:Int)),(2,true)]).bind fun t45=>kW (lE 7 3 [zO,zO,false] [(0,t31),(1,aJ),(2,aK),(3,aM),(4,aO),(5,aP),(6,t45)] aA) fun t46 aG=>some (.ret,[t46,zO],aG))) (.slice (Rw mZ.cells []) (.own (aa5 aC))) (aC++[.front 0 0])).bind (Cm (aa5 h0))
theorem aj0 K a0 a1 h0:nN K 35 [a0,a1] h0=m35 (lG mJ K) a0 a1 h0:=by kernel_rfl
def t35 (p0:Sz) (p1:Int):Option ((List mZ)×Int) :=
 tb ((t53 p0 p1)) fun Ce=>tc (!decide (Ce=0)) (some ([],Ce)) (some ([(⟨0,p1,false⟩:mZ),(⟨536936448,p0.inn,true⟩:mZ),(⟨537001984,p0.outt,true⟩:mZ),(⟨537133056,p0.rail,true⟩:mZ),(⟨537395200,p0.rail,true⟩:mZ),(⟨537919488,4,true⟩:mZ),(⟨538968064,4,true⟩:mZ)],0))
theorem tB (p0:Sz) (p1:Int) (h:kO):KK 35 [(.agg [p0.inn,p0.outt,p0.rail]),p1] h=tm (t35 p0 p1) fun r=>(.ret (.tuple [(.slice (Rw mZ.cells r.1) .no),r.2]),h):=lJ rfl rfl (aj0 ..) (by
 simp [-rZ,-oZ,-oJ,-p5,-pV,-qX,-qY,m35,t35,Pj,ahS,Cm])
theorem ahW (y0:Int) (y1:Int) (y2:Bool) (y3:Int) (y4:Int) (y5:Bool) (y6:Int) (y7:Int) (y8:Bool) (y9:Int) (y10:Int) (y11:Bool) (y12:Int) (y13:Int) (y14:Bool) (y15:Int) (y16:Int) (y17:Bool) (y18:Int) (y19:Int) (y20:Bool) (h:kO):lE 7 3 [zO,zO,false] [(0,(.agg [y0,y1,y2])),(1,(.agg [y3,y4,y5])),(2,(.agg [y6,y7,y8])),(3,(.agg [y9,y10,y11])),(4,(.agg [y12,y13,y14])),(5,(.agg [y15,y16,y17])),(6,(.agg [y18,y19,y20]))] h=some (.slice (Rw mZ.cells [(⟨y0,y1,y2⟩:mZ),(⟨y3,y4,y5⟩:mZ),(⟨y6,y7,y8⟩:mZ),(⟨y9,y10,y11⟩:mZ),(⟨y12,y13,y14⟩:mZ),(⟨y15,y16,y17⟩:mZ),(⟨y18,y19,y20⟩:mZ)]) (.own h.length),h++[qL 3 7]):=by
 rfl
def m97 (K:kT) (a0 a1:kN) (h0:kO):Option (mR×kO) :=
 (kW (lR 3 h0 a0) fun aB aC=>(fun(aQ:kN) (aD:kO)=>ld true 3 aD aB fun t24=>ca (K 15 [(kN.kP t24),(kN.kP a1)] aD) fun aE aA=>bo .neq aE zO fun aH=>kV aH ((fun(aI:kN) (aF:kO)=>some (.ret,[aI,aE],aF)) (.slice (Rw mZ.cells []) (.own (aa5 aA))) (aA++[.front 0 0])) ((lB [zO,zO,false] [(0,1),(1,1),(2,1)] [(0,zO),(1,a1)]).bind fun t31=>fa 0 aB fun t32=>ld false 1 aA t32 fun t33=>(lB [zO,zO,false] [(0,1),(1,1),(2,1)] [(0,(536936448:Int)),(1,t33),(2,true)]).bind fun aJ=>fa 1 aB fun t35=>ld false 1 aA t35 fun t36=>(lB [zO,zO,false] [(0,1),(1,1),(2,1)] [(0,(537001984:Int)),(1,t36),(2,true)]).bind fun aK=>fa 2 aB fun t38=>ld false 1 aA t38 fun aL=>(lB [zO,zO,false] [(0,1),(1,1),(2,1)] [(0,(537133056:Int)),(1,aL),(2,true)]).bind fun aM=>fa 2 aB fun aN=>ld false 1 aA aN fun t42=>(lB [zO,zO,false] [(0,1),(1,1),(2,1)] [(0,(537395200:Int)),(1,t42),(2,true)]).bind fun aO=>(lB [zO,zO,false] [(0,1),(1,1),(2,1)] [(0,(537919488:Int)),(1,(4:Int)),(2,true)]).bind fun aP=>(lB [zO,zO,false] [(0,1),(1,1),(2,1)] [(0,(538968064:Int)),(1,(4:Int)),(2,true)]).bind fun t45=>kW (lE 7 3 [zO,zO,false] [(0,t31),(1,aJ),(2,aK),(3,aM),(4,aO),(5,aP),(6,t45)] aA) fun t46 aG=>some (.ret,[t46,zO],aG))) (.slice (Rw mZ.cells []) (.own (aa5 aC))) (aC++[.front 0 0])).bind (Cm (aa5 h0))
theorem alO K a0 a1 h0:nN K 97 [a0,a1] h0=m97 (lG mJ K) a0 a1 h0:=by kernel_rfl
def t97 (p0:Sz) (p1:Int):Option ((List mZ)×Int) :=
 tb ((t15 p0 p1)) fun Ce=>tc (!decide (Ce=0)) (some ([],Ce)) (some ([(⟨0,p1,false⟩:mZ),(⟨536936448,p0.inn,true⟩:mZ),(⟨537001984,p0.outt,true⟩:mZ),(⟨537133056,p0.rail,true⟩:mZ),(⟨537395200,p0.rail,true⟩:mZ),(⟨537919488,4,true⟩:mZ),(⟨538968064,4,true⟩:mZ)],0))
theorem PG (p0:Sz) (p1:Int) (h:kO):KK 97 [(.agg [p0.inn,p0.outt,p0.rail]),p1] h=tm (t97 p0 p1) fun r=>(.ret (.tuple [(.slice (Rw mZ.cells r.1) .no),r.2]),h):=lJ rfl rfl (alO ..) (by
 simp [-rZ,-oZ,-oJ,-p5,-pV,-qX,-qY,m97,t97,r15,ahW,Cm])
def So (K:kT) (m:Nat) (t141:kN) (aB:kN) (aC:kN) (aD:kN) (aE:kN) (aA:kN) (aF:kO):Option R :=
 kV t141 (kZ m .ret [aB,aC,aD,aE,zO,(8:Int),aA] aF) (kZ m .ret [aB,aC,aD,aE,aA,zO,aA] aF)
def Jb (aB:Bool) (aA:Bool) (aC:Int):Option (Ey×Bool×Int×Int×Int) :=
 tc aB (some (.r,(aA,0,8,aC))) (some (.r,(aA,aC,0,aC)))
theorem SP (w145:Bool) (p0:(List mZ)) (p1:Int) (p2:Int) (w142:Bool) (w76:Int):(So KK 0 w145 (.slice (Rw mZ.cells p0) .no) p1 p2 w142 w76 ([]:kO))=tm (β:=R) (Jb w145 w142 w76) fun r=>(r.1.ex,[(.slice (Rw mZ.cells p0) .no),p1,p2,r.2.1,r.2.2.1,r.2.2.2.1,r.2.2.2.2],([]:kO)):=by
 cases w145 <;> simp [-rZ,-oZ,-oJ,-p5,-pV,-qX,-qY,So,Jb]
def Sn (K:kT) (m:Nat) (aO:kN) (aA:kN) (aC:kN) (aF:kO) (aB:kN) (aD:kN) (aE:kN) (aL:kN) (aM:kN):Option R :=
 kV aO (gS true aA (lI aC aF) aF fun t124 aH=>gS true aA (lI aB aH) aH fun t126 aI=>gS true aA (ix 3 t124 t126 fun t128=>lI t128 aI) aI fun t130 aJ=>gS true aA (fa 2 t130 fun t132=>lI t132 aJ) aJ fun aP aG=>gS true aA (ld false 1 aG aP fun aQ=>lI aQ aG) aG fun t136 aK=>gS true aA ((vN .not t136).bind fun t138=>lI t138 aK) aK fun t139 aN=>(lH aA t139 false).bind fun t141=>So K m t141 aC aD aE aA aB aN) (bo .add aB (1:Int) fun t146=>kZ m .normal [aC,aD,aE,aA,aL,aM,t146] aF)
def Ja (aC:Bool) (aD:Bool) (p0:(List mZ)) (aA:Int) (aE:Int) (aF:Int):Option (Ey×Bool×Int×Int×Int) :=
 tc aC (tc aD (tb ((sF p0 aA)) fun aB=>Jb (!aB.write) true aA) (Jb false false aA)) (some (.n,(aD,aE,aF,(IntKind.wrap .i64 (aA+1)))))
theorem Xn (w123:Bool) (w73:Bool) (p0:(List mZ)) (w76:Int) (p1:Int) (p2:Int) (w74:Int) (w75:Int):(Sn KK 0 w123 w73 (.slice (Rw mZ.cells p0) .no) ([]:kO) w76 p1 p2 w74 w75)=tm (β:=R) (Ja w123 w73 p0 w76 w74 w75) fun r=>(r.1.ex,[(.slice (Rw mZ.cells p0) .no),p1,p2,r.2.1,r.2.2.1,r.2.2.2.1,r.2.2.2.2],([]:kO)):=by
 cases w123 <;> simp +contextual [-rZ,-oZ,-oJ,-p5,-pV,-qX,-qY,Sn,Ja,SP]
def Sm (K:kT) (m:Nat) (aA:kN) (aD:kN) (aS:kO) (aC:kN) (aB:kN) (aE:kN) (aL:kN) (aM:kN) (aN:kN):Option R :=
 gS true aA (lI aD aS) aS fun a_ aT=>gS true aA (lI aC aT) aT fun bA aU=>gS true aA (lI aB aU) aU fun bB aV=>gS true aA (ix 3 bA bB fun t85=>lI t85 aV) aV fun t87 aW=>gS true aA (fa 0 t87 fun t89=>lI t89 aW) aW fun t90 aP=>gS true aA (ld false 1 aP t90 fun t92=>lI t92 aP) aP fun t93 aX=>gS true aA (bo .sub a_ t93 fun t95=>lI t95 aX) aX fun t96 aY=>gS true aA (lI aC aY) aY fun t98 aZ=>gS true aA (lI aB aZ) aZ fun t100 aG=>gS true aA (ix 3 t98 t100 fun t102=>lI t102 aG) aG fun t104 aH=>gS true aA (fa 1 t104 fun t106=>lI t106 aH) aH fun t107 aF=>gS true aA (ld false 1 aF t107 fun t109=>lI t109 aF) aF fun t110 aI=>gS true aA (lI aE aI) aI fun t112 aJ=>gS true aA (bo .sub t110 t112 fun t114=>lI t114 aJ) aJ fun t115 aK=>gS true aA (bo .leq t96 t115 fun t117=>lI t117 aK) aK fun aQ aO=>(lH aA aQ false).bind fun aR=>Sn K m aR aL aC aO aB aD aE aM aN
def I_ (aG:Bool) (p1:Int) (p0:(List mZ)) (aA:Int) (p2:Int) (aC:Bool) (aD:Int) (aE:Int):Option (Ey×Bool×Int×Int×Int) :=
 tc aG (tb ((sF p0 aA)) fun aF=>tb ((sF p0 aA)) fun aB=>Ja (decide ((IntKind.wrap .i64 (p1-aF.base))≤(IntKind.wrap .i64 (aB.len-p2)))) aC p0 aA aD aE) (Ja false aC p0 aA aD aE)
theorem aoM (w72:Bool) (p1:Int) (p0:(List mZ)) (w76:Int) (p2:Int) (w73:Bool) (w74:Int) (w75:Int):(Sm KK 0 w72 p1 ([]:kO) (.slice (Rw mZ.cells p0) .no) w76 p2 w73 w74 w75)=tm (β:=R) (I_ w72 p1 p0 w76 p2 w73 w74 w75) fun r=>(r.1.ex,[(.slice (Rw mZ.cells p0) .no),p1,p2,r.2.1,r.2.2.1,r.2.2.2.1,r.2.2.2.2],([]:kO)):=by
 cases w72 <;> simp [-rZ,-oZ,-oJ,-p5,-pV,-qX,-qY,Sm,I_,SP,Xn]
def My (K:kT) (m:Nat) (s:List kN×kO):Option R :=
 (fun aB aC aD aE aF aG aA aH=>ln aB fun aP=>bo .lss aA aP fun aQ=>kV aQ (ix 3 aB aA fun t45=>fa 0 t45 fun aR=>ld false 1 aH aR fun t48=>bo .geq aC t48 fun t49=>gS true t49 (lI aB aH) aH fun aS aJ=>gS true t49 (lI aA aJ) aJ fun t52 aK=>gS true t49 (ix 3 aS t52 fun t54=>lI t54 aK) aK fun aT aL=>gS true t49 (fa 1 aT fun aU=>lI aU aL) aL fun aV aI=>gS true t49 (ld false 1 aI aV fun aW=>lI aW aI) aI fun t62 aM=>gS true t49 (lI aD aM) aM fun t64 aN=>gS true t49 (bo .geq t62 t64 fun t66=>lI t66 aN) aN fun t67 aO=>(lH t49 t67 false).bind fun aX=>Sm K m aX aC aO aB aA aD aE aF aG) (kZ m (.exit 0) [aB,aC,aD,aE,aF,aG,aA] aH)) (gd s.1 0) (gd s.1 1) (gd s.1 2) (gd s.1 3) (gd s.1 4) (gd s.1 5) (gd s.1 6) s.2
def zM (p0:(List mZ)) (p1:Int) (p2:Int) (aA:Bool×Int×Int×Int):Option (Ey×Bool×Int×Int×Int) :=
 tc (decide (aA.2.2.2<((aa5 p0:Nat):Int))) (tb ((sF p0 aA.2.2.2)) fun aB=>tc (decide (aB.base≤p1)) (tb ((sF p0 aA.2.2.2)) fun aC=>I_ (decide (p2≤aC.len)) p1 p0 aA.2.2.2 p2 aA.1 aA.2.1 aA.2.2.1) (I_ false p1 p0 aA.2.2.2 p2 aA.1 aA.2.1 aA.2.2.1)) (some ((.x 0),(aA.1,aA.2.1,aA.2.2.1,aA.2.2.2)))
theorem ahG (p0:(List mZ)) (p1:Int) (p2:Int) (s34:Bool×Int×Int×Int):My KK 0 ([(.slice (Rw mZ.cells p0) .no),p1,p2,s34.1,s34.2.1,s34.2.2.1,s34.2.2.2],([]:kO))=tm (β:=R) (zM p0 p1 p2 s34) fun r=>(r.1.ex,[(.slice (Rw mZ.cells p0) .no),p1,p2,r.2.1,r.2.2.1,r.2.2.2.1,r.2.2.2.2],([]:kO)):=by
 simp +contextual [-rZ,-oZ,-oJ,-p5,-pV,-qX,-qY,My,zM,SP,Xn,aoM]
theorem Xm (p0:(List mZ)) (p1:Int) (p2:Int) (i3:Bool) (i4:Int) (i5:Int) (i6:Int):nP (My KK 0) ([(.slice (Rw mZ.cells p0) .no),p1,p2,i3,i4,i5,i6],([]:kO))=tm (β:=R) (rX (zM p0 p1 p2) (i3,i4,i5,i6)) fun r=>(r.1.ex,[(.slice (Rw mZ.cells p0) .no),p1,p2,r.2.1,r.2.2.1,r.2.2.2.1,r.2.2.2.2],([]:kO)):=by
 exact uE (enc:=fun s34=>([(.slice (Rw mZ.cells p0) .no),(.int .i64 p1),(.int .i64 p2),(.bool s34.1),(.int .i64 s34.2.1),(.int .i64 s34.2.2.1),(.int .i64 s34.2.2.2)],([]:kO))) (fun s34=>ahG p0 p1 p2 s34) (i3,i4,i5,i6)
def Sl (K:kT) (aL:kN) (aD:kO) (a1:kN) (a2:kN) (a0:kN) (a3:kN):Option R :=
 kV aL (some (.ret,[zO,(2:Int)],aD)) (bo .rem a1 a2 fun aM=>bo .neq aM zO fun t32=>kV t32 (some (.ret,[zO,(8:Int)],aD)) ((nP (My K (aa5 aD)) ([a0,a1,a2,a3,zO,zO,zO],aD)).bind fun AX=>(fun aH aI aJ aK aA aB aE aC=>Ex.l_ AX.1 none (fun aF=>Ex.inBlock 0 aF (some (.ret,[zO,(8:Int)],aC)) (fun aG=>some (aG,[aA,aB],aC)))) (gd AX.2.1 0) (gd AX.2.1 1) (gd AX.2.1 2) (gd AX.2.1 3) (gd AX.2.1 4) (gd AX.2.1 5) (gd AX.2.1 6) AX.2.2))
def Fy (aD:Bool) (p1:Int) (p2:Int) (p0:(List mZ)) (p3:Bool):Option (Int×Int) :=
 tc aD (some (0,2)) (tb ((qA p1 p2)) fun aC=>tc (!decide (aC=0)) (some (0,8)) (tb (rX (zM p0 p1 p2) (p3,0,0,0)) fun AX=>uL AX.1 none fun aA=>vO 0 aA (some (0,8)) fun aB=>Ao aB (some (AX.2.2.1,AX.2.2.2.1))))
theorem aoL (w29:Bool) (p1:Int) (p2:Int) (p0:(List mZ)) (p3:Bool):((Sl KK w29 ([]:kO) p1 p2 (.slice (Rw mZ.cells p0) .no) p3)).bind (Cm 0)=tm (Fy w29 p1 p2 p0 p3) fun r=>(.ret (.tuple [r.1,r.2]),[]):=by
 cases w29 <;> simp [-rZ,-oZ,-oJ,-p5,-pV,-qX,-qY,Sl,Fy,Xm,Cm]
def m98 (K:kT) (a0 a1 a2 a3:kN) (h0:kO):Option (mR×kO) :=
 (bo .neq a2 (1:Int) fun aA=>gS true aA (lI a2 h0) h0 fun aD aB=>gS true aA (bo .neq aD (4:Int) fun aE=>lI aE aB) aB fun t24 aC=>(lH aA t24 false).bind fun aF=>Sl K aF aC a1 a2 a0 a3).bind (Cm (aa5 h0))
theorem alP K a0 a1 a2 a3 h0:nN K 98 [a0,a1,a2,a3] h0=m98 (lG mJ K) a0 a1 a2 a3 h0:=by kernel_rfl
def t98 (p0:(List mZ)) (p1:Int) (p2:Int) (p3:Bool):Option (Int×Int) :=
 tc (!decide (p2=1)) (Fy (!decide (p2=4)) p1 p2 p0 p3) (Fy false p1 p2 p0 p3)
theorem TR (p0:(List mZ)) (p1:Int) (p2:Int) (p3:Bool) (h:kO):KK 98 [(.slice (Rw mZ.cells p0) .no),p1,p2,p3] h=tm (t98 p0 p1 p2 p3) fun r=>(.ret (.tuple [r.1,r.2]),h):=lJ rfl rfl (alP ..) (by
 simp +contextual [-rZ,-oZ,-oJ,-p5,-pV,-qX,-qY,m98,t98,Xm,Cm,aoL])
def Q3 (K:kT) (aB:kN) (aA:kO):Option R :=
 some (.ret,[aB],aA)
def ID (aA:Bool):Option (Bool) :=
 some aA
theorem W9 (w43:Bool):((Q3 KK w43 ([]:kO))).bind (mA 0)=tm (ID w43) fun r=>(.ret r,[]):=by
 cases w43 <;> simp [-rZ,-oZ,-oJ,-p5,-pV,-qX,-qY,Q3,ID,mA]
def Q2 (K:kT) (aA:kN) (a0:kN) (aB:kO):Option R :=
 gS true aA (lI a0 aB) aB fun t32 aC=>gS true aA (bo .and t32 (1:Int) fun aF=>lI aF aC) aC fun t35 aD=>gS true aA (bo .eql t35 zO fun aG=>lI aG aD) aD fun t38 aE=>(lH aA t38 false).bind fun aH=>Q3 K aH aE
def IC (aA:Bool) (p0:Int):Option (Bool) :=
 tc aA (ID (decide ((rC .i64 p0 1)=0))) (ID false)
theorem am5 (w31:Bool) (p0:Int):((Q2 KK w31 p0 ([]:kO))).bind (mA 0)=tm (IC w31 p0) fun r=>(.ret r,[]):=by
 cases w31 <;> simp [-rZ,-oZ,-oJ,-p5,-pV,-qX,-qY,Q2,IC,mA,W9]
def m54 (K:kT) (a0 a1:kN) (h0:kO):Option (mR×kO) :=
 (bo .geq a0 (64:Int) fun aA=>gS true aA (lI a0 h0) h0 fun aE aB=>gS true aA (lI a1 aB) aB fun aF aC=>gS true aA (bo .lss aE aF fun aG=>lI aG aC) aC fun aH aD=>(lH aA aH false).bind fun aI=>Q2 K aI a0 aD).bind (mA (aa5 h0))
theorem akH K a0 a1 h0:nN K 54 [a0,a1] h0=m54 (lG mJ K) a0 a1 h0:=by kernel_rfl
def t54 (p0:Int) (p1:Int):Option (Bool) :=
 tc (decide (64≤p0)) (IC (decide (p0<p1)) p0) (IC false p0)
theorem Ku (p0:Int) (p1:Int) (h:kO):KK 54 [p0,p1] h=tm (t54 p0 p1) fun r=>(.ret r,h):=lJ rfl rfl (akH ..) (by
 simp +contextual [-rZ,-oZ,-oJ,-p5,-pV,-qX,-qY,m54,t54,mA,W9,am5])
def QE (K:kT) (aB:kN) (aA:kO):Option R :=
 kV aB (some (.ret,[(2:Int)],aA)) (some (.ret,[zO],aA))
def Iw (aA:Bool):Option (Int) :=
 tc aA (some 2) (some 0)
theorem SF (w84:Bool) (p0:Hd):((QE KK w84 ([.cells [p0.reset,p0.handler,p0.sizes.inn,p0.sizes.outt,p0.sizes.rail,p0.mode]]:kO))).bind (mA 0)=tm (Iw w84) fun r=>(.ret r,[]):=by
 cases w84 <;> simp [-rZ,-oZ,-oJ,-p5,-pV,-qX,-qY,QE,Iw,Pj,Ku,mA]
def QD (K:kT) (aA:kN) (aI:kN) (aC:kO) (a1:kN):Option R :=
 gS false aA (fa 1 aI fun t65=>lI t65 aC) aC fun t66 aB=>gS false aA (ld false 1 aB t66 fun t68=>lI t68 aB) aB fun aJ aD=>gS false aA (lI a1 aD) aD fun t71 aE=>gS false aA (cg (K 54 [(kN.kP aJ),(kN.kP t71)] aE) fun t73 aG=>lI t73 aG) aE fun t76 aF=>gS false aA ((vN .not t76).bind fun t78=>lI t78 aF) aF fun aK aH=>(lH aA true aK).bind fun aL=>QE K aL aH
def Iv (aA:Bool) (p0:Hd) (p1:Int):Option (Int) :=
 tc aA (Iw true) (tb ((t54 p0.handler p1)) fun r75=>Iw (!r75))
theorem WW (w64:Bool) (p0:Hd) (p1:Int):((QD KK w64 (.ptr 0 0) ([.cells [p0.reset,p0.handler,p0.sizes.inn,p0.sizes.outt,p0.sizes.rail,p0.mode]]:kO) p1)).bind (mA 0)=tm (Iv w64 p0 p1) fun r=>(.ret r,[]):=by
 cases w64 <;> simp [-rZ,-oZ,-oJ,-p5,-pV,-qX,-qY,QD,Iv,Pj,Ku,mA,SF]
def QC (K:kT) (aA:kN) (aG:kN) (aC:kO) (a1:kN):Option R :=
 gS false aA (fa 0 aG fun t45=>lI t45 aC) aC fun t46 aB=>gS false aA (ld false 1 aB t46 fun t48=>lI t48 aB) aB fun t49 aD=>gS false aA (lI a1 aD) aD fun aJ aE=>gS false aA (cg (K 54 [(kN.kP t49),(kN.kP aJ)] aE) fun t53 aH=>lI t53 aH) aE fun aK aF=>gS false aA ((vN .not aK).bind fun aL=>lI aL aF) aF fun aM aI=>(lH aA true aM).bind fun aN=>QD K aN aG aI a1
def Iu (aA:Bool) (p0:Hd) (p1:Int):Option (Int) :=
 tc aA (Iv true p0 p1) (tb ((t54 p0.reset p1)) fun Na=>Iv (!Na) p0 p1)
theorem amR (w43:Bool) (p0:Hd) (p1:Int):((QC KK w43 (.ptr 0 0) ([.cells [p0.reset,p0.handler,p0.sizes.inn,p0.sizes.outt,p0.sizes.rail,p0.mode]]:kO) p1)).bind (mA 0)=tm (Iu w43 p0 p1) fun r=>(.ret r,[]):=by
 cases w43 <;> simp [-rZ,-oZ,-oJ,-p5,-pV,-qX,-qY,QC,Iu,Pj,Ku,mA,SF,WW]
def m33 (K:kT) (a0 a1:kN) (h0:kO):Option (mR×kO) :=
 (kW (lR 6 h0 a0) fun aB aE=>fa 2 aB fun aH=>ld true 3 aE aH fun aI=>ca (K 53 [(kN.kP aI),(kN.kP a1)] aE) fun t24 aA=>bo .neq t24 zO fun t27=>kV t27 (some (.ret,[t24],aA)) (fa 5 aB fun aJ=>ld false 1 aA aJ fun t29=>bo .lss t29 zO fun aC=>gS false aC (fa 5 aB fun t31=>lI t31 aA) aA fun t32 aD=>gS false aC (ld false 1 aD t32 fun aK=>lI aK aD) aD fun t35 aF=>gS false aC (bo .geq t35 (3:Int) fun aL=>lI aL aF) aF fun t38 aG=>(lH aC true t38).bind fun aM=>QC K aM aB aG a1)).bind (mA (aa5 h0))
theorem ajY K a0 a1 h0:nN K 33 [a0,a1] h0=m33 (lG mJ K) a0 a1 h0:=by kernel_rfl
def t33 (p0:Hd) (p1:Int):Option (Int) :=
 tb ((t53 p0.sizes p1)) fun aA=>tc (!decide (aA=0)) (some aA) (tc (decide (p0.mode<0)) (Iu true p0 p1) (Iu (decide (3≤p0.mode)) p0 p1))
theorem CF (p0:Hd) (p1:Int) (h:kO):KK 33 [(.agg [p0.reset,p0.handler,p0.sizes.inn,p0.sizes.outt,p0.sizes.rail,p0.mode]),p1] h=tm (t33 p0 p1) fun r=>(.ret r,h):=lJ rfl rfl (ajY ..) (by
 simp +contextual [-rZ,-oZ,-oJ,-p5,-pV,-qX,-qY,m33,t33,Pj,Ku,mA,SF,WW,amR])
def m32 (K:kT) (a0 a1:kN) (h0:kO):Option (mR×kO) :=
 (bo .mul (4:Int) a1 fun aC=>bo .mul (4:Int) a1 fun aD=>bo .add aD (4:Int) fun aE=>(nT a0 (some aC) (some aE)).bind fun aF=>ca (K 52 [(kN.kP aF)] h0) fun aA aB=>(lC 0 aA).bind fun aG=>(lC 1 aA).bind fun t29=>some (.ret,[aG],aB)).bind (mA (aa5 h0))
theorem ajX K a0 a1 h0:nN K 32 [a0,a1] h0=m32 (lG mJ K) a0 a1 h0:=by kernel_rfl
def t32 (p0:(List UInt8)) (p1:Int):Option (Int) :=
 tb ((zP p0 (some (IntKind.wrap .i64 (4*p1))) (some (IntKind.wrap .i64 ((IntKind.wrap .i64 (4*p1))+4))))) fun aA=>tb ((t52 aA)) fun Ce=>some Ce.1
theorem xG (p0:(List UInt8)) (p1:Int) (h:kO):KK 32 [p0,p1] h=tm (t32 p0 p1) fun r=>(.ret r,h):=lJ rfl rfl (ajX ..) (by
 simp [-rZ,-oZ,-oJ,-p5,-pV,-qX,-qY,m32,t32,CH,mA])
def m8 (K:kT) (a0 a1:kN) (h0:kO):Option (mR×kO) :=
 (bo .mul (4:Int) a1 fun aC=>bo .mul (4:Int) a1 fun aD=>bo .add aD (4:Int) fun aE=>(nT a0 (some aC) (some aE)).bind fun aF=>ca (K 14 [(kN.kP aF)] h0) fun aA aB=>(lC 0 aA).bind fun aG=>(lC 1 aA).bind fun t29=>some (.ret,[aG],aB)).bind (mA (aa5 h0))
theorem awC K a0 a1 h0:nN K 8 [a0,a1] h0=m8 (lG mJ K) a0 a1 h0:=by kernel_rfl
def t8 (p0:(List UInt8)) (p1:Int):Option (Int) :=
 tb ((zP p0 (some (IntKind.wrap .i64 (4*p1))) (some (IntKind.wrap .i64 ((IntKind.wrap .i64 (4*p1))+4))))) fun aA=>tb ((t14 aA)) fun Ce=>some Ce.1
theorem r8 (p0:(List UInt8)) (p1:Int) (h:kO):KK 8 [p0,p1] h=tm (t8 p0 p1) fun r=>(.ret r,h):=lJ rfl rfl (awC ..) (by
 simp [-rZ,-oZ,-oJ,-p5,-pV,-qX,-qY,m8,t8,r14,mA])
def Qt (K:kT) (aB:kN) (aA:kO):Option R :=
 some (.ret,[aB],aA)
def Is (aA:Bool):Option (Bool) :=
 some aA
theorem WV (w44:Bool):((Qt KK w44 ([]:kO))).bind (mA 0)=tm (Is w44) fun r=>(.ret r,[]):=by
 cases w44 <;> simp [-rZ,-oZ,-oJ,-p5,-pV,-qX,-qY,Qt,Is,mA]
def Qs (K:kT) (aA:kN) (a0:kN) (aB:kO):Option R :=
 gS true aA (lI a0 aB) aB fun t32 aC=>gS true aA (bo .rem t32 (2:Int) fun aF=>lI aF aC) aC fun t36 aD=>gS true aA (bo .eql t36 zO fun t38=>lI t38 aD) aD fun aG aE=>(lH aA aG false).bind fun aH=>Qt K aH aE
def Ir (aB:Bool) (p0:Int):Option (Bool) :=
 tc aB (tb ((qA p0 2)) fun aA=>Is (decide (aA=0))) (Is false)
theorem amG (w31:Bool) (p0:Int):((Qs KK w31 p0 ([]:kO))).bind (mA 0)=tm (Ir w31 p0) fun r=>(.ret r,[]):=by
 cases w31 <;> simp [-rZ,-oZ,-oJ,-p5,-pV,-qX,-qY,Qs,Ir,mA,WV]
def m16 (K:kT) (a0 a1:kN) (h0:kO):Option (mR×kO) :=
 (bo .geq a0 (64:Int) fun aA=>gS true aA (lI a0 h0) h0 fun aE aB=>gS true aA (lI a1 aB) aB fun aF aC=>gS true aA (bo .lss aE aF fun aG=>lI aG aC) aC fun aH aD=>(lH aA aH false).bind fun aI=>Qs K aI a0 aD).bind (mA (aa5 h0))
theorem ajK K a0 a1 h0:nN K 16 [a0,a1] h0=m16 (lG mJ K) a0 a1 h0:=by kernel_rfl
def t16 (p0:Int) (p1:Int):Option (Bool) :=
 tc (decide (64≤p0)) (Ir (decide (p0<p1)) p0) (Ir false p0)
theorem r16 (p0:Int) (p1:Int) (h:kO):KK 16 [p0,p1] h=tm (t16 p0 p1) fun r=>(.ret r,h):=lJ rfl rfl (ajK ..) (by
 simp +contextual [-rZ,-oZ,-oJ,-p5,-pV,-qX,-qY,m16,t16,mA,WV,amG])
def Qz (K:kT) (m:Nat) (aF:kN) (aA:kN) (aE:kO) (aB:kN) (aC:kN) (aD:kN) (t31:kN):Option R :=
 kV aF (fa 5 aA fun aG=>ld false 1 aE aG fun aH=>kZ m .normal [aA,aB,aC,aD,aH] aE) (kZ m .normal [aA,aB,aC,aD,t31] aE)
def Ns (aB:Bool) (p0:Hd) (aA:Int):Option (Int) :=
 tc aB (some p0.mode) (some aA)
theorem amM (w59:Bool) (p0:Hd) (w33:(List UInt8)) (w34:Int) (w35:Int):(Qz KK 1 w59 (.ptr 0 0) ([.cells [p0.reset,p0.handler,p0.sizes.inn,p0.sizes.outt,p0.sizes.rail,p0.mode]]:kO) (.str []) w33 w34 w35)=tm (β:=R) (Ns w59 p0 w35) fun r=>(.normal,[(.ptr 0 0),(.str []),w33,w34,r],([.cells [p0.reset,p0.handler,p0.sizes.inn,p0.sizes.outt,p0.sizes.rail,p0.mode]]:kO)):=by
 cases w59 <;> simp [-rZ,-oZ,-oJ,-p5,-pV,-qX,-qY,Qz,Ns]
def Qy (K:kT) (m:Nat) (t53:kN) (aA:kN) (aJ:kO) (aC:kN) (aD:kN) (aB:kN) (t31:kN):Option R :=
 kV t53 (fa 2 aA fun t55=>fa 2 t55 fun aL=>ld false 1 aJ aL fun t57=>kZ m .normal [aA,aC,aD,aB,t57] aJ) (bo .eql aB (10:Int) fun aM=>(Qz K (aa5 aJ) aM aA aJ aC aD aB t31).bind fun F0=>(fun aE aF aG aH aI aK=>Ex.pR F0.1 (kZ m .normal [aE,aF,aG,aH,aI] aK)) (gd F0.2.1 0) (gd F0.2.1 1) (gd F0.2.1 2) (gd F0.2.1 3) (gd F0.2.1 4) F0.2.2)
def Nr (aC:Bool) (p0:Hd) (aA:Int) (aB:Int):Option (Int) :=
 tc aC (some p0.sizes.rail) (tb (Ns (decide (aA=10)) p0 aB) fun F0=>some F0)
theorem amL (w54:Bool) (p0:Hd) (w33:(List UInt8)) (w34:Int) (w35:Int):(Qy KK 1 w54 (.ptr 0 0) ([.cells [p0.reset,p0.handler,p0.sizes.inn,p0.sizes.outt,p0.sizes.rail,p0.mode]]:kO) (.str []) w33 w34 w35)=tm (β:=R) (Nr w54 p0 w34 w35) fun r=>(.normal,[(.ptr 0 0),(.str []),w33,w34,r],([.cells [p0.reset,p0.handler,p0.sizes.inn,p0.sizes.outt,p0.sizes.rail,p0.mode]]:kO)):=by
 cases w54 <;> simp [-rZ,-oZ,-oJ,-p5,-pV,-qX,-qY,Qy,Nr,amM]
def Qx (K:kT) (m:Nat) (t48:kN) (aA:kN) (aK:kO) (aC:kN) (aD:kN) (aB:kN) (t31:kN):Option R :=
 kV t48 (fa 2 aA fun aM=>fa 1 aM fun aN=>ld false 1 aK aN fun t52=>kZ m .normal [aA,aC,aD,aB,t52] aK) (bo .eql aB (9:Int) fun t53=>(Qy K (aa5 aK) t53 aA aK aC aD aB t31).bind fun aE=>(fun aF aG aH aI aJ aL=>Ex.pR aE.1 (kZ m .normal [aF,aG,aH,aI,aJ] aL)) (gd aE.2.1 0) (gd aE.2.1 1) (gd aE.2.1 2) (gd aE.2.1 3) (gd aE.2.1 4) aE.2.2)
def Nq (aD:Bool) (p0:Hd) (aA:Int) (aC:Int):Option (Int) :=
 tc aD (some p0.sizes.outt) (tb (Nr (decide (aA=9)) p0 aA aC) fun aB=>some aB)
theorem amK (w49:Bool) (p0:Hd) (w33:(List UInt8)) (w34:Int) (w35:Int):(Qx KK 1 w49 (.ptr 0 0) ([.cells [p0.reset,p0.handler,p0.sizes.inn,p0.sizes.outt,p0.sizes.rail,p0.mode]]:kO) (.str []) w33 w34 w35)=tm (β:=R) (Nq w49 p0 w34 w35) fun r=>(.normal,[(.ptr 0 0),(.str []),w33,w34,r],([.cells [p0.reset,p0.handler,p0.sizes.inn,p0.sizes.outt,p0.sizes.rail,p0.mode]]:kO)):=by
 cases w49 <;> simp [-rZ,-oZ,-oJ,-p5,-pV,-qX,-qY,Qx,Nq,amL]
def Qw (K:kT) (m:Nat) (aL:kN) (aA:kN) (aJ:kO) (aC:kN) (aD:kN) (aB:kN) (t31:kN):Option R :=
 kV aL (fa 2 aA fun t45=>fa 0 t45 fun t46=>ld false 1 aJ t46 fun aM=>kZ m .normal [aA,aC,aD,aB,aM] aJ) (bo .eql aB (8:Int) fun t48=>(Qx K (aa5 aJ) t48 aA aJ aC aD aB t31).bind fun PF=>(fun aE aF aG aH aI aK=>Ex.pR PF.1 (kZ m .normal [aE,aF,aG,aH,aI] aK)) (gd PF.2.1 0) (gd PF.2.1 1) (gd PF.2.1 2) (gd PF.2.1 3) (gd PF.2.1 4) PF.2.2)
def Np (aC:Bool) (p0:Hd) (aA:Int) (aB:Int):Option (Int) :=
 tc aC (some p0.sizes.inn) (tb (Nq (decide (aA=8)) p0 aA aB) fun PF=>some PF)
theorem amJ (w44:Bool) (p0:Hd) (w33:(List UInt8)) (w34:Int) (w35:Int):(Qw KK 1 w44 (.ptr 0 0) ([.cells [p0.reset,p0.handler,p0.sizes.inn,p0.sizes.outt,p0.sizes.rail,p0.mode]]:kO) (.str []) w33 w34 w35)=tm (β:=R) (Np w44 p0 w34 w35) fun r=>(.normal,[(.ptr 0 0),(.str []),w33,w34,r],([.cells [p0.reset,p0.handler,p0.sizes.inn,p0.sizes.outt,p0.sizes.rail,p0.mode]]:kO)):=by
 cases w44 <;> simp [-rZ,-oZ,-oJ,-p5,-pV,-qX,-qY,Qw,Np,amK]
def Qv (K:kT) (m:Nat) (t38:kN) (aA:kN) (aK:kO) (aC:kN) (aD:kN) (aB:kN) (t31:kN):Option R :=
 kV t38 (fa 0 aA fun aM=>ld false 1 aK aM fun aN=>bo .add aN (1:Int) fun t42=>kZ m .normal [aA,aC,aD,aB,t42] aK) (bo .eql aB (7:Int) fun aO=>(Qw K (aa5 aK) aO aA aK aC aD aB t31).bind fun aE=>(fun aF aG aH aI aJ aL=>Ex.pR aE.1 (kZ m .normal [aF,aG,aH,aI,aJ] aL)) (gd aE.2.1 0) (gd aE.2.1 1) (gd aE.2.1 2) (gd aE.2.1 3) (gd aE.2.1 4) aE.2.2)
def Nn (aD:Bool) (p0:Hd) (aA:Int) (aC:Int):Option (Int) :=
 tc aD (some (IntKind.wrap .i64 (p0.reset+1))) (tb (Np (decide (aA=7)) p0 aA aC) fun aB=>some aB)
theorem amI (w39:Bool) (p0:Hd) (w33:(List UInt8)) (w34:Int) (w35:Int):(Qv KK 1 w39 (.ptr 0 0) ([.cells [p0.reset,p0.handler,p0.sizes.inn,p0.sizes.outt,p0.sizes.rail,p0.mode]]:kO) (.str []) w33 w34 w35)=tm (β:=R) (Nn w39 p0 w34 w35) fun r=>(.normal,[(.ptr 0 0),(.str []),w33,w34,r],([.cells [p0.reset,p0.handler,p0.sizes.inn,p0.sizes.outt,p0.sizes.rail,p0.mode]]:kO)):=by
 cases w39 <;> simp [-rZ,-oZ,-oJ,-p5,-pV,-qX,-qY,Qv,Nn,amJ]
def Qu (K:kT) (m:Nat) (t32:kN) (aB:kN) (aC:kN) (aD:kN) (aA:kN) (aJ:kO) (t31:kN):Option R :=
 kV t32 (kZ m .normal [aB,aC,aD,aA,(537133056:Int)] aJ) (bo .eql aA (1:Int) fun t38=>(Qv K (aa5 aJ) t38 aB aJ aC aD aA t31).bind fun Eu=>(fun aE aF aG aH aI aK=>Ex.pR Eu.1 (kZ m .normal [aE,aF,aG,aH,aI] aK)) (gd Eu.2.1 0) (gd Eu.2.1 1) (gd Eu.2.1 2) (gd Eu.2.1 3) (gd Eu.2.1 4) Eu.2.2)
def It (aC:Bool) (aA:Int) (p0:Hd) (aB:Int):Option (Int) :=
 tc aC (some 537133056) (tb (Nn (decide (aA=1)) p0 aA aB) fun Eu=>some Eu)
theorem amH (w37:Bool) (w33:(List UInt8)) (w34:Int) (p0:Hd) (w35:Int):(Qu KK 1 w37 (.ptr 0 0) (.str []) w33 w34 ([.cells [p0.reset,p0.handler,p0.sizes.inn,p0.sizes.outt,p0.sizes.rail,p0.mode]]:kO) w35)=tm (β:=R) (It w37 w34 p0 w35) fun r=>(.normal,[(.ptr 0 0),(.str []),w33,w34,r],([.cells [p0.reset,p0.handler,p0.sizes.inn,p0.sizes.outt,p0.sizes.rail,p0.mode]]:kO)):=by
 cases w37 <;> simp [-rZ,-oZ,-oJ,-p5,-pV,-qX,-qY,Qu,It,amI]
def Ma (K:kT) (m:Nat) (s:List kN×kO):Option R :=
 (fun aB aC aD aA aJ=>bo .lss aA (16:Int) fun aM=>kV aM (fa 1 aB fun t29=>ld false 1 aJ t29 fun aN=>bo .add aN (1:Int) fun t31=>bo .eql aA zO fun t32=>(Qu K (aa5 aJ) t32 aB aC aD aA aJ t31).bind fun PG=>(fun aH aI aE aF aG aK=>Ex.pR PG.1 (ca (K 24 [(kN.kP aG)] aK) fun t104 aL=>bo .add aE t104 fun t107=>bo .add aF (1:Int) fun t109=>kZ m .normal [aH,aI,t107,t109] aL)) (gd PG.2.1 0) (gd PG.2.1 1) (gd PG.2.1 2) (gd PG.2.1 3) (gd PG.2.1 4) PG.2.2) (kZ m (.exit 0) [aB,aC,aD,aA] aJ)) (gd s.1 0) (gd s.1 1) (gd s.1 2) (gd s.1 3) s.2
def CP (p0:Hd) (aA:(List UInt8)×Int):Option (Ey×(List UInt8)×Int) :=
 tc (decide (aA.2<16)) (tb (It (decide (aA.2=0)) aA.2 p0 (IntKind.wrap .i64 (p0.handler+1))) fun PG=>tb ((t24 PG)) fun Gm=>tb ((C0 aA.1 Gm)) fun aB=>some (.n,(aB,(IntKind.wrap .i64 (aA.2+1))))) (some ((.x 0),(aA.1,aA.2)))
theorem ag1 (p0:Hd) (s22:(List UInt8)×Int):Ma KK 1 ([(.ptr 0 0),(.str []),s22.1,s22.2],([.cells [p0.reset,p0.handler,p0.sizes.inn,p0.sizes.outt,p0.sizes.rail,p0.mode]]:kO))=tm (β:=R) (CP p0 s22) fun r=>(r.1.ex,[(.ptr 0 0),(.str []),r.2.1,r.2.2],([.cells [p0.reset,p0.handler,p0.sizes.inn,p0.sizes.outt,p0.sizes.rail,p0.mode]]:kO)):=by
 simp [-rZ,-oZ,-oJ,-p5,-pV,-qX,-qY,Ma,CP,amH,pY]
theorem amN (p0:Hd) (i2:Int):nP (Ma KK 1) ([(.ptr 0 0),(.str []),(.str []),i2],([.cells [p0.reset,p0.handler,p0.sizes.inn,p0.sizes.outt,p0.sizes.rail,p0.mode]]:kO))=tm (β:=R) (rX (CP p0) ([],i2)) fun r=>(r.1.ex,[(.ptr 0 0),(.str []),r.2.1,r.2.2],([.cells [p0.reset,p0.handler,p0.sizes.inn,p0.sizes.outt,p0.sizes.rail,p0.mode]]:kO)):=by
 exact uE (enc:=fun s22=>([(.ptr 0 0),(.str []),(.str s22.1),(.int .i64 s22.2)],([.cells [(.int .i64 p0.reset),(.int .i64 p0.handler),(.int .i64 p0.sizes.inn),(.int .i64 p0.sizes.outt),(.int .i64 p0.sizes.rail),(.int .i64 p0.mode)]]:kO))) (fun s22=>ag1 p0 s22) ([],i2)
def m17 (K:kT) (a0:kN) (h0:kO):Option (mR×kO) :=
 (kW (lR 6 h0 a0) fun aI aH=>(nP (Ma K (aa5 aH)) ([aI,(.str []),(.str []),zO],aH)).bind fun Fc=>(fun aF aA aB aG aC=>Ex.l_ Fc.1 none (fun aD=>Ex.inBlock 0 aD (some (.ret,[aB],aC)) (fun aE=>some (aE,[aA],aC)))) (gd Fc.2.1 0) (gd Fc.2.1 1) (gd Fc.2.1 2) (gd Fc.2.1 3) Fc.2.2).bind (mA (aa5 h0))
theorem ajL K a0 h0:nN K 17 [a0] h0=m17 (lG mJ K) a0 h0:=by kernel_rfl
def t17 (p0:Hd):Option ((List UInt8)) :=
 tb (rX (CP p0) ([],0)) fun Fc=>uL Fc.1 none fun aA=>vO 0 aA (some Fc.2.1) fun aB=>Ao aB (some [])
theorem r17 (p0:Hd) (h:kO):KK 17 [(.agg [p0.reset,p0.handler,p0.sizes.inn,p0.sizes.outt,p0.sizes.rail,p0.mode])] h=tm (t17 p0) fun r=>(.ret r,h):=lJ rfl rfl (ajL ..) (by
 simp [-rZ,-oZ,-oJ,-p5,-pV,-qX,-qY,m17,t17,amN,mA])
def WD (K:kT) (t85:kN) (aA:kO) (aC:kN) (a1:kN):Option R :=
 kV t85 (some (.ret,[(.str []),(2:Int)],aA)) (ld true 6 aA aC fun t89=>ca (K 17 [(kN.kP t89)] aA) fun t90 aB=>bo .add t90 a1 fun t93=>some (.ret,[t93,zO],aB))
def Pr (aB:Bool) (p0:Hd) (p1:(List UInt8)):Option ((List UInt8)×Int) :=
 tc aB (some ([],2)) (tb ((t17 p0)) fun Nd=>tb ((C0 Nd p1)) fun aA=>some (aA,0))
theorem Xo (w88:Bool) (p0:Hd) (p1:(List UInt8)):((WD KK w88 ([.cells [p0.reset,p0.handler,p0.sizes.inn,p0.sizes.outt,p0.sizes.rail,p0.mode]]:kO) (.ptr 0 0) p1)).bind (Cm 0)=tm (Pr w88 p0 p1) fun r=>(.ret (.tuple [r.1,r.2]),[]):=by
 cases w88 <;> simp [-rZ,-oZ,-oJ,-p5,-pV,-qX,-qY,WD,Pr,r15,r16,r17,Cm]
def WC (K:kT) (t65:kN) (aF:kN) (aB:kO) (aI:kN) (a1:kN):Option R :=
 gS false t65 (fa 1 aF fun aJ=>lI aJ aB) aB fun aK aA=>gS false t65 (ld false 1 aA aK fun t72=>lI t72 aA) aA fun t73 aC=>gS false t65 (lI aI aC) aC fun t75 aD=>gS false t65 (cg (K 16 [(kN.kP t73),(kN.kP t75)] aD) fun t77 aG=>lI t77 aG) aD fun t80 aE=>gS false t65 ((vN .not t80).bind fun aL=>lI aL aE) aE fun aM aH=>(lH t65 true aM).bind fun t85=>WD K t85 aH aF a1
def Pq (aC:Bool) (p0:Hd) (aB:Int) (p1:(List UInt8)):Option ((List UInt8)×Int) :=
 tc aC (Pr true p0 p1) (tb ((t16 p0.handler aB)) fun aA=>Pr (!aA) p0 p1)
theorem afF (w68:Bool) (p0:Hd) (w46:Int) (p1:(List UInt8)):((WC KK w68 (.ptr 0 0) ([.cells [p0.reset,p0.handler,p0.sizes.inn,p0.sizes.outt,p0.sizes.rail,p0.mode]]:kO) w46 p1)).bind (Cm 0)=tm (Pq w68 p0 w46 p1) fun r=>(.ret (.tuple [r.1,r.2]),[]):=by
 cases w68 <;> simp [-rZ,-oZ,-oJ,-p5,-pV,-qX,-qY,WC,Pq,r15,r16,r17,Cm,Xo]
def WB (K:kT) (t42:kN) (aF:kN) (aB:kO) (aG:kN) (a1:kN):Option R :=
 gS false t42 (fa 0 aF fun t49=>lI t49 aB) aB fun aJ aA=>gS false t42 (ld false 1 aA aJ fun t52=>lI t52 aA) aA fun t53 aC=>gS false t42 (lI aG aC) aC fun t55 aD=>gS false t42 (cg (K 16 [(kN.kP t53),(kN.kP t55)] aD) fun t57 aH=>lI t57 aH) aD fun aK aE=>gS false t42 ((vN .not aK).bind fun t62=>lI t62 aE) aE fun t63 aI=>(lH t42 true t63).bind fun t65=>WC K t65 aF aI aG a1
def Pp (aC:Bool) (p0:Hd) (aA:Int) (p1:(List UInt8)):Option ((List UInt8)×Int) :=
 tc aC (Pq true p0 aA p1) (tb ((t16 p0.reset aA)) fun aB=>Pq (!aB) p0 aA p1)
theorem axI (w45:Bool) (p0:Hd) (w46:Int) (p1:(List UInt8)):((WB KK w45 (.ptr 0 0) ([.cells [p0.reset,p0.handler,p0.sizes.inn,p0.sizes.outt,p0.sizes.rail,p0.mode]]:kO) w46 p1)).bind (Cm 0)=tm (Pp w45 p0 w46 p1) fun r=>(.ret (.tuple [r.1,r.2]),[]):=by
 cases w45 <;> simp [-rZ,-oZ,-oJ,-p5,-pV,-qX,-qY,WB,Pp,r15,r16,r17,Cm,Xo,afF]
def m9 (K:kT) (a0 a1:kN) (h0:kO):Option (mR×kO) :=
 (kW (lR 6 h0 a0) fun aB aD=>(nG a1).bind fun aI=>bo .add (64:Int) aI fun aF=>fa 2 aB fun t24=>ld true 3 aD t24 fun aJ=>ca (K 15 [(kN.kP aJ),(kN.kP aF)] aD) fun aG aA=>bo .neq aG zO fun t29=>kV t29 (some (.ret,[(.str []),aG],aA)) (fa 5 aB fun aK=>ld false 1 aA aK fun t31=>bo .lss t31 zO fun t32=>gS false t32 (fa 5 aB fun t33=>lI t33 aA) aA fun aL aC=>gS false t32 (ld false 1 aC aL fun t36=>lI t36 aC) aC fun aM aE=>gS false t32 (bo .gtr aM (2:Int) fun aN=>lI aN aE) aE fun aO aH=>(lH t32 true aO).bind fun t42=>WB K t42 aB aH aF a1)).bind (Cm (aa5 h0))
theorem awD K a0 a1 h0:nN K 9 [a0,a1] h0=m9 (lG mJ K) a0 a1 h0:=by kernel_rfl
def t9 (p0:Hd) (p1:(List UInt8)):Option ((List UInt8)×Int) :=
 tb ((t15 p0.sizes (IntKind.wrap .i64 (64+((p1.length:Nat):Int))))) fun aA=>tc (!decide (aA=0)) (some ([],aA)) (tc (decide (p0.mode<0)) (Pp true p0 (IntKind.wrap .i64 (64+((p1.length:Nat):Int))) p1) (Pp (decide (2<p0.mode)) p0 (IntKind.wrap .i64 (64+((p1.length:Nat):Int))) p1))
theorem r9 (p0:Hd) (p1:(List UInt8)) (h:kO):KK 9 [(.agg [p0.reset,p0.handler,p0.sizes.inn,p0.sizes.outt,p0.sizes.rail,p0.mode]),p1] h=tm (t9 p0 p1) fun r=>(.ret (.tuple [r.1,r.2]),h):=lJ rfl rfl (awD ..) (by
 simp +contextual [-rZ,-oZ,-oJ,-p5,-pV,-qX,-qY,m9,t9,r15,r16,r17,Cm,Xo,afF,axI])
theorem r9x (x0_0:Int) (x0_1:Int) (x0_2:Int) (x0_3:Int) (x0_4:Int) (x0_5:Int) (p1:(List UInt8)) (h:kO):KK 9 [(.agg [x0_0,x0_1,x0_2,x0_3,x0_4,x0_5]),p1] h=tm (t9 (⟨x0_0,x0_1,(⟨x0_2,x0_3,x0_4⟩:Sz),x0_5⟩:Hd) p1) fun r=>(.ret (.tuple [r.1,r.2]),h):=r9 (⟨x0_0,x0_1,(⟨x0_2,x0_3,x0_4⟩:Sz),x0_5⟩:Hd) p1 h
def aaY (mm:Nat) (aC:R):Option (mR×kO) :=
 (fun aA aB aD=>Ex.oH aC.1 ((kY true 6 aD aA).bind fun t85=>oM mm (.tuple [t85,aB]) aD)) (gd aC.2.1 0) (gd aC.2.1 1) aC.2.2
def Wz (K:kT) (t67:kN) (aB:kO) (aA:kN) (t48:kN):Option R :=
 kV t67 ((lB [zO,zO,zO,zO,zO,zO] [(0,1),(1,1),(2,3),(5,1)] []).bind fun t77=>(kR 6 aB aA t77).bind fun aC=>some (.ret,[aA,(4:Int)],aC)) (ld true 6 aB t48 fun aE=>(kR 6 aB aA aE).bind fun aD=>some (.ret,[aA,zO],aD))
def Pn (aB:Bool) (aC:Int) (aD:Int) (Co:Int) (aA:Int) (Da:Int) (AY:Int):Option (Hd×Int) :=
 tc aB (some ((⟨0,0,(⟨0,0,0⟩:Sz),0⟩:Hd),4)) (some ((⟨aC,aD,(⟨Co,aA,Da⟩:Sz),AY⟩:Hd),0))
theorem axG (w70:Bool) (w75:Int) (w76:Int) (Co:Int) (r39:Int) (Da:Int) (AY:Int):((Wz KK w70 ([.cells [zO,zO,zO,zO,zO,zO],.cells [w75,w76,Co,r39,Da,AY]]:kO) (.ptr 0 0) (.ptr 1 0))).bind (aaY 0)=tm (Pn w70 w75 w76 Co r39 Da AY) fun r=>(.ret (.tuple [(.agg [r.1.reset,r.1.handler,r.1.sizes.inn,r.1.sizes.outt,r.1.sizes.rail,r.1.mode]),r.2]),[]):=by
 cases w70 <;> simp [-rZ,-oZ,-oJ,-p5,-pV,-qX,-qY,Wz,Pn,r8,r9x,aaY]
def m4 (K:kT) (a0:kN) (h0:kO):Option (mR×kO) :=
 (kW (lR 6 h0 (.agg [zO,zO,zO,zO,zO,zO])) fun aB aC=>(nG a0).bind fun aQ=>bo .lss aQ (64:Int) fun aR=>kV aR ((lB [zO,zO,zO,zO,zO,zO] [(0,1),(1,1),(2,3),(5,1)] []).bind fun t24=>(kR 6 aC aB t24).bind fun aH=>some (.ret,[aB,(3:Int)],aH)) (ca (K 8 [(kN.kP a0),(kN.kP (1:Int))] aC) fun aS aI=>bo .sub aS (1:Int) fun t29=>ca (K 8 [(kN.kP a0),(kN.kP (3:Int))] aI) fun aT aJ=>bo .sub aT (1:Int) fun t33=>ca (K 8 [(kN.kP a0),(kN.kP (7:Int))] aJ) fun aU aK=>ca (K 8 [(kN.kP a0),(kN.kP (8:Int))] aK) fun aV aL=>ca (K 8 [(kN.kP a0),(kN.kP (9:Int))] aL) fun aW aM=>(lB [zO,zO,zO] [(0,1),(1,1),(2,1)] [(0,aU),(1,aV),(2,aW)]).bind fun aX=>ca (K 8 [(kN.kP a0),(kN.kP (10:Int))] aM) fun aY aN=>(lB [zO,zO,zO,zO,zO,zO] [(0,1),(1,1),(2,3),(5,1)] [(0,t29),(1,t33),(2,aX),(3,aY)]).bind fun aZ=>kW (lR 6 aN (.agg [zO,zO,zO,zO,zO,zO])) fun t48 aO=>(kR 6 aO t48 aZ).bind fun aD=>ld true 6 aD t48 fun a_=>(nT a0 (some (64:Int)) none).bind fun t52=>ca (K 9 [(kN.kP a_),(kN.kP t52)] aD) fun t54 aE=>(lC 0 t54).bind fun t57=>(lC 1 t54).bind fun bA=>bo .neq bA zO fun aA=>gS false aA (lI t57 aE) aE fun bB aF=>gS false aA (lI a0 aF) aF fun t62 aG=>gS false aA (bo .neq bB t62 fun t64=>lI t64 aG) aG fun t65 aP=>(lH aA true t65).bind fun t67=>Wz K t67 aP aB t48)).bind (aaY (aa5 h0))
theorem av6 K a0 h0:nN K 4 [a0] h0=m4 (lG mJ K) a0 h0:=by kernel_rfl
def t4 (p0:(List UInt8)):Option (Hd×Int) :=
 tc (decide (((p0.length:Nat):Int)<64)) (some ((⟨0,0,(⟨0,0,0⟩:Sz),0⟩:Hd),3)) (tb ((t8 p0 1)) fun aA=>tb ((t8 p0 3)) fun xG=>tb ((t8 p0 7)) fun Co=>tb ((t8 p0 8)) fun aB=>tb ((t8 p0 9)) fun Da=>tb ((t8 p0 10)) fun AY=>tb ((zP p0 (some 64) none)) fun aD=>tb ((t9 (⟨(IntKind.wrap .i64 (aA-1)),(IntKind.wrap .i64 (xG-1)),(⟨Co,aB,Da⟩:Sz),AY⟩:Hd) aD)) fun aC=>tc (!decide (aC.2=0)) (Pn true (IntKind.wrap .i64 (aA-1)) (IntKind.wrap .i64 (xG-1)) Co aB Da AY) (Pn (!decide (aC.1=p0)) (IntKind.wrap .i64 (aA-1)) (IntKind.wrap .i64 (xG-1)) Co aB Da AY))
theorem r4 (p0:(List UInt8)) (h:kO):KK 4 [p0] h=tm (t4 p0) fun r=>(.ret (.tuple [(.agg [r.1.reset,r.1.handler,r.1.sizes.inn,r.1.sizes.outt,r.1.sizes.rail,r.1.mode]),r.2]),h):=lJ rfl rfl (av6 ..) (by
 simp +contextual -implicitDefEqProofs (maxSteps:=2000000) [-rZ,-oZ,-oJ,-p5,-pV,-qX,-qY,m4,t4,r8,r9x,aaY,axG])
end
end
noncomputable section
open Go Hk
section
set_option maxHeartbeats 8000000
def m67 (K:kT) (a0 a1 a2 a3:kN) (h0:kO):Option (mR×kO) :=
 (kW (lR 5 h0 a0) fun aB aA=>fa 0 aB fun aE=>ld true 3 aA aE fun aF=>fa 3 aB fun t24=>ld false 1 aA t24 fun aG=>(nG aG).bind fun aH=>ca (K 97 [(kN.kP aF),(kN.kP aH)] aA) fun t27 aC=>(lC 0 t27).bind fun aI=>(lC 1 t27).bind fun t31=>ca (K 98 [(kN.kP aI),(kN.kP a1),(kN.kP a2),(kN.kP a3)] aC) fun t32 aD=>(lC 0 t32).bind fun t35=>(lC 1 t32).bind fun t36=>some (.ret,[t36],aD)).bind (mA (aa5 h0))
theorem akU K a0 a1 a2 a3 h0:nN K 67 [a0,a1,a2,a3] h0=m67 (lG mJ K) a0 a1 a2 a3 h0:=by kernel_rfl
def t67 (p0:tX) (p1:Int) (p2:Int) (p3:Bool):Option (Int) :=
 tb ((t97 p0.sizes ((p0.flash.length:Nat):Int))) fun uZ=>tb ((t98 uZ.1 p1 p2 p3)) fun aA=>some aA.2
theorem U8 (p0:tX) (p1:Int) (p2:Int) (p3:Bool) (h:kO):KK 67 [(.agg [p0.sizes.inn,p0.sizes.outt,p0.sizes.rail,p0.flash,p0.input]),p1,p2,p3] h=tm (t67 p0 p1 p2 p3) fun r=>(.ret r,h):=lJ rfl rfl (akU ..) (by
 simp +contextual -implicitDefEqProofs [-rZ,-oZ,-oJ,-p5,-pV,-qX,-qY,m67,t67,PG,TR,mA])
def Rs (K:kT) (m:Nat) (t108:kN) (aJ:kN) (aA:kO) (aB:kN) (aC:kN) (aD:kN) (aE:kN) (aF:kN):Option R :=
 kV t108 (fa 3 aJ fun t112=>ld false 1 aA t112 fun aH=>fa 1 aJ fun t114=>ld false 1 aA t114 fun t115=>bo .sub aB t115 fun t116=>ca (K 24 [(kN.kP aH)] (oR (lA [0] [t114]) aA)) fun t117 aG=>(mS t117 t116).bind fun aI=>(mC .i64 aI).bind fun t122=>kZ m .ret [aC,aB,aD,t122,aE] (lO (lA [0] [t114]) aA aG)) (bo .sub aE (1:Int) fun t123=>kZ m .normal [aC,aB,aD,aF,t123] aA)
def IL (aC:Bool) (aD:pF) (p2:Int) (aE:Int) (aF:Int):Option (Ey×Int×Int) :=
 tc aC (tb ((t24 aD.v)) fun aB=>tb ((uU aB (IntKind.wrap .i64 (p2-aD.a)))) fun aA=>some (.r,((IntKind.wrap .i64 aA),aE))) (some (.n,(aF,(IntKind.wrap .i64 (aE-1)))))
theorem SL (w111:Bool) (p0:tX) (u35:pF) (p2:Int) (p1:(List pF)) (w59:Int) (w58:Int):(Rs KK 1 w111 (.ptr 1 0) ([.cells [p0.sizes.inn,p0.sizes.outt,p0.sizes.rail,p0.flash,p0.input],.cells [u35.kind,u35.a,u35.n,u35.v]]:kO) p2 (.slice (Rw pF.cells p1) .no) (.ptr 0 0) w59 w58)=tm (β:=R) (IL w111 u35 p2 w59 w58) fun r=>(r.1.ex,[(.slice (Rw pF.cells p1) .no),p2,(.ptr 0 0),r.2.1,r.2.2],([.cells [p0.sizes.inn,p0.sizes.outt,p0.sizes.rail,p0.flash,p0.input]]:kO)):=by
 cases w111 <;> simp +contextual -implicitDefEqProofs [-rZ,-oZ,-oJ,-p5,-pV,-qX,-qY,Rs,IL,U8,pY]
def Rr (K:kT) (m:Nat) (aA:kN) (aJ:kO) (aB:kN) (aM:kN) (aE:kN) (aD:kN) (aG:kN) (aF:kN):Option R :=
 gS true aA (ld true 5 aJ aB fun t85=>lI t85 aJ) aJ fun aQ aN=>gS true aA (fa 1 aM fun t88=>lI t88 aN) aN fun t89 aK=>gS true aA (ld false 1 aK t89 fun t91=>lI t91 aK) aK fun t92 aO=>gS true aA (fa 2 aM fun t94=>lI t94 aO) aO fun t95 aL=>gS true aA (ld false 1 aL t95 fun t97=>lI t97 aL) aL fun t98 aP=>gS true aA (cg (K 67 [(kN.kP aQ),(kN.kP t92),(kN.kP t98),(kN.kP true)] aP) fun t100 aH=>lI t100 aH) aP fun t103 aC=>gS true aA (bo .eql t103 zO fun t105=>lI t105 aC) aC fun t106 aI=>(lH aA t106 false).bind fun t108=>Rs K m t108 aM aI aE aD aB aG aF
def IK (aD:Bool) (p0:tX) (aA:pF) (p2:Int) (aC:Int) (aB:Int):Option (Ey×Int×Int) :=
 tc aD (tb ((t67 p0 aA.a aA.n true)) fun al7=>IL (decide (al7=0)) aA p2 aC aB) (IL false aA p2 aC aB)
theorem Xg (w84:Bool) (p0:tX) (u35:pF) (p2:Int) (p1:(List pF)) (w59:Int) (w58:Int):(Rr KK 1 w84 ([.cells [p0.sizes.inn,p0.sizes.outt,p0.sizes.rail,p0.flash,p0.input],.cells [u35.kind,u35.a,u35.n,u35.v]]:kO) (.ptr 0 0) (.ptr 1 0) p2 (.slice (Rw pF.cells p1) .no) w59 w58)=tm (β:=R) (IK w84 p0 u35 p2 w59 w58) fun r=>(r.1.ex,[(.slice (Rw pF.cells p1) .no),p2,(.ptr 0 0),r.2.1,r.2.2],([.cells [p0.sizes.inn,p0.sizes.outt,p0.sizes.rail,p0.flash,p0.input]]:kO)):=by
 cases w84 <;> simp +contextual -implicitDefEqProofs [-rZ,-oZ,-oJ,-p5,-pV,-qX,-qY,Rr,IK,U8,pY,SL]
def Rq (K:kT) (m:Nat) (t54:kN) (aA:kN) (aI:kO) (aH:kN) (aC:kN) (aB:kN) (aE:kN) (aD:kN):Option R :=
 gS true t54 (lI aA aI) aI fun aO aJ=>gS true t54 (fa 1 aH fun t63=>lI t63 aJ) aJ fun t64 aF=>gS true t54 (ld false 1 aF t64 fun t66=>lI t66 aF) aF fun t67 aK=>gS true t54 (bo .sub aO t67 fun aP=>lI aP aK) aK fun aQ aL=>gS true t54 (fa 2 aH fun t72=>lI t72 aL) aL fun t73 aG=>gS true t54 (ld false 1 aG t73 fun t75=>lI t75 aG) aG fun t76 aM=>gS true t54 (bo .lss aQ t76 fun t78=>lI t78 aM) aM fun aR aN=>(lH t54 aR false).bind fun aS=>Rr K m aS aN aC aH aA aB aE aD
def IJ (aD:Bool) (p2:Int) (p0:tX) (aA:pF) (aC:Int) (aB:Int):Option (Ey×Int×Int) :=
 tc aD (IK (decide ((IntKind.wrap .i64 (p2-aA.a))<aA.n)) p0 aA p2 aC aB) (IK false p0 aA p2 aC aB)
theorem anE (w57:Bool) (p2:Int) (p0:tX) (u35:pF) (p1:(List pF)) (w59:Int) (w58:Int):(Rq KK 1 w57 p2 ([.cells [p0.sizes.inn,p0.sizes.outt,p0.sizes.rail,p0.flash,p0.input],.cells [u35.kind,u35.a,u35.n,u35.v]]:kO) (.ptr 1 0) (.ptr 0 0) (.slice (Rw pF.cells p1) .no) w59 w58)=tm (β:=R) (IJ w57 p2 p0 u35 w59 w58) fun r=>(r.1.ex,[(.slice (Rw pF.cells p1) .no),p2,(.ptr 0 0),r.2.1,r.2.2],([.cells [p0.sizes.inn,p0.sizes.outt,p0.sizes.rail,p0.flash,p0.input]]:kO)):=by
 cases w57 <;> simp +contextual -implicitDefEqProofs [-rZ,-oZ,-oJ,-p5,-pV,-qX,-qY,Rq,IJ,U8,pY,SL,Xg]
def Mq (K:kT) (m:Nat) (s:List kN×kO):Option R :=
 (fun aB aC aD aE aA aG=>bo .geq aA zO fun t33=>kV t33 (ix 4 aB aA fun aN=>ld true 4 aG aN fun t36=>kW (lR 4 aG (.agg [zO,zO,zO,zO])) fun aF aL=>(kR 4 aL aF t36).bind fun aH=>fa 0 aF fun aO=>ld false 1 aH aO fun aP=>bo .neq aP zO fun t42=>gS true t42 (lI aC aH) aH fun aQ aJ=>gS true t42 (fa 1 aF fun t45=>lI t45 aJ) aJ fun t46 aI=>gS true t42 (ld false 1 aI t46 fun t48=>lI t48 aI) aI fun t49 aK=>gS true t42 (bo .geq aQ t49 fun aR=>lI aR aK) aK fun t52 aM=>(lH t42 t52 false).bind fun t54=>Rq K m t54 aC aM aF aD aB aA aE) (kZ m (.exit 0) [aB,aC,aD,aE,aA] aG)) (gd s.1 0) (gd s.1 1) (gd s.1 2) (gd s.1 3) (gd s.1 4) s.2
def BE (p1:(List pF)) (p2:Int) (p0:tX) (aA:Int×Int):Option (Ey×Int×Int) :=
 tc (decide (0≤aA.2)) (tb ((sF p1 aA.2)) fun aB=>tc (!decide (aB.kind=0)) (IJ (decide (aB.a≤p2)) p2 p0 aB aA.2 aA.1) (IJ false p2 p0 aB aA.2 aA.1)) (some ((.x 0),(aA.1,aA.2)))
theorem ahB (p1:(List pF)) (p2:Int) (p0:tX) (s26:Int×Int):Mq KK 1 ([(.slice (Rw pF.cells p1) .no),p2,(.ptr 0 0),s26.1,s26.2],([.cells [p0.sizes.inn,p0.sizes.outt,p0.sizes.rail,p0.flash,p0.input]]:kO))=tm (β:=R) (BE p1 p2 p0 s26) fun r=>(r.1.ex,[(.slice (Rw pF.cells p1) .no),p2,(.ptr 0 0),r.2.1,r.2.2],([.cells [p0.sizes.inn,p0.sizes.outt,p0.sizes.rail,p0.flash,p0.input]]:kO)):=by
 simp +contextual -implicitDefEqProofs [-rZ,-oZ,-oJ,-p5,-pV,-qX,-qY,Mq,BE,U8,pY,SL,Xg,anE]
theorem Xf (p1:(List pF)) (p2:Int) (p0:tX) (i2:Int) (i3:Int):nP (Mq KK 1) ([(.slice (Rw pF.cells p1) .no),p2,(.ptr 0 0),i2,i3],([.cells [p0.sizes.inn,p0.sizes.outt,p0.sizes.rail,p0.flash,p0.input]]:kO))=tm (β:=R) (rX (BE p1 p2 p0) (i2,i3)) fun r=>(r.1.ex,[(.slice (Rw pF.cells p1) .no),p2,(.ptr 0 0),r.2.1,r.2.2],([.cells [p0.sizes.inn,p0.sizes.outt,p0.sizes.rail,p0.flash,p0.input]]:kO)):=by
 exact uE (enc:=fun s26=>([(.slice (Rw pF.cells p1) .no),(.int .i64 p2),(.ptr 0 0),(.int .i64 s26.1),(.int .i64 s26.2)],([.cells [(.int .i64 p0.sizes.inn),(.int .i64 p0.sizes.outt),(.int .i64 p0.sizes.rail),(.str p0.flash),(.str p0.input)]]:kO))) (fun s26=>ahB p1 p2 p0 s26) (i2,i3)
def Rt (K:kT) (aD:kN) (aC:kN) (aA:kO) (aB:kN):Option R :=
 kV aD (fa 4 aC fun aE=>ld false 1 aA aE fun aF=>bo .sub aB (536936448:Int) fun aG=>(mS aF aG).bind fun aH=>(mC .i64 aH).bind fun aI=>some (.ret,[aI],aA)) (some (.ret,[zO],aA))
def IN (aB:Bool) (p0:tX) (p2:Int):Option (Int) :=
 tc aB (tb ((uU p0.input (IntKind.wrap .i64 (p2-536936448)))) fun aA=>some (IntKind.wrap .i64 aA)) (some 0)
theorem anF (w163:Bool) (p0:tX) (p2:Int):((Rt KK w163 (.ptr 0 0) ([.cells [p0.sizes.inn,p0.sizes.outt,p0.sizes.rail,p0.flash,p0.input]]:kO) p2)).bind (mA 0)=tm (IN w163 p0 p2) fun r=>(.ret r,[]):=by
 cases w163 <;> simp +contextual -implicitDefEqProofs [-rZ,-oZ,-oJ,-p5,-pV,-qX,-qY,Rt,IN,Xf,mA]
def m68 (K:kT) (a0 a1 a2:kN) (h0:kO):Option (mR×kO) :=
 (kW (lR 5 h0 a0) fun aU aT=>ln a1 fun aV=>bo .sub aV (1:Int) fun aW=>(nP (Mq K (aa5 aT)) ([a1,a2,aU,zO,aW],aT)).bind fun Ab=>(fun aR aA aB aE aS aC=>Ex.l_ Ab.1 none (fun aJ=>Ex.inBlock 0 aJ (fa 3 aB fun aM=>ld false 1 aC aM fun aN=>(nG aN).bind fun aO=>bo .lss aA aO fun t136=>kV t136 (fa 3 aB fun t137=>ld false 1 aC t137 fun t138=>(mS t138 aA).bind fun t139=>(mC .i64 t139).bind fun t141=>some (.ret,[t141],aC)) (bo .geq aA (536936448:Int) fun t142=>gS true t142 (lI aA aC) aC fun t143 aF=>gS true t142 (fa 4 aB fun t145=>lI t145 aF) aF fun t146 aD=>gS true t142 (ld false 1 aD t146 fun t148=>lI t148 aD) aD fun t149 aG=>gS true t142 ((nG t149).bind fun t151=>lI t151 aG) aG fun t152 aH=>gS true t142 (bo .add (536936448:Int) t152 fun t154=>lI t154 aH) aH fun t155 aI=>gS true t142 (bo .lss t143 t155 fun t157=>lI t157 aI) aI fun aP aL=>(lH t142 aP false).bind fun aQ=>Rt K aQ aB aL aA)) (fun aK=>some (aK,[aE],aC)))) (gd Ab.2.1 0) (gd Ab.2.1 1) (gd Ab.2.1 2) (gd Ab.2.1 3) (gd Ab.2.1 4) Ab.2.2).bind (mA (aa5 h0))
theorem akV K a0 a1 a2 h0:nN K 68 [a0,a1,a2] h0=m68 (lG mJ K) a0 a1 a2 h0:=by kernel_rfl
def t68 (p0:tX) (p1:(List pF)) (p2:Int):Option (Int) :=
 tb (rX (BE p1 p2 p0) (0,(IntKind.wrap .i64 (((aa5 p1:Nat):Int)-1)))) fun Ab=>uL Ab.1 none fun aA=>vO 0 aA (tc (decide (p2<((p0.flash.length:Nat):Int))) (tb ((uU p0.flash p2)) fun aC=>some (IntKind.wrap .i64 aC)) (tc (decide (536936448≤p2)) (IN (decide (p2<(IntKind.wrap .i64 (536936448+((p0.input.length:Nat):Int))))) p0 p2) (IN false p0 p2))) fun aB=>Ao aB (some Ab.2.1)
theorem JT (p0:tX) (p1:(List pF)) (p2:Int) (h:kO):KK 68 [(.agg [p0.sizes.inn,p0.sizes.outt,p0.sizes.rail,p0.flash,p0.input]),(.slice (Rw pF.cells p1) .no),p2] h=tm (t68 p0 p1 p2) fun r=>(.ret r,h):=lJ rfl rfl (akV ..) (by
 simp +contextual -implicitDefEqProofs [-rZ,-oZ,-oJ,-p5,-pV,-qX,-qY,m68,t68,Xf,mA,anF])
def Mf (K:kT) (m:Nat) (s:List kN×kO):Option R :=
 (fun aC aD aE aF aG aB aA aH=>bo .geq aA zO fun aJ=>kV aJ (bo .mul (256:Int) aB fun aK=>ld true 5 aH aE fun aL=>bo .add aD aA fun t42=>ca (K 68 [(kN.kP aL),(kN.kP aC),(kN.kP t42)] aH) fun aM aI=>bo .add aK aM fun t46=>bo .sub aA (1:Int) fun aN=>kZ m .normal [aC,aD,aE,aF,aG,t46,aN] aI) (kZ m (.exit 0) [aC,aD,aE,aF,aG,aB,aA] aH)) (gd s.1 0) (gd s.1 1) (gd s.1 2) (gd s.1 3) (gd s.1 4) (gd s.1 5) (gd s.1 6) s.2
def CS (p1:(List pF)) (p2:Int) (p0:tX) (aA:Int×Int):Option (Ey×Int×Int) :=
 tc (decide (0≤aA.2)) (tb ((t68 p0 p1 (IntKind.wrap .i64 (p2+aA.2)))) fun U7=>some (.n,((IntKind.wrap .i64 ((IntKind.wrap .i64 (256*aA.1))+U7)),(IntKind.wrap .i64 (aA.2-1))))) (some ((.x 0),(aA.1,aA.2)))
theorem ag7 (p1:(List pF)) (p2:Int) (p0:tX) (s30:Int×Int):Mf KK 1 ([(.slice (Rw pF.cells p1) .no),p2,(.ptr 0 0),zO,zO,s30.1,s30.2],([.cells [p0.sizes.inn,p0.sizes.outt,p0.sizes.rail,p0.flash,p0.input]]:kO))=tm (β:=R) (CS p1 p2 p0 s30) fun r=>(r.1.ex,[(.slice (Rw pF.cells p1) .no),p2,(.ptr 0 0),zO,zO,r.2.1,r.2.2],([.cells [p0.sizes.inn,p0.sizes.outt,p0.sizes.rail,p0.flash,p0.input]]:kO)):=by
 simp +contextual -implicitDefEqProofs [-rZ,-oZ,-oJ,-p5,-pV,-qX,-qY,Mf,CS,JT]
theorem am1 (p1:(List pF)) (p2:Int) (p0:tX) (i4:Int) (i5:Int):nP (Mf KK 1) ([(.slice (Rw pF.cells p1) .no),p2,(.ptr 0 0),zO,zO,i4,i5],([.cells [p0.sizes.inn,p0.sizes.outt,p0.sizes.rail,p0.flash,p0.input]]:kO))=tm (β:=R) (rX (CS p1 p2 p0) (i4,i5)) fun r=>(r.1.ex,[(.slice (Rw pF.cells p1) .no),p2,(.ptr 0 0),zO,zO,r.2.1,r.2.2],([.cells [p0.sizes.inn,p0.sizes.outt,p0.sizes.rail,p0.flash,p0.input]]:kO)):=by
 exact uE (enc:=fun s30=>([(.slice (Rw pF.cells p1) .no),(.int .i64 p2),(.ptr 0 0),(.int .i64 0),(.int .i64 0),(.int .i64 s30.1),(.int .i64 s30.2)],([.cells [(.int .i64 p0.sizes.inn),(.int .i64 p0.sizes.outt),(.int .i64 p0.sizes.rail),(.str p0.flash),(.str p0.input)]]:kO))) (fun s30=>ag7 p1 p2 p0 s30) (i4,i5)
def m49 (K:kT) (a0 a1 a2 a3:kN) (h0:kO):Option (mR×kO) :=
 (kW (lR 5 h0 a0) fun aH aF=>ld true 5 aF aH fun aO=>ca (K 67 [(kN.kP aO),(kN.kP a2),(kN.kP a3),(kN.kP false)] aF) fun aI aD=>bo .neq aI zO fun aP=>kV aP (some (.ret,[zO,aI],aD)) (bo .sub a3 (1:Int) fun t27=>(nP (Mf K (aa5 aD)) ([a1,a2,aH,zO,zO,zO,t27],aD)).bind fun Pg=>(fun aJ aK aL aB aC aA aE aG=>Ex.l_ Pg.1 none (fun aM=>Ex.inBlock 0 aM (some (.ret,[aA,zO],aG)) (fun aN=>some (aN,[aB,aC],aG)))) (gd Pg.2.1 0) (gd Pg.2.1 1) (gd Pg.2.1 2) (gd Pg.2.1 3) (gd Pg.2.1 4) (gd Pg.2.1 5) (gd Pg.2.1 6) Pg.2.2)).bind (Cm (aa5 h0))
theorem akC K a0 a1 a2 a3 h0:nN K 49 [a0,a1,a2,a3] h0=m49 (lG mJ K) a0 a1 a2 a3 h0:=by kernel_rfl
def t49 (p0:tX) (p1:(List pF)) (p2:Int) (p3:Int):Option (Int×Int) :=
 tb ((t67 p0 p2 p3 false)) fun aA=>tc (!decide (aA=0)) (some (0,aA)) (tb (rX (CS p1 p2 p0) (0,(IntKind.wrap .i64 (p3-1)))) fun Pg=>uL Pg.1 none fun aB=>vO 0 aB (some (Pg.2.1,0)) fun aC=>Ao aC (some (0,0)))
theorem Ph (p0:tX) (p1:(List pF)) (p2:Int) (p3:Int) (h:kO):KK 49 [(.agg [p0.sizes.inn,p0.sizes.outt,p0.sizes.rail,p0.flash,p0.input]),(.slice (Rw pF.cells p1) .no),p2,p3] h=tm (t49 p0 p1 p2 p3) fun r=>(.ret (.tuple [r.1,r.2]),h):=lJ rfl rfl (akC ..) (by
 simp +contextual -implicitDefEqProofs [-rZ,-oZ,-oJ,-p5,-pV,-qX,-qY,m49,t49,U8,am1,Cm])
theorem ahT (y0:Int) (y1:Int) (h:kO):lE 1 2 [zO,zO] [(0,(.agg [y0,y1]))] h=some (.slice (Rw AR.cells [(⟨y0,y1⟩:AR)]) (.own h.length),h++[qL 2 1]):=by
 rfl
theorem ahU (y0:Int) (y1:Int) (h:kO):lE 1 2 [zO,zO] [(0,(.agg [y0,y1]))] h=some (.slice (Rw AR.cells [(⟨y0,y1⟩:AR)]) (.own h.length),h++[qL 2 1]):=by
 rfl
def QY (K:kT) (m:Nat) (aN:kN) (aD:kO) (aC:kN) (aA:kN) (aB:kN) (aF:kN) (aE:kN):Option R :=
 kV aN (ld true 5 aD aC fun t45=>(n8 4 aA none (some aB)).bind fun t46=>ix 4 aA aB fun t48=>fa 1 t48 fun aO=>ld false 1 aD aO fun aP=>ix 4 aA aB fun t52=>fa 2 t52 fun t54=>ld false 1 aD t54 fun t55=>ca (K 49 [(kN.kP t45),(kN.kP t46),(kN.kP aP),(kN.kP t55)] aD) fun aG aH=>(lC 0 aG).bind fun aQ=>(lC 1 aG).bind fun aR=>(lB [zO,zO] [(0,1),(1,1)] [(0,aQ),(1,aR)]).bind fun aS=>kW (lE 1 2 [zO,zO] [(0,aS)] aH) fun t62 aI=>kW (rS 2 16 aI aF t62) fun t64 aJ=>kZ m .normal [aA,aC,aE,t64,aB] aJ) (ld true 5 aD aC fun t67=>ix 4 aA aB fun t68=>fa 1 t68 fun aT=>ld false 1 aD aT fun t71=>ix 4 aA aB fun t72=>fa 2 t72 fun t74=>ld false 1 aD t74 fun t75=>ca (K 67 [(kN.kP t67),(kN.kP t71),(kN.kP t75),(kN.kP true)] aD) fun t76 aK=>(lB [zO,zO] [(0,1),(1,1)] [(0,zO),(1,t76)]).bind fun aU=>kW (lE 1 2 [zO,zO] [(0,aU)] aK) fun t80 aL=>kW (rS 2 16 aL aF t80) fun aV aM=>kZ m .normal [aA,aC,aE,aV,aB] aM)
def NG (aK:Bool) (p0:tX) (aC:(List AR)) (p1:(List pF)) (aA:Int):Option ((List AR)) :=
 tc aK (tb ((zP p1 none (some aA))) fun aF=>tb ((sF p1 aA)) fun aG=>tb ((sF p1 aA)) fun aH=>tb ((t49 p0 aF aG.a aH.n)) fun aB=>tb ((JY 16 aC [(⟨aB.1,aB.2⟩:AR)])) fun aD=>some aD) (tb ((sF p1 aA)) fun aI=>tb ((sF p1 aA)) fun aJ=>tb ((t67 p0 aI.a aJ.n true)) fun Kv=>tb ((JY 16 aC [(⟨0,Kv⟩:AR)])) fun aE=>some aE)
theorem amZ (w44:Bool) (p0:tX) (w40:(List AR)) (p1:(List pF)) (w41:Int):(QY KK 3 w44 ([.cells [p0.sizes.inn,p0.sizes.outt,p0.sizes.rail,p0.flash,p0.input],.front 0 0,qL 2 (aa5 w40)]:kO) (.ptr 0 0) (.slice (Rw pF.cells p1) .no) w41 (.slice (Rw AR.cells w40) (.own 2)) (.slice (Rw AR.cells []) (.own 1)))=tm (β:=R) (NG w44 p0 w40 p1 w41) fun r=>(.normal,[(.slice (Rw pF.cells p1) .no),(.ptr 0 0),(.slice (Rw AR.cells []) (.own 1)),(.slice (Rw AR.cells r) (.own 2)),w41],([.cells [p0.sizes.inn,p0.sizes.outt,p0.sizes.rail,p0.flash,p0.input],.front 0 0,qL 2 (aa5 r)]:kO)):=by
 cases w44 <;> simp +contextual -implicitDefEqProofs [-rZ,-oZ,-oJ,-p5,-pV,-qX,-qY,QY,NG,Ph,ahT,U8,ahU]
def Me (K:kT) (m:Nat) (s:List kN×kO):Option R :=
 (fun aA aC aD aE aB aK=>ln aA fun t33=>bo .lss aB t33 fun aM=>kV aM (ix 4 aA aB fun t35=>fa 0 t35 fun aN=>ld false 1 aK aN fun t38=>bo .eql t38 zO fun aO=>(QY K (aa5 aK) aO aK aC aA aB aE aD).bind fun U9=>(fun aF aG aH aI aJ aL=>Ex.pR U9.1 (bo .add aJ (1:Int) fun t92=>kZ m .normal [aF,aG,aH,aI,t92] aL)) (gd U9.2.1 0) (gd U9.2.1 1) (gd U9.2.1 2) (gd U9.2.1 3) (gd U9.2.1 4) U9.2.2) (kZ m (.exit 0) [aA,aC,aD,aE,aB] aK)) (gd s.1 0) (gd s.1 1) (gd s.1 2) (gd s.1 3) (gd s.1 4) s.2
def CR (p1:(List pF)) (p0:tX) (aA:(List AR)×Int):Option (Ey×(List AR)×Int) :=
 tc (decide (aA.2<((aa5 p1:Nat):Int))) (tb ((sF p1 aA.2)) fun aB=>tb (NG (decide (aB.kind=0)) p0 aA.1 p1 aA.2) fun U9=>some (.n,(U9,(IntKind.wrap .i64 (aA.2+1))))) (some ((.x 0),(aA.1,aA.2)))
theorem ag6 (p1:(List pF)) (p0:tX) (s26:(List AR)×Int):Me KK 3 ([(.slice (Rw pF.cells p1) .no),(.ptr 0 0),(.slice (Rw AR.cells []) (.own 1)),(.slice (Rw AR.cells s26.1) (.own 2)),s26.2],([.cells [p0.sizes.inn,p0.sizes.outt,p0.sizes.rail,p0.flash,p0.input],.front 0 0,qL 2 (aa5 s26.1)]:kO))=tm (β:=R) (CR p1 p0 s26) fun r=>(r.1.ex,[(.slice (Rw pF.cells p1) .no),(.ptr 0 0),(.slice (Rw AR.cells []) (.own 1)),(.slice (Rw AR.cells r.2.1) (.own 2)),r.2.2],([.cells [p0.sizes.inn,p0.sizes.outt,p0.sizes.rail,p0.flash,p0.input],.front 0 0,qL 2 (aa5 r.2.1)]:kO)):=by
 simp +contextual -implicitDefEqProofs [-rZ,-oZ,-oJ,-p5,-pV,-qX,-qY,Me,CR,amZ]
theorem am0 (p1:(List pF)) (p0:tX) (i3:Int):nP (Me KK 3) ([(.slice (Rw pF.cells p1) .no),(.ptr 0 0),(.slice (Rw AR.cells []) (.own 1)),(.slice (Rw AR.cells []) (.own 2)),i3],([.cells [p0.sizes.inn,p0.sizes.outt,p0.sizes.rail,p0.flash,p0.input],.front 0 0,.front 0 0]:kO))=tm (β:=R) (rX (CR p1 p0) ([],i3)) fun r=>(r.1.ex,[(.slice (Rw pF.cells p1) .no),(.ptr 0 0),(.slice (Rw AR.cells []) (.own 1)),(.slice (Rw AR.cells r.2.1) (.own 2)),r.2.2],([.cells [p0.sizes.inn,p0.sizes.outt,p0.sizes.rail,p0.flash,p0.input],.front 0 0,qL 2 (aa5 r.2.1)]:kO)):=by
 exact uE (enc:=fun s26=>([(.slice (Rw pF.cells p1) .no),(.ptr 0 0),(.slice (Rw AR.cells []) (.own 1)),(.slice (Rw AR.cells s26.1) (.own 2)),(.int .i64 s26.2)],([.cells [(.int .i64 p0.sizes.inn),(.int .i64 p0.sizes.outt),(.int .i64 p0.sizes.rail),(.str p0.flash),(.str p0.input)],.front 0 0,qL 2 (aa5 s26.1)]:kO))) (fun s26=>ag6 p1 p0 s26) ([],i3)
def m48 (K:kT) (a0 a1:kN) (h0:kO):Option (mR×kO) :=
 (kW (lR 5 h0 a0) fun aL aE=>(fun(aM:kN) (aF:kO)=>(fun(aN:kN) (aG:kO)=>(nP (Me K (aa5 aG)) ([a1,aL,aM,aN,zO],aG)).bind fun wV=>(fun aH aI aB aC aJ aA=>Ex.l_ wV.1 none (fun aK=>Ex.inBlock 0 aK (some (.ret,[aC],aA)) (fun aD=>some (aD,[aB],aA)))) (gd wV.2.1 0) (gd wV.2.1 1) (gd wV.2.1 2) (gd wV.2.1 3) (gd wV.2.1 4) wV.2.2) (.slice (Rw AR.cells []) (.own (aa5 aF))) (aF++[.front 0 0])) (.slice (Rw AR.cells []) (.own (aa5 aE))) (aE++[.front 0 0])).bind (mA (aa5 h0))
theorem akB K a0 a1 h0:nN K 48 [a0,a1] h0=m48 (lG mJ K) a0 a1 h0:=by kernel_rfl
def t48 (p0:tX) (p1:(List pF)):Option ((List AR)) :=
 tb (rX (CR p1 p0) ([],0)) fun wV=>uL wV.1 none fun aB=>vO 0 aB (some wV.2.1) fun aA=>Ao aA (some [])
theorem Pg (p0:tX) (p1:(List pF)) (h:kO):KK 48 [(.agg [p0.sizes.inn,p0.sizes.outt,p0.sizes.rail,p0.flash,p0.input]),(.slice (Rw pF.cells p1) .no)] h=tm (t48 p0 p1) fun r=>(.ret (.slice (Rw AR.cells r) .no),h):=lJ rfl rfl (akB ..) (by
 simp +contextual -implicitDefEqProofs [-rZ,-oZ,-oJ,-p5,-pV,-qX,-qY,m48,t48,am0,mA])
def QB (K:kT) (t52:kN) (aA:kO) (t27:kN):Option R :=
 kV t52 (some (.ret,[(2:Int)],aA)) (some (.ret,[t27],aA))
def Fo (aA:Bool) (uZ:Int):Option (Int) :=
 tc aA (some 2) (some uZ)
theorem amQ (w55:Bool) (p0:tX) (uZ:Int):((QB KK w55 ([.cells [p0.sizes.inn,p0.sizes.outt,p0.sizes.rail,p0.flash,p0.input]]:kO) uZ)).bind (mA 0)=tm (Fo w55 uZ) fun r=>(.ret r,[]):=by
 cases w55 <;> simp +contextual -implicitDefEqProofs [-rZ,-oZ,-oJ,-p5,-pV,-qX,-qY,QB,Fo,r15,mA]
def m29 (K:kT) (a0:kN) (h0:kO):Option (mR×kO) :=
 (kW (lR 5 h0 a0) fun aB aC=>fa 0 aB fun aL=>ld true 3 aC aL fun aM=>fa 3 aB fun t24=>ld false 1 aC t24 fun aN=>(nG aN).bind fun aO=>ca (K 15 [(kN.kP aM),(kN.kP aO)] aC) fun t27 aF=>bo .eql t27 zO fun aA=>gS true aA (fa 4 aB fun t31=>lI t31 aF) aF fun t32 aD=>gS true aA (ld false 1 aD t32 fun aP=>lI aP aD) aD fun t35 aG=>gS true aA ((nG t35).bind fun aQ=>lI aQ aG) aG fun t38 aH=>gS true aA (fa 0 aB fun aR=>lI aR aH) aH fun aS aI=>gS true aA (fa 0 aS fun aT=>lI aT aI) aI fun aU aE=>gS true aA (ld false 1 aE aU fun t46=>lI t46 aE) aE fun aV aJ=>gS true aA (bo .neq t38 aV fun t49=>lI t49 aJ) aJ fun aW aK=>(lH aA aW false).bind fun t52=>QB K t52 aK t27).bind (mA (aa5 h0))
theorem ajV K a0 h0:nN K 29 [a0] h0=m29 (lG mJ K) a0 h0:=by kernel_rfl
def t29 (p0:tX):Option (Int) :=
 tb ((t15 p0.sizes ((p0.flash.length:Nat):Int))) fun uZ=>tc (decide (uZ=0)) (Fo (!decide (((p0.input.length:Nat):Int)=p0.sizes.inn)) uZ) (Fo false uZ)
theorem uZ (p0:tX) (h:kO):KK 29 [(.agg [p0.sizes.inn,p0.sizes.outt,p0.sizes.rail,p0.flash,p0.input])] h=tm (t29 p0) fun r=>(.ret r,h):=lJ rfl rfl (ajV ..) (by
 simp +contextual -implicitDefEqProofs [-rZ,-oZ,-oJ,-p5,-pV,-qX,-qY,m29,t29,r15,mA,amQ])
theorem axF (x0_0:Int) (x0_1:Int) (x0_2:Int) (x0_3:List UInt8) (x0_4:List UInt8) (h:kO):KK 29 [(.agg [x0_0,x0_1,x0_2,x0_3,x0_4])] h=tm (t29 (⟨(⟨x0_0,x0_1,x0_2⟩:Sz),x0_3,x0_4⟩:tX)) fun r=>(.ret r,h):=uZ (⟨(⟨x0_0,x0_1,x0_2⟩:Sz),x0_3,x0_4⟩:tX) h
def Mb (K:kT) (m:Nat) (s:List kN×kO):Option R :=
 (fun aC aD aE aB aA aF=>bo .lss aA aB fun t33=>kV t33 (ix 4 aC aA fun aG=>ld true 4 aF aG fun t36=>ix 4 aD aA fun aH=>ld true 4 aF aH fun aI=>(Cv [.i,.i,.i,.i] t36 aI).bind fun aJ=>kV (!aJ) (kZ m .ret [aC,aD,aA,aB,aA] aF) (bo .add aA (1:Int) fun aK=>kZ m .normal [aC,aD,aE,aB,aK] aF)) (kZ m (.exit 0) [aC,aD,aE,aB,aA] aF)) (gd s.1 0) (gd s.1 1) (gd s.1 2) (gd s.1 3) (gd s.1 4) s.2
def AH (p0:(List Ev)) (p1:(List Ev)) (aD:Int) (aA:Int×Int):Option (Ey×Int×Int) :=
 tc (decide (aA.2<aD)) (tb ((sF p0 aA.2)) fun aB=>tb ((sF p1 aA.2)) fun aC=>tc (!((aB.kind == aC.kind)&&((aB.pc == aC.pc)&&((aB.addr == aC.addr)&&((aB.cycles == aC.cycles)&&true))))) (some (.r,(aA.2,aA.2))) (some (.n,(aA.1,(IntKind.wrap .i64 (aA.2+1)))))) (some ((.x 0),(aA.1,aA.2)))
theorem ag2 (p0:(List Ev)) (p1:(List Ev)) (w25:Int) (s26:Int×Int):Mb KK 0 ([(.slice (Rw Ev.cells p0) .no),(.slice (Rw Ev.cells p1) .no),s26.1,w25,s26.2],([]:kO))=tm (β:=R) (AH p0 p1 w25 s26) fun r=>(r.1.ex,[(.slice (Rw Ev.cells p0) .no),(.slice (Rw Ev.cells p1) .no),r.2.1,w25,r.2.2],([]:kO)):=by
 simp +contextual -implicitDefEqProofs [-rZ,-oZ,-oJ,-p5,-pV,-qX,-qY,Mb,AH]
theorem amP (p0:(List Ev)) (p1:(List Ev)) (w25:Int) (i2:Int) (i4:Int):nP (Mb KK 0) ([(.slice (Rw Ev.cells p0) .no),(.slice (Rw Ev.cells p1) .no),i2,w25,i4],([]:kO))=tm (β:=R) (rX (AH p0 p1 w25) (i2,i4)) fun r=>(r.1.ex,[(.slice (Rw Ev.cells p0) .no),(.slice (Rw Ev.cells p1) .no),r.2.1,w25,r.2.2],([]:kO)):=by
 exact uE (enc:=fun s26=>([(.slice (Rw Ev.cells p0) .no),(.slice (Rw Ev.cells p1) .no),(.int .i64 s26.1),(.int .i64 w25),(.int .i64 s26.2)],([]:kO))) (fun s26=>ag2 p0 p1 w25 s26) (i2,i4)
def m18 (K:kT) (a0 a1:kN) (h0:kO):Option (mR×kO) :=
 (ln a0 fun aI=>ln a1 fun aJ=>(Ck aI aJ).bind fun aK=>(nP (Mb K (aa5 h0)) ([a0,a1,zO,aK,zO],h0)).bind fun Da=>(fun aA aB aC aE aF aD=>Ex.l_ Da.1 none (fun aG=>Ex.inBlock 0 aG (ln aA fun aL=>ln aB fun t52=>bo .neq aL t52 fun t53=>kV t53 (ln aA fun t54=>ln aB fun t55=>(Ck t54 t55).bind fun aM=>some (.ret,[aM],aD)) (some (.ret,[(-1:Int)],aD))) (fun aH=>some (aH,[aC],aD)))) (gd Da.2.1 0) (gd Da.2.1 1) (gd Da.2.1 2) (gd Da.2.1 3) (gd Da.2.1 4) Da.2.2).bind (mA (aa5 h0))
theorem ajM K a0 a1 h0:nN K 18 [a0,a1] h0=m18 (lG mJ K) a0 a1 h0:=by kernel_rfl
def t18 (p0:(List Ev)) (p1:(List Ev)):Option (Int) :=
 tb (rX (AH p0 p1 (min ((aa5 p0:Nat):Int) ((aa5 p1:Nat):Int))) (0,0)) fun Da=>uL Da.1 none fun aA=>vO 0 aA (tc (!decide (((aa5 p0:Nat):Int)=((aa5 p1:Nat):Int))) (some (min ((aa5 p0:Nat):Int) ((aa5 p1:Nat):Int))) (some (-1))) fun aB=>Ao aB (some Da.2.1)
theorem r18 (p0:(List Ev)) (p1:(List Ev)) (h:kO):KK 18 [(.slice (Rw Ev.cells p0) .no),(.slice (Rw Ev.cells p1) .no)] h=tm (t18 p0 p1) fun r=>(.ret r,h):=lJ rfl rfl (ajM ..) (by
 simp +contextual -implicitDefEqProofs [-rZ,-oZ,-oJ,-p5,-pV,-qX,-qY,m18,t18,amP,mA])
def m10 (K:kT) (a0 a1:kN) (h0:kO):Option (mR×kO) :=
 (ca (K 18 [(kN.kP a0),(kN.kP a1)] h0) fun aB aA=>some (.ret,[aB],aA)).bind (mA (aa5 h0))
theorem ajD K a0 a1 h0:nN K 10 [a0,a1] h0=m10 (lG mJ K) a0 a1 h0:=by kernel_rfl
def t10 (p0:(List Ev)) (p1:(List Ev)):Option (Int) :=
 tb ((t18 p0 p1)) fun aA=>some aA
theorem r10 (p0:(List Ev)) (p1:(List Ev)) (h:kO):KK 10 [(.slice (Rw Ev.cells p0) .no),(.slice (Rw Ev.cells p1) .no)] h=tm (t10 p0 p1) fun r=>(.ret r,h):=lJ rfl rfl (ajD ..) (by
 simp +contextual -implicitDefEqProofs [-rZ,-oZ,-oJ,-p5,-pV,-qX,-qY,m10,t10,r18,mA])
def Qm (K:kT) (m:Nat) (t87:kN) (aB:kN) (aC:kN) (aA:kN) (aE:kO) (aD:kN):Option R :=
 kV t87 (kZ m .ret [aB,aC,aA,aA] aE) (bo .add aA (1:Int) fun t91=>kZ m .normal [aB,aC,aD,t91] aE)
def CO (aC:Bool) (aA:Int) (aB:Int):Option (Ey×Int×Int) :=
 tc aC (some (.r,(aA,aA))) (some (.n,(aB,(IntKind.wrap .i64 (aA+1)))))
theorem SD (w90:Bool) (p0:(List Ev)) (p1:(List Ev)) (w43:Int) (w42:Int):(Qm KK 0 w90 (.slice (Rw Ev.cells p0) .no) (.slice (Rw Ev.cells p1) .no) w43 ([]:kO) w42)=tm (β:=R) (CO w90 w43 w42) fun r=>(r.1.ex,[(.slice (Rw Ev.cells p0) .no),(.slice (Rw Ev.cells p1) .no),r.2.1,r.2.2],([]:kO)):=by
 cases w90 <;> simp +contextual -implicitDefEqProofs [-rZ,-oZ,-oJ,-p5,-pV,-qX,-qY,Qm,CO]
def Ql (K:kT) (m:Nat) (t57:kN) (aB:kN) (aG:kO) (aA:kN) (aC:kN) (aD:kN):Option R :=
 gS false t57 (lI aB aG) aG fun t62 aH=>gS false t57 (lI aA aH) aH fun t64 aI=>gS false t57 (ix 4 t62 t64 fun t66=>lI t66 aI) aI fun t68 aE=>gS false t57 (ld true 4 aE t68 fun aO=>lI aO aE) aE fun t71 aJ=>gS false t57 (lI aC aJ) aJ fun t73 aK=>gS false t57 (lI aA aK) aK fun t75 aL=>gS false t57 (ix 4 t73 t75 fun t77=>lI t77 aL) aL fun aP aF=>gS false t57 (ld true 4 aF aP fun aQ=>lI aQ aF) aF fun aR aM=>gS false t57 ((Cv [.i,.i,.i,.i] t71 aR).bind fun aS=>lI (!aS) aM) aM fun t85 aN=>(lH t57 true t85).bind fun t87=>Qm K m t87 aB aC aA aN aD
def CN (aE:Bool) (p0:(List Ev)) (aC:Int) (p1:(List Ev)) (aD:Int):Option (Ey×Int×Int) :=
 tc aE (CO true aC aD) (tb ((sF p0 aC)) fun aA=>tb ((sF p1 aC)) fun aB=>CO (!((aA.kind == aB.kind)&&((aA.pc == aB.pc)&&((aA.addr == aB.addr)&&((aA.cycles == aB.cycles)&&true))))) aC aD)
theorem WS (w60:Bool) (p0:(List Ev)) (w43:Int) (p1:(List Ev)) (w42:Int):(Ql KK 0 w60 (.slice (Rw Ev.cells p0) .no) ([]:kO) w43 (.slice (Rw Ev.cells p1) .no) w42)=tm (β:=R) (CN w60 p0 w43 p1 w42) fun r=>(r.1.ex,[(.slice (Rw Ev.cells p0) .no),(.slice (Rw Ev.cells p1) .no),r.2.1,r.2.2],([]:kO)):=by
 cases w60 <;> simp +contextual -implicitDefEqProofs [-rZ,-oZ,-oJ,-p5,-pV,-qX,-qY,Ql,CN,SD]
def Qk (K:kT) (m:Nat) (t38:kN) (aB:kN) (aA:kN) (aE:kO) (aC:kN) (aD:kN):Option R :=
 kV t38 (ln aB fun t45=>bo .geq aA t45 fun t46=>gS false t46 (lI aA aE) aE fun aJ aF=>gS false t46 (lI aC aF) aF fun t49 aG=>gS false t46 (ln t49 fun aK=>lI aK aG) aG fun t52 aH=>gS false t46 (bo .geq aJ t52 fun t54=>lI t54 aH) aH fun t55 aI=>(lH t46 true t55).bind fun t57=>Ql K m t57 aB aI aA aC aD) (kZ m (.exit 0) [aB,aC,aD,aA] aE)
def BD (aC:Bool) (p0:(List Ev)) (aA:Int) (p1:(List Ev)) (aB:Int):Option (Ey×Int×Int) :=
 tc aC (tc (decide (((aa5 p0:Nat):Int)≤aA)) (CN true p0 aA p1 aB) (CN (decide (((aa5 p1:Nat):Int)≤aA)) p0 aA p1 aB)) (some ((.x 0),(aB,aA)))
theorem amB (w41:Bool) (p0:(List Ev)) (w43:Int) (p1:(List Ev)) (w42:Int):(Qk KK 0 w41 (.slice (Rw Ev.cells p0) .no) w43 ([]:kO) (.slice (Rw Ev.cells p1) .no) w42)=tm (β:=R) (BD w41 p0 w43 p1 w42) fun r=>(r.1.ex,[(.slice (Rw Ev.cells p0) .no),(.slice (Rw Ev.cells p1) .no),r.2.1,r.2.2],([]:kO)):=by
 cases w41 <;> simp +contextual -implicitDefEqProofs [-rZ,-oZ,-oJ,-p5,-pV,-qX,-qY,Qk,BD,SD,WS]
def L8 (K:kT) (m:Nat) (s:List kN×kO):Option R :=
 (fun aB aC aD aA aE=>ln aB fun aJ=>bo .lss aA aJ fun t27=>gS false t27 (lI aA aE) aE fun aK aF=>gS false t27 (lI aC aF) aF fun aL aG=>gS false t27 (ln aL fun t32=>lI t32 aG) aG fun t33 aH=>gS false t27 (bo .lss aK t33 fun t35=>lI t35 aH) aH fun t36 aI=>(lH t27 true t36).bind fun t38=>Qk K m t38 aB aA aI aC aD) (gd s.1 0) (gd s.1 1) (gd s.1 2) (gd s.1 3) s.2
def yB (p0:(List Ev)) (p1:(List Ev)) (oA:Int×Int):Option (Ey×Int×Int) :=
 tc (decide (oA.2<((aa5 p0:Nat):Int))) (BD true p0 oA.2 p1 oA.1) (BD (decide (oA.2<((aa5 p1:Nat):Int))) p0 oA.2 p1 oA.1)
theorem ag0 (p0:(List Ev)) (p1:(List Ev)) (oA:Int×Int):L8 KK 0 ([(.slice (Rw Ev.cells p0) .no),(.slice (Rw Ev.cells p1) .no),oA.1,oA.2],([]:kO))=tm (β:=R) (yB p0 p1 oA) fun r=>(r.1.ex,[(.slice (Rw Ev.cells p0) .no),(.slice (Rw Ev.cells p1) .no),r.2.1,r.2.2],([]:kO)):=by
 simp +contextual -implicitDefEqProofs [-rZ,-oZ,-oJ,-p5,-pV,-qX,-qY,L8,yB,SD,WS,amB]
theorem amA (p0:(List Ev)) (p1:(List Ev)) (i2:Int) (i3:Int):nP (L8 KK 0) ([(.slice (Rw Ev.cells p0) .no),(.slice (Rw Ev.cells p1) .no),i2,i3],([]:kO))=tm (β:=R) (rX (yB p0 p1) (i2,i3)) fun r=>(r.1.ex,[(.slice (Rw Ev.cells p0) .no),(.slice (Rw Ev.cells p1) .no),r.2.1,r.2.2],([]:kO)):=by
 exact uE (enc:=fun oA=>([(.slice (Rw Ev.cells p0) .no),(.slice (Rw Ev.cells p1) .no),(.int .i64 oA.1),(.int .i64 oA.2)],([]:kO))) (fun oA=>ag0 p0 p1 oA) (i2,i3)
def m13 (K:kT) (a0 a1:kN) (h0:kO):Option (mR×kO) :=
 ((nP (L8 K (aa5 h0)) ([a0,a1,zO,zO],h0)).bind fun Nd=>(fun aC aD aA aE aB=>Ex.l_ Nd.1 none (fun aF=>Ex.inBlock 0 aF (some (.ret,[(-1:Int)],aB)) (fun aG=>some (aG,[aA],aB)))) (gd Nd.2.1 0) (gd Nd.2.1 1) (gd Nd.2.1 2) (gd Nd.2.1 3) Nd.2.2).bind (mA (aa5 h0))
theorem ajH K a0 a1 h0:nN K 13 [a0,a1] h0=m13 (lG mJ K) a0 a1 h0:=by kernel_rfl
def t13 (p0:(List Ev)) (p1:(List Ev)):Option (Int) :=
 tb (rX (yB p0 p1) (0,0)) fun Nd=>uL Nd.1 none fun aA=>vO 0 aA (some (-1)) fun aB=>Ao aB (some Nd.2.1)
theorem r13 (p0:(List Ev)) (p1:(List Ev)) (h:kO):KK 13 [(.slice (Rw Ev.cells p0) .no),(.slice (Rw Ev.cells p1) .no)] h=tm (t13 p0 p1) fun r=>(.ret r,h):=lJ rfl rfl (ajH ..) (by
 simp +contextual -implicitDefEqProofs [-rZ,-oZ,-oJ,-p5,-pV,-qX,-qY,m13,t13,amA,mA])
def QF (K:kT) (m:Nat) (t27:kN) (aC:kN) (t24:kN) (aA:kN) (aB:kO):Option R :=
 kV t27 (kZ m .normal [aC,zO,t24,aA,t27] aB) (bo .eql aA (1:Int) fun aD=>kZ m .normal [aC,zO,t24,aA,aD] aB)
def S_ (aA:Bool) (p0:y_):Option (Bool) :=
 tc aA (some aA) (some (decide (p0.kind=1)))
theorem amS (w29:Bool) (w28:Bool) (p0:y_):(QF KK 1 w29 (.ptr 0 0) w28 p0.kind ([.cells [p0.kind,p0.step,p0.reg,p0.bit]]:kO))=tm (β:=R) (S_ w29 p0) fun r=>(.normal,[(.ptr 0 0),zO,w28,p0.kind,r],([.cells [p0.kind,p0.step,p0.reg,p0.bit]]:kO)):=by
 cases w29 <;> simp +contextual -implicitDefEqProofs [-rZ,-oZ,-oJ,-p5,-pV,-qX,-qY,QF,S_]
def QO (K:kT) (m:Nat) (aA:kN) (aC:kN) (aB:kO):Option R :=
 kZ m .normal [aA,aC] aB
def Ny (aA:Bool):Option (Bool) :=
 some aA
theorem WY (w122:Bool) (p0:y_):(QO KK 1 zO w122 ([.cells [p0.kind,p0.step,p0.reg,p0.bit]]:kO))=tm (β:=R) (Ny w122) fun r=>(.normal,[zO,r],([.cells [p0.kind,p0.step,p0.reg,p0.bit]]:kO)):=by
 cases w122 <;> simp +contextual -implicitDefEqProofs [-rZ,-oZ,-oJ,-p5,-pV,-qX,-qY,QO,Ny]
def QN (K:kT) (m:Nat) (t105:kN) (aD:kN) (aB:kO) (aE:kN):Option R :=
 gS true t105 (fa 3 aD fun t110=>lI t110 aB) aB fun aG aA=>gS true t105 (ld false 1 aA aG fun aH=>lI aH aA) aA fun t114 aC=>gS true t105 (bo .lss t114 (4:Int) fun t116=>lI t116 aC) aC fun t117 aF=>(lH t105 t117 false).bind fun aI=>QO K m aE aI aF
def Nx (aA:Bool) (p0:y_):Option (Bool) :=
 tc aA (Ny (decide (p0.bit<4))) (Ny false)
theorem amW (w109:Bool) (p0:y_):(QN KK 1 w109 (.ptr 0 0) ([.cells [p0.kind,p0.step,p0.reg,p0.bit]]:kO) zO)=tm (β:=R) (Nx w109 p0) fun r=>(.normal,[zO,r],([.cells [p0.kind,p0.step,p0.reg,p0.bit]]:kO)):=by
 cases w109 <;> simp +contextual -implicitDefEqProofs [-rZ,-oZ,-oJ,-p5,-pV,-qX,-qY,QN,Nx,WY]
def QI (K:kT) (m:Nat) (t94:kN) (aA:kN) (aB:kN) (aF:kO) (aC:kN):Option R :=
 kV t94 (gS true aA (fa 3 aB fun t96=>lI t96 aF) aF fun t97 aG=>gS true aA (ld false 1 aG t97 fun aH=>lI aH aG) aG fun t100 aD=>gS true aA (bo .geq t100 zO fun t102=>lI t102 aD) aD fun t103 aE=>(lH aA t103 false).bind fun t105=>QN K m t105 aB aE aC) (kZ m .normal [aC,false] aF)
def Tc (aB:Bool) (aA:Bool) (p0:y_):Option (Bool) :=
 tc aB (tc aA (Nx (decide (0≤p0.bit)) p0) (Nx false p0)) (some false)
theorem Ie (w95:Bool) (w38:Bool) (p0:y_):(QI KK 1 w95 w38 (.ptr 0 0) ([.cells [p0.kind,p0.step,p0.reg,p0.bit]]:kO) zO)=tm (β:=R) (Tc w95 w38 p0) fun r=>(.normal,[zO,r],([.cells [p0.kind,p0.step,p0.reg,p0.bit]]:kO)):=by
 cases w95 <;> simp +contextual -implicitDefEqProofs [-rZ,-oZ,-oJ,-p5,-pV,-qX,-qY,QI,Tc,WY,amW]
def QM (K:kT) (m:Nat) (aA:kN) (t90:kN) (aB:kO):Option R :=
 kZ m .normal [aA,t90] aB
def Nw (aA:Bool):Option (Bool) :=
 some aA
theorem M9 (w93:Bool) (p0:y_):(QM KK 1 zO w93 ([.cells [p0.kind,p0.step,p0.reg,p0.bit]]:kO))=tm (β:=R) (Nw w93) fun r=>(.normal,[zO,r],([.cells [p0.kind,p0.step,p0.reg,p0.bit]]:kO)):=by
 cases w93 <;> simp +contextual -implicitDefEqProofs [-rZ,-oZ,-oJ,-p5,-pV,-qX,-qY,QM,Nw,Ie]
def QL (K:kT) (m:Nat) (t77:kN) (aA:kN) (aD:kO) (aB:kN):Option R :=
 gS true t77 (fa 3 aA fun aG=>lI aG aD) aD fun aH aC=>gS true t77 (ld false 1 aC aH fun aI=>lI aI aC) aC fun t85 aE=>gS true t77 (bo .lss t85 (32:Int) fun t87=>lI t87 aE) aE fun t88 aF=>(lH t77 t88 false).bind fun t90=>QM K m aB t90 aF
def Nv (aA:Bool) (p0:y_):Option (Bool) :=
 tc aA (Nw (decide (p0.bit<32))) (Nw false)
theorem SG (w80:Bool) (p0:y_):(QL KK 1 w80 (.ptr 0 0) ([.cells [p0.kind,p0.step,p0.reg,p0.bit]]:kO) zO)=tm (β:=R) (Nv w80 p0) fun r=>(.normal,[zO,r],([.cells [p0.kind,p0.step,p0.reg,p0.bit]]:kO)):=by
 cases w80 <;> simp +contextual -implicitDefEqProofs [-rZ,-oZ,-oJ,-p5,-pV,-qX,-qY,QL,Nv,Ie,M9]
def QK (K:kT) (m:Nat) (t64:kN) (aA:kN) (aD:kO) (aB:kN):Option R :=
 gS true t64 (fa 3 aA fun t68=>lI t68 aD) aD fun aG aC=>gS true t64 (ld false 1 aC aG fun t71=>lI t71 aC) aC fun t72 aE=>gS true t64 (bo .geq t72 zO fun t74=>lI t74 aE) aE fun t75 aF=>(lH t64 t75 false).bind fun t77=>QL K m t77 aA aF aB
def Nu (aA:Bool) (p0:y_):Option (Bool) :=
 tc aA (Nv (decide (0≤p0.bit)) p0) (Nv false p0)
theorem WX (w67:Bool) (p0:y_):(QK KK 1 w67 (.ptr 0 0) ([.cells [p0.kind,p0.step,p0.reg,p0.bit]]:kO) zO)=tm (β:=R) (Nu w67 p0) fun r=>(.normal,[zO,r],([.cells [p0.kind,p0.step,p0.reg,p0.bit]]:kO)):=by
 cases w67 <;> simp +contextual -implicitDefEqProofs [-rZ,-oZ,-oJ,-p5,-pV,-qX,-qY,QK,Nu,Ie,M9,SG]
def QJ (K:kT) (m:Nat) (aC:kN) (aA:kN) (aE:kO) (aB:kN):Option R :=
 gS true aC (fa 2 aA fun t55=>lI t55 aE) aE fun aH aD=>gS true aC (ld false 1 aD aH fun aI=>lI aI aD) aD fun aJ aF=>gS true aC (bo .leq aJ (14:Int) fun aK=>lI aK aF) aF fun t62 aG=>(lH aC t62 false).bind fun t64=>QK K m t64 aA aG aB
def Nt (aA:Bool) (p0:y_):Option (Bool) :=
 tc aA (Nu (decide (p0.reg≤14)) p0) (Nu false p0)
theorem amV (w54:Bool) (p0:y_):(QJ KK 1 w54 (.ptr 0 0) ([.cells [p0.kind,p0.step,p0.reg,p0.bit]]:kO) zO)=tm (β:=R) (Nt w54 p0) fun r=>(.normal,[zO,r],([.cells [p0.kind,p0.step,p0.reg,p0.bit]]:kO)):=by
 cases w54 <;> simp +contextual -implicitDefEqProofs [-rZ,-oZ,-oJ,-p5,-pV,-qX,-qY,QJ,Nt,Ie,M9,SG,WX]
def QH (K:kT) (m:Nat) (aL:kN) (aA:kN) (aB:kN) (aG:kO) (aC:kN) (aF:kN):Option R :=
 kV aL (gS true aA (fa 2 aB fun aM=>lI aM aG) aG fun t42 aI=>gS true aA (ld false 1 aI t42 fun aN=>lI aN aI) aI fun t45 aJ=>gS true aA (bo .geq t45 zO fun aO=>lI aO aJ) aJ fun t48 aK=>(lH aA t48 false).bind fun aP=>QJ K m aP aB aK aC) (bo .eql aF (3:Int) fun t94=>(QI K (aa5 aG) t94 aA aB aG aC).bind fun zI=>(fun aD aE aH=>Ex.pR zI.1 (kZ m .normal [aD,aE] aH)) (gd zI.2.1 0) (gd zI.2.1 1) zI.2.2)
def Tb (aB:Bool) (aA:Bool) (p0:y_):Option (Bool) :=
 tc aB (tc aA (Nt (decide (0≤p0.reg)) p0) (Nt false p0)) (tb (Tc (decide (p0.kind=3)) aA p0) fun zI=>some zI)
theorem amU (w40:Bool) (w38:Bool) (p0:y_):(QH KK 1 w40 w38 (.ptr 0 0) ([.cells [p0.kind,p0.step,p0.reg,p0.bit]]:kO) zO p0.kind)=tm (β:=R) (Tb w40 w38 p0) fun r=>(.normal,[zO,r],([.cells [p0.kind,p0.step,p0.reg,p0.bit]]:kO)):=by
 cases w40 <;> simp +contextual -implicitDefEqProofs [-rZ,-oZ,-oJ,-p5,-pV,-qX,-qY,QH,Tb,Ie,M9,SG,WX,amV]
def QG (K:kT) (m:Nat) (aH:kN) (aB:kN) (aC:kN) (aJ:kO) (aD:kN) (aG:kN):Option R :=
 kV aH (kZ m .normal [aB,aC] aJ) (bo .eql aD (2:Int) fun aK=>(QH K (aa5 aJ) aK aC aG aJ aB aD).bind fun aA=>(fun aE aF aI=>Ex.pR aA.1 (kZ m .normal [aE,aF] aI)) (gd aA.2.1 0) (gd aA.2.1 1) aA.2.2)
def Ta (yP:Bool) (aB:Bool) (p0:y_):Option (Bool) :=
 tc yP (some aB) (tb (Tb (decide (p0.kind=2)) aB p0) fun aA=>some aA)
theorem amT (yP:Bool) (w38:Bool) (p0:y_):(QG KK 1 yP zO w38 ([.cells [p0.kind,p0.step,p0.reg,p0.bit]]:kO) p0.kind (.ptr 0 0))=tm (β:=R) (Ta yP w38 p0) fun r=>(.normal,[zO,r],([.cells [p0.kind,p0.step,p0.reg,p0.bit]]:kO)):=by
 cases yP <;> simp +contextual -implicitDefEqProofs [-rZ,-oZ,-oJ,-p5,-pV,-qX,-qY,QG,Ta,amU]
def m38 (K:kT) (a0:kN) (h0:kO):Option (mR×kO) :=
 (kW (lR 4 h0 a0) fun aJ aH=>fa 1 aJ fun aN=>ld false 1 aH aN fun aO=>bo .geq aO zO fun t24=>fa 0 aJ fun aP=>ld false 1 aH aP fun aM=>bo .eql aM zO fun t27=>(QF K (aa5 aH) t27 aJ t24 aM aH).bind fun yP=>(fun aC aD aE aF aG aL=>Ex.pR yP.1 ((QG K (aa5 aL) aG aD aE aL aF aC).bind fun xA=>(fun aK aA aB=>Ex.pR xA.1 ((vN .not aA).bind fun aI=>kV aI (some (.ret,[(2:Int)],aB)) (some (.ret,[zO],aB)))) (gd xA.2.1 0) (gd xA.2.1 1) xA.2.2)) (gd yP.2.1 0) (gd yP.2.1 1) (gd yP.2.1 2) (gd yP.2.1 3) (gd yP.2.1 4) yP.2.2).bind (mA (aa5 h0))
theorem aj3 K a0 h0:nN K 38 [a0] h0=m38 (lG mJ K) a0 h0:=by kernel_rfl
def t38 (p0:y_):Option (Int) :=
 tb (S_ (decide (p0.kind=0)) p0) fun yP=>tb (Ta yP (decide (0≤p0.step)) p0) fun xA=>tc (!xA) (some 2) (some 0)
theorem r38 (p0:y_) (h:kO):KK 38 [(.agg [p0.kind,p0.step,p0.reg,p0.bit])] h=tm (t38 p0) fun r=>(.ret r,h):=lJ rfl rfl (aj3 ..) (by
 simp +contextual -implicitDefEqProofs [-rZ,-oZ,-oJ,-p5,-pV,-qX,-qY,m38,t38,amS,amT,mA])
def QV (K:kT) (t146:kN) (aA:kO):Option R :=
 kV t146 (some (.ret,[zO],aA)) (some (.ret,[(2:Int)],aA))
def CQ (aA:Bool):Option (Int) :=
 tc aA (some 0) (some 2)
theorem CG (w151:Bool) (p0:y_):((QV KK w151 ([.cells [p0.kind,p0.step,p0.reg,p0.bit]]:kO))).bind (mA 0)=tm (CQ w151) fun r=>(.ret r,[]):=by
 cases w151 <;> simp +contextual -implicitDefEqProofs [-rZ,-oZ,-oJ,-p5,-pV,-qX,-qY,QV,CQ,mA]
def QU (K:kT) (aU:kN) (aB:kO) (t73:kN) (t102:kN):Option R :=
 fa 1 aU fun t106=>ld false 1 aB t106 fun t107=>bo .geq t107 zO fun t108=>gS true t108 (fa 0 aU fun t109=>lI t109 aB) aB fun t110 aC=>gS true t108 (ld false 1 aC t110 fun t112=>lI t112 aC) aC fun aQ aE=>gS true t108 (bo .eql aQ zO fun t115=>lI t115 aE) aE fun t116 aF=>gS true t108 (lI t116 aF) aF fun aA aG=>gS false aA (fa 0 aU fun aR=>lI aR aG) aG fun t121 aD=>gS false aA (ld false 1 aD t121 fun t123=>lI t123 aD) aD fun t124 aH=>gS false aA (bo .eql t124 (1:Int) fun t126=>lI t126 aH) aH fun aS aI=>gS true t108 ((lH aA true aS).bind fun t129=>lI t129 aI) aI fun t130 aJ=>gS true t108 (lI t130 aJ) aJ fun t132 aK=>gS false t132 (lI t73 aK) aK fun aT aL=>gS true t108 ((lH t132 true aT).bind fun t136=>lI t136 aL) aL fun t137 aM=>gS true t108 (lI t137 aM) aM fun t139 aN=>gS false t139 (lI t102 aN) aN fun t141 aO=>gS true t108 ((lH t139 true t141).bind fun t143=>lI t143 aO) aO fun t144 aP=>(lH t108 t144 false).bind fun t146=>QV K t146 aP
def NF (p0:y_) (aB:Bool) (aA:Bool):Option (Int) :=
 tc (decide (0≤p0.step)) (tc (decide (p0.kind=0)) (CQ true) (tc (decide (p0.kind=1)) (CQ true) (tc aB (CQ true) (CQ aA)))) (CQ false)
theorem Fe (p0:y_) (w76:Bool) (w105:Bool):((QU KK (.ptr 0 0) ([.cells [p0.kind,p0.step,p0.reg,p0.bit]]:kO) w76 w105)).bind (mA 0)=tm (NF p0 w76 w105) fun r=>(.ret r,[]):=by
 cases w76 <;> simp +contextual -implicitDefEqProofs [-rZ,-oZ,-oJ,-p5,-pV,-qX,-qY,QU,NF,mA,CG]
def QT (K:kT) (t89:kN) (aE:kN) (aC:kO) (t73:kN):Option R :=
 gS true t89 (fa 3 aE fun t93=>lI t93 aC) aC fun t94 aB=>gS true t89 (ld false 1 aB t94 fun t96=>lI t96 aB) aB fun t97 aD=>gS true t89 (bo .lss t97 (4:Int) fun aF=>lI aF aD) aD fun t100 aA=>(lH t89 t100 false).bind fun t102=>QU K aE aA t73 t102
def ND (aB:Bool) (p0:y_) (aA:Bool):Option (Int) :=
 tc aB (NF p0 aA (decide (p0.bit<4))) (NF p0 aA false)
theorem Ig (w92:Bool) (p0:y_) (w76:Bool):((QT KK w92 (.ptr 0 0) ([.cells [p0.kind,p0.step,p0.reg,p0.bit]]:kO) w76)).bind (mA 0)=tm (ND w92 p0 w76) fun r=>(.ret r,[]):=by
 cases w92 <;> simp +contextual -implicitDefEqProofs [-rZ,-oZ,-oJ,-p5,-pV,-qX,-qY,QT,ND,mA,CG,Fe]
def QS (K:kT) (aD:kN) (aB:kO) (t73:kN):Option R :=
 fa 0 aD fun t77=>ld false 1 aB t77 fun t78=>bo .eql t78 (3:Int) fun aA=>gS true aA (fa 3 aD fun t80=>lI t80 aB) aB fun aG aC=>gS true aA (ld false 1 aC aG fun aH=>lI aH aC) aC fun aI aE=>gS true aA (bo .geq aI zO fun aJ=>lI aJ aE) aE fun t87 aF=>(lH aA t87 false).bind fun t89=>QT K t89 aD aF t73
def NC (p0:y_) (aA:Bool):Option (Int) :=
 tc (decide (p0.kind=3)) (ND (decide (0≤p0.bit)) p0 aA) (ND false p0 aA)
theorem M_ (p0:y_) (w76:Bool):((QS KK (.ptr 0 0) ([.cells [p0.kind,p0.step,p0.reg,p0.bit]]:kO) w76)).bind (mA 0)=tm (NC p0 w76) fun r=>(.ret r,[]):=by
 cases w76 <;> simp +contextual -implicitDefEqProofs [-rZ,-oZ,-oJ,-p5,-pV,-qX,-qY,QS,NC,mA,CG,Fe,Ig]
def QR (K:kT) (aA:kN) (aE:kN) (aC:kO):Option R :=
 gS true aA (fa 3 aE fun t64=>lI t64 aC) aC fun t65 aB=>gS true aA (ld false 1 aB t65 fun t67=>lI t67 aB) aB fun t68 aD=>gS true aA (bo .lss t68 (32:Int) fun aG=>lI aG aD) aD fun t71 aF=>(lH aA t71 false).bind fun t73=>QS K aE aF t73
def NB (aA:Bool) (p0:y_):Option (Int) :=
 tc aA (NC p0 (decide (p0.bit<32))) (NC p0 false)
theorem SI (w63:Bool) (p0:y_):((QR KK w63 (.ptr 0 0) ([.cells [p0.kind,p0.step,p0.reg,p0.bit]]:kO))).bind (mA 0)=tm (NB w63 p0) fun r=>(.ret r,[]):=by
 cases w63 <;> simp +contextual -implicitDefEqProofs [-rZ,-oZ,-oJ,-p5,-pV,-qX,-qY,QR,NB,mA,CG,Fe,Ig,M_]
def QQ (K:kT) (aA:kN) (aE:kN) (aC:kO):Option R :=
 gS true aA (fa 3 aE fun aG=>lI aG aC) aC fun t52 aB=>gS true aA (ld false 1 aB t52 fun t54=>lI t54 aB) aB fun t55 aD=>gS true aA (bo .geq t55 zO fun t57=>lI t57 aD) aD fun aH aF=>(lH aA aH false).bind fun aI=>QR K aI aE aF
def NA (aA:Bool) (p0:y_):Option (Int) :=
 tc aA (NB (decide (0≤p0.bit)) p0) (NB false p0)
theorem WZ (w50:Bool) (p0:y_):((QQ KK w50 (.ptr 0 0) ([.cells [p0.kind,p0.step,p0.reg,p0.bit]]:kO))).bind (mA 0)=tm (NA w50 p0) fun r=>(.ret r,[]):=by
 cases w50 <;> simp +contextual -implicitDefEqProofs [-rZ,-oZ,-oJ,-p5,-pV,-qX,-qY,QQ,NA,mA,CG,Fe,Ig,M_,SI]
def QP (K:kT) (aA:kN) (aE:kN) (aC:kO):Option R :=
 gS true aA (fa 2 aE fun t38=>lI t38 aC) aC fun aG aB=>gS true aA (ld false 1 aB aG fun aH=>lI aH aB) aB fun t42 aD=>gS true aA (bo .lss t42 (15:Int) fun aI=>lI aI aD) aD fun t45 aF=>(lH aA t45 false).bind fun aJ=>QQ K aJ aE aF
def Nz (aA:Bool) (p0:y_):Option (Int) :=
 tc aA (NA (decide (p0.reg<15)) p0) (NA false p0)
theorem amX (w37:Bool) (p0:y_):((QP KK w37 (.ptr 0 0) ([.cells [p0.kind,p0.step,p0.reg,p0.bit]]:kO))).bind (mA 0)=tm (Nz w37 p0) fun r=>(.ret r,[]):=by
 cases w37 <;> simp +contextual -implicitDefEqProofs [-rZ,-oZ,-oJ,-p5,-pV,-qX,-qY,QP,Nz,mA,CG,Fe,Ig,M_,SI,WZ]
def m42 (K:kT) (a0:kN) (h0:kO):Option (mR×kO) :=
 (kW (lR 4 h0 a0) fun aC aA=>fa 0 aC fun aF=>ld false 1 aA aF fun aG=>bo .eql aG (2:Int) fun t24=>gS true t24 (fa 2 aC fun aH=>lI aH aA) aA fun aI aB=>gS true t24 (ld false 1 aB aI fun aJ=>lI aJ aB) aB fun t29 aD=>gS true t24 (bo .geq t29 zO fun t31=>lI t31 aD) aD fun t32 aE=>(lH t24 t32 false).bind fun aK=>QP K aK aC aE).bind (mA (aa5 h0))
theorem aj5 K a0 h0:nN K 42 [a0] h0=m42 (lG mJ K) a0 h0:=by kernel_rfl
def t42 (p0:y_):Option (Int) :=
 tc (decide (p0.kind=2)) (Nz (decide (0≤p0.reg)) p0) (Nz false p0)
theorem Da (p0:y_) (h:kO):KK 42 [(.agg [p0.kind,p0.step,p0.reg,p0.bit])] h=tm (t42 p0) fun r=>(.ret r,h):=lJ rfl rfl (aj5 ..) (by
 simp +contextual -implicitDefEqProofs [-rZ,-oZ,-oJ,-p5,-pV,-qX,-qY,m42,t42,mA,CG,Fe,Ig,M_,SI,WZ,amX])
def m72 (K:kT) (a0:kN) (h0:kO):Option (mR×kO) :=
 (bo .geq a0 (2147483648:Int) fun aA=>kV aA (bo .sub a0 (4294967296:Int) fun aB=>some (.ret,[aB],h0)) (some (.ret,[a0],h0))).bind (mA (aa5 h0))
theorem akZ K a0 h0:nN K 72 [a0] h0=m72 (lG mJ K) a0 h0:=by kernel_rfl
def t72 (p0:Int):Option (Int) :=
 tc (decide (2147483648≤p0)) (some (IntKind.wrap .i64 (p0-4294967296))) (some p0)
theorem PE (p0:Int) (h:kO):KK 72 [p0] h=tm (t72 p0) fun r=>(.ret r,h):=lJ rfl rfl (akZ ..) (by
 simp +contextual -implicitDefEqProofs [-rZ,-oZ,-oJ,-p5,-pV,-qX,-qY,m72,t72,mA])
def Lp (K:kT) (m:Nat) (t36:kN) (aA:kN) (aB:kN) (aC:kN) (aG:kO) (aD:kN) (aE:kN) (aF:kN):Option R :=
 kV t36 (bo .add aA aB fun t42=>ca (K 62 [(kN.kP aC),(kN.kP t42)] aG) fun aI aH=>kZ m .normal [aI,aD,aA,aE,aF,aB] aH) (kZ m .normal [aC,aD,aA,aE,aF,aB] aG)
def Ec (aC:Bool) (p2:Int) (aB:Int) (aA:Int):Option (Int) :=
 tc aC (tb ((t62 aA (IntKind.wrap .i64 (p2+aB)))) fun U7=>some U7) (some aA)
theorem abK (w41:Bool) (p2:Int) (w38:Int) (w37:Int) (p1:Int) (p3:Int):(Lp KK 0 w41 p2 w38 w37 ([]:kO) p1 p3 zO)=tm (β:=R) (Ec w41 p2 w38 w37) fun r=>(.normal,[r,p1,p2,p3,zO,w38],([]:kO)):=by
 cases w41 <;> simp +contextual -implicitDefEqProofs [-rZ,-oZ,-oJ,-p5,-pV,-qX,-qY,Lp,Ec,F0]
def Gz (K:kT) (m:Nat) (s:List kN×kO):Option R :=
 (fun aB aC aD aE aF aA aM=>bo .lss aA aE fun aQ=>kV aQ (bo .add aD aA fun t29=>ca (K 73 [(kN.kP aB),(kN.kP t29)] aM) fun aR aO=>ca (K 73 [(kN.kP aC),(kN.kP aA)] aO) fun t33 aN=>bo .neq aR t33 fun t36=>(Lp K (aa5 aN) t36 aD aA aB aN aC aE aF).bind fun AY=>(fun aG aH aI aJ aK aL aP=>Ex.pR AY.1 (bo .add aL (1:Int) fun t54=>kZ m .normal [aG,aH,aI,aJ,aK,t54] aP)) (gd AY.2.1 0) (gd AY.2.1 1) (gd AY.2.1 2) (gd AY.2.1 3) (gd AY.2.1 4) (gd AY.2.1 5) AY.2.2) (kZ m (.exit 0) [aB,aC,aD,aE,aF,aA] aM)) (gd s.1 0) (gd s.1 1) (gd s.1 2) (gd s.1 3) (gd s.1 4) (gd s.1 5) s.2
def yU (p1:Int) (p2:Int) (p3:Int) (oA:Int×Int):Option (Ey×Int×Int) :=
 tc (decide (oA.2<p3)) (tb ((t73 oA.1 (IntKind.wrap .i64 (p2+oA.2)))) fun xG=>tb ((t73 p1 oA.2)) fun tB=>tb (Ec (!decide (xG=tB)) p2 oA.2 oA.1) fun AY=>some (.n,(AY,(IntKind.wrap .i64 (oA.2+1))))) (some ((.x 0),(oA.1,oA.2)))
theorem YQ (p1:Int) (p2:Int) (p3:Int) (oA:Int×Int):Gz KK 0 ([oA.1,p1,p2,p3,zO,oA.2],([]:kO))=tm (β:=R) (yU p1 p2 p3 oA) fun r=>(r.1.ex,[r.2.1,p1,p2,p3,zO,r.2.2],([]:kO)):=by
 simp +contextual -implicitDefEqProofs [-rZ,-oZ,-oJ,-p5,-pV,-qX,-qY,Gz,yU,r73,abK]
theorem abL (p1:Int) (p2:Int) (p3:Int) (i0:Int) (i5:Int):nP (Gz KK 0) ([i0,p1,p2,p3,zO,i5],([]:kO))=tm (β:=R) (rX (yU p1 p2 p3) (i0,i5)) fun r=>(r.1.ex,[r.2.1,p1,p2,p3,zO,r.2.2],([]:kO)):=by
 exact uE (enc:=fun oA=>([(.int .i64 oA.1),(.int .i64 p1),(.int .i64 p2),(.int .i64 p3),(.int .i64 0),(.int .i64 oA.2)],([]:kO))) (fun oA=>YQ p1 p2 p3 oA) (i0,i5)
def auY (K:kT) (a0 a1 a2 a3:kN) (h0:kO):Option (mR×kO) :=
 ((nP (Gz K (aa5 h0)) ([a0,a1,a2,a3,zO,zO],h0)).bind fun Na=>(fun aA aD aE aF aB aG aC=>Ex.l_ Na.1 none (fun aH=>Ex.inBlock 0 aH (some (.ret,[aA],aC)) (fun aI=>some (aI,[aB],aC)))) (gd Na.2.1 0) (gd Na.2.1 1) (gd Na.2.1 2) (gd Na.2.1 3) (gd Na.2.1 4) (gd Na.2.1 5) Na.2.2).bind (mA (aa5 h0))
theorem ZM K a0 a1 a2 a3 h0:nN K 109 [a0,a1,a2,a3] h0=auY (lG mJ K) a0 a1 a2 a3 h0:=by kernel_rfl
def t109 (p0:Int) (p1:Int) (p2:Int) (p3:Int):Option (Int) :=
 tb (rX (yU p1 p2 p3) (p0,0)) fun Na=>uL Na.1 none fun aA=>vO 0 aA (some Na.2.1) fun aB=>Ao aB (some 0)
theorem aD1 (p0:Int) (p1:Int) (p2:Int) (p3:Int) (h:kO):KK 109 [p0,p1,p2,p3] h=tm (t109 p0 p1 p2 p3) fun r=>(.ret r,h):=lJ rfl rfl (ZM ..) (by
 simp +contextual -implicitDefEqProofs [-rZ,-oZ,-oJ,-p5,-pV,-qX,-qY,auY,t109,abL,mA])
def au7 (K:kT) (a0 a1 a2 a3:kN) (h0:kO):Option (mR×kO) :=
 (bo .shl (1:Int) a3 fun aD=>bo .sub aD (1:Int) fun aE=>bo .shl aE a2 fun aF=>ca (K 36 [(kN.kP aF)] h0) fun aG aA=>ca (K 143 [(kN.kP a1),(kN.kP a2)] aA) fun aH aB=>ca (K 142 [(kN.kP aG),(kN.kP aH),(kN.kP a0)] aB) fun t31 aC=>some (.ret,[t31],aC)).bind (mA (aa5 h0))
theorem ZY K a0 a1 a2 a3 h0:nN K 122 [a0,a1,a2,a3] h0=au7 (lG mJ K) a0 a1 a2 a3 h0:=by kernel_rfl
def t122 (p0:Int) (p1:Int) (p2:Int) (p3:Int):Option (Int) :=
 tb ((qP .i64 1 p3)) fun aA=>tb ((qP .i64 (IntKind.wrap .i64 (aA-1)) p2)) fun aB=>tb ((t36 aB)) fun Ce=>tb ((t143 p1 p2)) fun aC=>tb ((t142 Ce aC p0)) fun CF=>some CF
theorem Pe (p0:Int) (p1:Int) (p2:Int) (p3:Int) (h:kO):KK 122 [p0,p1,p2,p3] h=tm (t122 p0 p1 p2 p3) fun r=>(.ret r,h):=lJ rfl rfl (ZY ..) (by
 simp +contextual -implicitDefEqProofs [-rZ,-oZ,-oJ,-p5,-pV,-qX,-qY,au7,t122,Co,axB,aD4,mA])
def au8 (K:kT) (a0 a1 a2:kN) (h0:kO):Option (mR×kO) :=
 (bo .eql a0 (5:Int) fun aE=>kV aE (ca (K 143 [(kN.kP a1),(kN.kP a2)] h0) fun aF aA=>some (.ret,[aF],aA)) (bo .eql a0 (6:Int) fun t24=>kV t24 (ca (K 144 [(kN.kP a1),(kN.kP a2)] h0) fun aG aB=>some (.ret,[aG],aB)) (bo .eql a0 (7:Int) fun aH=>kV aH (ca (K 145 [(kN.kP a1),(kN.kP a2)] h0) fun t29 aC=>some (.ret,[t29],aC)) (ca (K 146 [(kN.kP a1),(kN.kP a2)] h0) fun t32 aD=>some (.ret,[t32],aD))))).bind (mA (aa5 h0))
theorem ZZ K a0 a1 a2 h0:nN K 123 [a0,a1,a2] h0=au8 (lG mJ K) a0 a1 a2 h0:=by kernel_rfl
def t123 (p0:Int) (p1:Int) (p2:Int):Option (Int) :=
 tc (decide (p0=5)) (tb ((t143 p1 p2)) fun aA=>some aA) (tc (decide (p0=6)) (tb ((t144 p1 p2)) fun Ce=>some Ce) (tc (decide (p0=7)) (tb ((t145 p1 p2)) fun yP=>some yP) (tb ((t146 p1 p2)) fun aB=>some aB)))
theorem zI (p0:Int) (p1:Int) (p2:Int) (h:kO):KK 123 [p0,p1,p2] h=tm (t123 p0 p1 p2) fun r=>(.ret r,h):=lJ rfl rfl (ZZ ..) (by
 simp +contextual -implicitDefEqProofs [-rZ,-oZ,-oJ,-p5,-pV,-qX,-qY,au8,t123,axB,amC,aD5,JS,mA])
def au9 (K:kT) (a0 a1 a2:kN) (h0:kO):Option (mR×kO) :=
 (bo .eql a0 (10:Int) fun aI=>kV aI (ca (K 147 [(kN.kP a1),(kN.kP a2)] h0) fun aJ aA=>some (.ret,[aJ],aA)) (bo .eql a0 (11:Int) fun t24=>kV t24 (ca (K 27 [(kN.kP a2)] h0) fun aK aB=>ca (K 147 [(kN.kP a1),(kN.kP aK)] aB) fun aL aC=>some (.ret,[aL],aC)) (bo .eql a0 (12:Int) fun t31=>kV t31 (ca (K 148 [(kN.kP a1),(kN.kP a2)] h0) fun t32 aD=>some (.ret,[t32],aD)) (bo .eql a0 (13:Int) fun t35=>kV t35 (ca (K 77 [(kN.kP a1),(kN.kP a2)] h0) fun t36 aE=>some (.ret,[t36],aE)) (bo .eql a0 (14:Int) fun aM=>kV aM (ca (K 57 [(kN.kP a1),(kN.kP a2)] h0) fun aN aF=>some (.ret,[aN],aF)) (bo .eql a0 (15:Int) fun aO=>kV aO (ca (K 149 [(kN.kP a1),(kN.kP a2)] h0) fun aP aG=>some (.ret,[aP],aG)) (ca (K 125 [(kN.kP a1),(kN.kP a2)] h0) fun aQ aH=>some (.ret,[aQ],aH)))))))).bind (mA (aa5 h0))
theorem Z0 K a0 a1 a2 h0:nN K 124 [a0,a1,a2] h0=au9 (lG mJ K) a0 a1 a2 h0:=by kernel_rfl
def t124 (p0:Int) (p1:Int) (p2:Int):Option (Int) :=
 tc (decide (p0=10)) (tb ((t147 p1 p2)) fun aA=>some aA) (tc (decide (p0=11)) (tb ((t27 p2)) fun Ce=>tb ((t147 p1 Ce)) fun aB=>some aB) (tc (decide (p0=12)) (tb ((t148 p1 p2)) fun aC=>some aC) (tc (decide (p0=13)) (tb ((t77 p1 p2)) fun r38=>some r38) (tc (decide (p0=14)) (tb ((t57 p1 p2)) fun Da=>some Da) (tc (decide (p0=15)) (tb ((t149 p1 p2)) fun AY=>some AY) (tb ((t125 p1 p2)) fun Ph=>some Ph))))))
theorem Ab (p0:Int) (p1:Int) (p2:Int) (h:kO):KK 124 [p0,p1,p2] h=tm (t124 p0 p1 p2) fun r=>(.ret r,h):=lJ rfl rfl (Z0 ..) (by
 simp +contextual -implicitDefEqProofs [-rZ,-oZ,-oJ,-p5,-pV,-qX,-qY,au9,t124,AX,Ce,UT,AZ,r57,axC,ab1,mA])
end
end
section
open Go Hk
theorem lP (n:Int) (h1:-9223372036854775808≤n) (h2:n≤9223372036854775807):IntKind.i64.wrap n=n:=wrap64 h1 h2
theorem Et (n:Int):IntKind.i64.wrap n=(n+9223372036854775808)%18446744073709551616-9223372036854775808:=by
 simp [IntKind.wrap,IntKind.signed,IntKind.bits]
 split <;> omega
theorem Jp (n:Int):IntKind.u64.wrap n=n%18446744073709551616:=by
 simp [IntKind.wrap,IntKind.signed,IntKind.bits]
theorem aAm (n:Int):IntKind.u32.wrap n=n%4294967296:=by
 simp [IntKind.wrap,IntKind.signed,IntKind.bits]
theorem Tl (n:Int):IntKind.u8.wrap n=n%256:=by
 simp [IntKind.wrap,IntKind.signed,IntKind.bits]
theorem aAl (n:Int):IntKind.i32.wrap n=(n+2147483648)%4294967296-2147483648:=by
 simp [IntKind.wrap,IntKind.signed,IntKind.bits]
 split <;> omega
theorem zU (n:Int):(BitVec.ofInt 64 n).toNat=(n%18446744073709551616).toNat:=by
 rw [BitVec.toNat_ofInt];rfl
def wr (n:Int):Int:=n%4294967296
theorem az5 (p:Int) (q:Nat) (hq:q<9223372036854775808):rC .i64 p q=((((p%18446744073709551616).toNat &&& q:Nat):Nat):Int):=by
 unfold rC
 have e:IntKind.i64.bits=64:=rfl
 rw [e,BitVec.toNat_and,zU,zU]
 have h1:((q:Int)%18446744073709551616).toNat=q:=by omega
 rw [h1]
 have h2:(p%18446744073709551616).toNat &&& q≤q:=Nat.and_le_right
 exact lP _ (by omega) (by omega)
theorem uC (p:Int) (k:Nat) (hk:k≤62):rC .i64 p ((2^k-1:Nat):Int)=p%((2^k:Nat):Int):=by
 have hp:2^k≤2^62:=al2 (by decide) hk
 rw [az5 _ _ (by omega),Nat.and_two_pow_sub_one_eq_mod]
 have hd:((2^k:Nat):Int) ∣ 18446744073709551616:=by
  have:(2^k:Nat) ∣ 2^64:=Nat.pow_dvd_pow 2 (by omega)
  exact Int.ofNat_dvd.2 this
 rw [Int.natCast_emod,Int.toNat_of_nonneg (Int.emod_nonneg _ (by decide)),Int.emod_emod_of_dvd _ hd]
theorem Ac (p:Int):t36 p=some (wr p):=by
 unfold t36 wr
 rw [show(4294967295:Int)=((2^32-1:Nat):Int) from rfl,uC p 32 (by decide)];rfl
theorem TX (p:Int):t78 p=some (p%32):=by
 unfold t78
 rw [show(31:Int)=((2^5-1:Nat):Int) from rfl,uC p 5 (by decide)];rfl
theorem pE {a b:Int}(ha:0≤a) (hb:b≠0):qA a b=some (a%b):=by
 unfold qA
 rw [if_neg hb,Int.tmod_eq_emod_of_nonneg ha]
theorem uR {k:IntKind}{a b:Int}(ha:0≤a) (hb:b≠0):A0 k a b=some (k.wrap (a/b)):=by
 unfold A0
 rw [if_neg hb,Int.tdiv_eq_ediv_of_nonneg ha]
theorem yC (p:Int):t31 p=some (wr p):=by
 unfold t31 wr
 rw [Jp,pE (Int.emod_nonneg _ (by decide)) (by decide)]
 simp only [kS,aa9]
 rw [lP _ (by omega) (by omega)]
 omega
theorem F2 (p:Int):t88 p=some (p%32):=by
 unfold t88
 rw [Jp,pE (Int.emod_nonneg _ (by decide)) (by decide)]
 simp only [kS,aa9]
 rw [lP _ (by omega) (by omega)]
 omega
theorem tW (p:Int):0≤wr p∧wr p<4294967296:=by unfold wr;omega
theorem af8 {p:Int}(h0:0≤p) (h1:p<4294967296):wr p=p:=by unfold wr;omega
theorem Po (n:Nat) (hn:n≤61):t87 (n:Int)=some ((2^n:Nat):Int):=by
 have key:∀d j:Nat,j+d=n→rX (CX n) (((2^j:Nat):Int),(j:Int))=some (.x 0,((2^n:Nat):Int),(n:Int)):=by
  intro d
  induction d with
  | zero =>
   intro j hj
   obtain rfl:j=n:=by omega
   refine mV ?_ (by simp)
   simp [CX]
  | succ d ih =>
   intro j hj
   rw [oB (s':=(((2^(j+1):Nat):Int),((j+1:Nat):Int)))]
   ·exact ih (j+1) (by omega)
   ·have h1:((j:Int)<(n:Int)):=by omega
    simp only [CX,h1,decide_true,lD,aa9,ap2,true_and]
    refine⟨?_,?_⟩
    ·have hq:2^j≤2^60:=al2 (by decide) (by omega)
     rw [Nat.pow_succ]
     generalize 2^j=q at hq
     rw [lP _ (by omega) (by omega)];simp
    ·rw [lP _ (by omega) (by omega)];simp
 have h:=key n 0 (by omega)
 unfold t87
 have e:((1:Int),(0:Int))=(((2^0:Nat):Int),((0:Nat):Int)):=rfl
 rw [e,h]
 simp [uL,vO]
end
section
open Go Hk
theorem s_ {x:Nat}(hx:x<4294967296):wr (x:Int)=x:=af8 (by omega) (by omega)
theorem azV (a b:Int):t57 a b=some (wr (a+b)):=by
 unfold t57;rw [Ac,Et];simp only [kS,wr,aa9];omega
theorem afU (a b:Int):t46 a b=some (wr (a+b)):=by
 unfold t46;simp only [yC,kS,Et,wr,aa9];omega
theorem XM (a b:Int):t149 a b=some (wr (a-b)):=by
 unfold t149;rw [Ac,Et];simp only [kS,wr,aa9];omega
theorem XR (a b:Int):t74 a b=some (wr (a-b)):=by
 unfold t74;simp only [yC,kS,Et,wr,aa9];omega
theorem DT {x y:Nat}(hx:x<4294967296) (hy:y<4294967296):x*y≤18446744065119617025:=by
 have:=Nat.mul_le_mul (Nat.le_of_lt_succ hx) (Nat.le_of_lt_succ hy);simpa using this
theorem XN {x y:Nat}(hx:x<4294967296) (hy:y<4294967296):t150 (x:Int) (y:Int)=some ((x*y:Nat):Int):=by
 have hp:=DT hx hy
 unfold t150;simp only [Ac,kS,s_ hx,s_ hy,Jp,aa9]
 rw [Int.emod_eq_of_lt (by omega) (by omega:(x:Int)<18446744073709551616),Int.emod_eq_of_lt (by omega) (by omega:(y:Int)<18446744073709551616),←Int.natCast_mul]
 generalize x*y=p at hp ⊢
 omega
theorem XI {x y:Nat}(hx:x<4294967296) (hy:y<4294967296):t125 (x:Int) (y:Int)=some (((x*y)%4294967296:Nat):Int):=by
 have hp:=DT hx hy
 unfold t125;rw [XN hx hy];simp only [kS,aa9]
 generalize x*y=p at hp ⊢
 have e:rC .u64 (p:Int) 4294967295=((p%4294967296:Nat):Int):=by
  unfold rC
  have e:IntKind.u64.bits=64:=rfl
  rw [e,BitVec.toNat_and,zU,zU]
  have h1:((4294967295:Int)%18446744073709551616).toNat=2^32-1:=by decide
  rw [h1,Nat.and_two_pow_sub_one_eq_mod,Jp]
  omega
 rw [e,lP _ (by omega) (by omega)]
theorem ao8 {x y:Nat}(hx:x<4294967296) (hy:y<4294967296):t126 (x:Int) (y:Int)=some (((x*y)/4294967296:Nat):Int):=by
 have hp:=DT hx hy
 unfold t126;rw [XN hx hy]
 generalize x*y=p at hp ⊢
 have e:sX .u64 (p:Int) 32=some ((p/4294967296:Nat):Int):=by
  unfold sX
  rw [if_neg (by decide),show(min (32:Int).toNat IntKind.u64.bits)=32 from rfl,Int.fdiv_eq_ediv_of_nonneg _ (by decide)]
  rfl
 simp only [kS,e,aa9]
 exact lP _ (by omega) (by omega)
theorem Ip {x y:Nat}(hx:x<4294967296) (hy:y<4294967296):t108 (x:Int) (y:Int)=some (((x*y)%4294967296:Nat):Int):=by
 have hp:=DT hx hy
 unfold t108;simp only [yC,kS,s_ hx,s_ hy,Jp]
 rw [Int.emod_eq_of_lt (by omega) (by omega:(x:Int)<18446744073709551616),Int.emod_eq_of_lt (by omega) (by omega:(y:Int)<18446744073709551616),←Int.natCast_mul]
 generalize x*y=p at hp ⊢
 rw [pE (by omega) (by decide)]
 simp only [kS,aa9]
 rw [lP _ (by omega) (by omega)]
 omega
theorem azY {x y:Nat}(hx:x<4294967296) (hy:y<4294967296):t76 (x:Int) (y:Int)=some (((x*y)/4294967296:Nat):Int):=by
 have hp:=DT hx hy
 unfold t76;simp only [yC,kS,s_ hx,s_ hy,Jp]
 rw [Int.emod_eq_of_lt (by omega) (by omega:(x:Int)<18446744073709551616),Int.emod_eq_of_lt (by omega) (by omega:(y:Int)<18446744073709551616),←Int.natCast_mul]
 generalize x*y=p at hp ⊢
 rw [uR (by omega) (by decide)]
 simp only [kS,aa9,Jp]
 rw [lP _ (by omega) (by omega)]
 omega
theorem AQ {i:Nat}(hi:i<32):((i:Nat):Int)%32=(i:Int):=by omega
theorem oQ (i:Nat):(2:Int)^i=((2^i:Nat):Int):=by simp
theorem C4 {x:Nat}(i:Nat) (hi:i<64):sX .i64 (x:Int) (i:Int)=some ((x/2^i:Nat):Int):=by
 unfold sX
 rw [if_neg (by omega),show min ((i:Int).toNat) IntKind.i64.bits=i from by simp [IntKind.bits];omega,oQ,Int.fdiv_eq_ediv_of_nonneg _ (Int.natCast_nonneg _),←Int.natCast_ediv]
theorem S7 {x:Nat}(hx:x<4294967296) {i:Nat}(hi:i<32):t144 (x:Int) (i:Int)=some ((x/2^i:Nat):Int):=by
 unfold t144;simp only [Ac,TX,kS,s_ hx,AQ hi,C4 i (by omega)]
theorem Xz {x:Nat}(hx:x<4294967296) {i:Nat}(hi:i<32):t101 (x:Int) (i:Int)=some ((x/2^i:Nat):Int):=by
 have h2:0<2^i:=Nat.pow_pos (by decide)
 unfold t101;simp only [yC,F2,kS,s_ hx,AQ hi,Po i (by omega)]
 rw [uR (by omega) (by omega),kS,←Int.natCast_ediv]
 have:=Nat.div_le_self x (2^i)
 generalize x/2^i=q at this ⊢
 rw [lP _ (by omega) (by omega)]
theorem apD {x:Nat}(hx:x<4294967296) {i:Nat}(hi:i<32):t151 (x:Int) (i:Int)=some ((x/2^i%2:Nat):Int):=by
 unfold t151;rw [S7 hx hi,kS,show(1:Int)=((2^1-1:Nat):Int) from rfl,uC _ 1 (by decide)];rfl
theorem yY {x:Nat}(hx:x<4294967296) {i:Nat}(hi:i<32):t73 (x:Int) (i:Int)=some ((x/2^i%2:Nat):Int):=by
 have h2:0<2^i:=Nat.pow_pos (by decide)
 unfold t73;simp only [yC,F2,kS,s_ hx,AQ hi,Po i (by omega)]
 rw [uR (by omega) (by omega),kS,←Int.natCast_ediv]
 have:=Nat.div_le_self x (2^i)
 generalize x/2^i=q at this ⊢
 rw [lP _ (by omega) (by omega),pE (by omega) (by decide)]
 simp
end
section
open Go Hk
theorem G6 (m a b k:Int) (V:Nat) (hV:V<4294967296)
  (hf:∀i:Nat,i<32→∃x y:Int,t73 a i=some x∧t73 b i=some y∧yW (decide (k=0)) x m k i y=some ((V/2^i%2:Nat):Int)):t130 m a b k=some (V:Int):=by
 have key:∀n:Nat,n≤32→rX (AF m a b k) (((V/2^n:Nat):Int),(n:Int)-1)=some (.x 0,(V:Int),-1):=by
  intro n
  induction n with
  | zero=>intro _;refine mV ?_ (by simp);simp [AF]
  | succ n ih =>
   intro hn
   obtain⟨x,y,h1,h2,h3⟩:=hf n (by omega)
   rw [oB (s':=(((V/2^n:Nat):Int),(n:Int)-1))]
   ·exact ih (by omega)
   ·have e1:(((n+1:Nat):Int)-1)=(n:Int):=by omega
    have e2:V/2^(n+1)=V/2^n/2:=by rw [Nat.pow_succ,Nat.div_div_eq_div_mul]
    have hle:=Nat.div_le_self V (2^n)
    have h0:((0:Int)≤(n:Int)):=by omega
    simp only [AF,e1,h0,decide_true,lD,h1,h2,h3,kS,e2,aa9,ap2,true_and]
    generalize V/2^n=q at hle ⊢
    refine⟨?_,?_⟩
    ·rw [lP (2*_) (by omega) (by omega),lP _ (by omega) (by omega)];omega
    ·rw [lP _ (by omega) (by omega)]
 have h:=key 32 (by decide)
 have h32:V/2^32=0:=Nat.div_eq_of_lt hV
 rw [h32] at h
 unfold t130
 have e:((0:Int),(31:Int))=(((0:Nat):Int),((32:Nat):Int)-1):=rfl
 rw [e,h]
 simp [uL,vO]
theorem CE {x:Nat}(h:x<4294967296):x<2^32:=h
theorem FI (x i:Nat):x/2^i%2=(x.testBit i).toNat:=(Nat.toNat_testBit x i).symm
section
variable {x y:Nat}(hx:x<4294967296) (hy:y<4294967296)
include hx
theorem Ni:t104 (x:Int)=some ((4294967295-x:Nat):Int):=by
 unfold t104
 rw [G6 0 x 0 0 (4294967295-x) (by omega)]
 ·rfl
 ·intro i hi
  refine⟨_,_,yY hx hi,yY (x:=0) (by omega) hi,?_⟩
  have e:4294967295-x=2^32-(x+1):=by omega
  simp only [yW,decide_true,lD,aa9,FI]
  rw [e,Nat.testBit_two_pow_sub_succ (CE hx)]
  cases x.testBit i <;> simp [hi] <;> decide
include hy
theorem Nj:t105 (x:Int) (y:Int)=some ((x &&& y:Nat):Int):=by
 unfold t105
 rw [G6 0 x y 1 (x &&& y) (Nat.and_lt_two_pow _ (CE hy))]
 ·rfl
 ·intro i hi
  refine⟨_,_,yY hx hi,yY hy hi,?_⟩
  simp only [yW,B9,FI,Nat.testBit_and]
  cases x.testBit i <;> cases y.testBit i <;> rfl
theorem XC:t106 (x:Int) (y:Int)=some ((x ||| y:Nat):Int):=by
 unfold t106
 rw [G6 0 x y 2 (x ||| y) (Nat.or_lt_two_pow (CE hx) (CE hy))]
 ·rfl
 ·intro i hi
  refine⟨_,_,yY hx hi,yY hy hi,?_⟩
  simp only [yW,B9,El,FI,Nat.testBit_or]
  cases x.testBit i <;> cases y.testBit i <;> rfl
theorem XE:t107 (x:Int) (y:Int)=some ((x ^^^ y:Nat):Int):=by
 unfold t107
 rw [G6 0 x y 3 (x ^^^ y) (Nat.xor_lt_two_pow (CE hx) (CE hy))]
 ·rfl
 ·intro i hi
  refine⟨_,_,yY hx hi,yY hy hi,?_⟩
  simp only [yW,B9,El,GV,FI,Nat.testBit_xor]
  cases x.testBit i <;> cases y.testBit i <;> rfl
theorem S8:t147 (x:Int) (y:Int)=some ((x &&& y:Nat):Int):=by
 have hl:x &&& y≤y:=Nat.and_le_right
 have e:rC .i64 (x:Int) (y:Int)=((x &&& y:Nat):Int):=by
  unfold rC
  rw [show IntKind.i64.bits=64 from rfl,BitVec.toNat_and,zU,zU,show((x:Int)%18446744073709551616).toNat=x from by omega,show((y:Int)%18446744073709551616).toNat=y from by omega,lP _ (by omega) (by omega)]
 unfold t147;rw [e,Ac,s_ (by omega)];rfl
theorem S9:t148 (x:Int) (y:Int)=some ((x ||| y:Nat):Int):=by
 have hl:x ||| y<2^32:=Nat.or_lt_two_pow (CE hx) (CE hy)
 have e:sD .i64 (x:Int) (y:Int)=((x ||| y:Nat):Int):=by
  unfold sD
  rw [show IntKind.i64.bits=64 from rfl,BitVec.toNat_or,zU,zU,show((x:Int)%18446744073709551616).toNat=x from by omega,show((y:Int)%18446744073709551616).toNat=y from by omega,lP _ (by omega) (by omega)]
 unfold t148;rw [e,Ac,s_ (by omega)];rfl
theorem afX:t77 (x:Int) (y:Int)=some ((x ^^^ y:Nat):Int):=by
 have hl:x ^^^ y<2^32:=Nat.xor_lt_two_pow (CE hx) (CE hy)
 have e:C5 .i64 (x:Int) (y:Int)=((x ^^^ y:Nat):Int):=by
  unfold C5
  rw [show IntKind.i64.bits=64 from rfl,BitVec.toNat_xor,zU,zU,show((x:Int)%18446744073709551616).toNat=x from by omega,show((y:Int)%18446744073709551616).toNat=y from by omega,lP _ (by omega) (by omega)]
 unfold t77;rw [e,Ac,s_ (by omega)];rfl
end
theorem afS {x:Nat}(hx:x<4294967296):t27 (x:Int)=some ((4294967295-x:Nat):Int):=by
 have e:Pu .i64 (x:Int)=-1-(x:Int):=by
  unfold Pu
  rw [show IntKind.i64.bits=64 from rfl,show IntKind.i64.signed=true from rfl,if_pos rfl]
  have h1:BitVec.ofInt 64 (-1)=BitVec.allOnes 64:=by decide
  rw [h1,BitVec.allOnes_xor,BitVec.toNat_not,zU,Et]
  omega
 unfold t27;rw [e,Ac];simp only [kS,wr,aa9];omega
end
section
open Go Hk
theorem H7 {i:Nat}(hi:i<32):2^i≤2147483648:=by
 have:2^i≤2^31:=al2 (by decide) (by omega)
 simpa using this
theorem adH (q:Nat):wr (IntKind.i64.wrap (q:Int))=((q%4294967296:Nat):Int):=by
 rw [Et,wr];omega
section
variable {x:Nat}(hx:x<4294967296) {i:Nat}(hi:i<32)
include hx hi
theorem aa0:x*2^i≤9223372034707292160:=by
 have:=Nat.mul_le_mul (Nat.le_of_lt_succ hx) (H7 hi);simpa using this
theorem apK:qP .i64 (x:Int) (i:Int)=some ((x*2^i:Nat):Int):=by
 have:=aa0 hx hi
 unfold qP
 rw [if_neg (by omega),show min ((i:Int).toNat) IntKind.i64.bits=i from by simp [IntKind.bits];omega,oQ,←Int.natCast_mul]
 generalize x*2^i=q at this ⊢
 rw [lP _ (by omega) (by omega)]
theorem XL:t143 (x:Int) (i:Int)=some ((x*2^i%4294967296:Nat):Int):=by
 unfold t143;simp only [Ac,TX,kS,s_ hx,AQ hi,apK hx hi]
 simp only [wr];generalize x*2^i=q;simp
theorem Xy:t100 (x:Int) (i:Int)=some ((x*2^i%4294967296:Nat):Int):=by
 have h:=H7 hi
 unfold t100;simp only [F2,kS,AQ hi,Po i (by omega)]
 rw [Ip hx (by omega),kS]
theorem XA:t102 (x:Int) (i:Int)=some ((((if x<2147483648 then(x:Int) else(x:Int)-4294967296)/((2^i:Nat):Int))%4294967296)):=by
 generalize hs:(if x<2147483648 then(x:Int) else(x:Int)-4294967296)=s
 have hs1:-2147483648≤s∧s<2147483648∧s%4294967296=x:=by subst hs;split <;> omega
 have key:∀d j:Nat,j+d=i→∀u:Int,-2147483648≤u→u<2147483648→u=s/((2^j:Nat):Int)→rX (AD (i:Int)) (u%4294967296,(j:Int))=some (.x 0,s/((2^i:Nat):Int)%4294967296,(i:Int)):=by
  intro d
  induction d with
  | zero =>
   intro j hj u h1 h2 hu
   obtain rfl:j=i:=by omega
   refine mV ?_ (by simp)
   simp [AD,F2,AQ hi,hu]
  | succ d ih =>
   intro j hj u h1 h2 hu
   have e2:s/((2^(j+1):Nat):Int)=u/2:=by
    rw [hu,Int.ediv_ediv_of_nonneg (Int.natCast_nonneg _),Nat.pow_succ,Int.natCast_mul];rfl
   rw [oB (s':=(u/2%4294967296,((j+1:Nat):Int)))]
   ·exact ih (j+1) (by omega) (u/2) (by omega) (by omega) e2.symm
   ·have h0:((j:Int)<(i:Int)):=by omega
    simp only [AD,F2,AQ hi,kS,h0,decide_true,lD]
    rw [uR (Int.emod_nonneg _ (by decide)) (by decide),uR (Int.emod_nonneg _ (by decide)) (by decide)]
    simp only [kS,aa9,ap2,true_and]
    rw [lP (u%4294967296/2) (by omega) (by omega),lP (u%4294967296/2147483648) (by omega) (by omega),lP (u%4294967296/2147483648*2147483648) (by omega) (by omega),lP _ (by omega) (by omega),lP _ (by omega) (by omega)]
    omega
 have h:=key i 0 (by omega) s hs1.1 hs1.2.1 (by simp)
 unfold t102
 rw [yC,s_ hx,kS,←hs1.2.2]
 have e:((0:Nat):Int)=0:=rfl
 rw [e] at h
 rw [h]
 simp [uL,vO]
theorem apB:t145 (x:Int) (i:Int)=some ((((if x<2147483648 then(x:Int) else(x:Int)-4294967296)/((2^i:Nat):Int))%4294967296)):=by
 have e:IntKind.i64.wrap (IntKind.i32.wrap (IntKind.u32.wrap (x:Int)))=(if x<2147483648 then(x:Int) else(x:Int)-4294967296):=by
  rw [aAm,aAl,Et];split <;> omega
 unfold t145;simp only [Ac,TX,kS,s_ hx,AQ hi,e]
 unfold sX
 rw [if_neg (by omega),show min ((i:Int).toNat) IntKind.i64.bits=i from by simp [IntKind.bits];omega,oQ,Int.fdiv_eq_ediv_of_nonneg _ (Int.natCast_nonneg _)]
 rfl
theorem XB:t103 (x:Int) (i:Int)=some ((x/2^i+x%2^i*2^(32-i):Nat):Int):=by
 have key:∀d j:Nat,j+d=i→rX (AE (i:Int)) (((x/2^j+x%2^j*2^(32-j):Nat):Int),(j:Int))=some (.x 0,((x/2^i+x%2^i*2^(32-i):Nat):Int),(i:Int)):=by
  intro d
  induction d with
  | zero =>
   intro j hj
   obtain rfl:j=i:=by omega
   refine mV ?_ (by simp)
   simp [AE,F2,AQ hi]
  | succ d ih =>
   intro j hj
   have hj1:32-j=(31-j)+1:=by omega
   have hp:2^(32-j)=2*2^(31-j):=by rw [hj1,Nat.pow_succ,Nat.mul_comm]
   have hj2:32-(j+1)=31-j:=by omega
   have hq:2^j*2^(31-j)=2147483648:=by rw [←Nat.pow_add,show j+(31-j)=31 from by omega]
   have h1:x/2^(j+1)=x/2^j/2:=by rw [Nat.pow_succ,Nat.div_div_eq_div_mul]
   have h2:x%2^(j+1)=x%2^j+2^j*(x/2^j%2):=by rw [Nat.pow_succ,Nat.mod_mul]
   have h3:x%2^j*2^(31-j)<2147483648:=by
    have:x%2^j<2^j:=aq2 _ (Nat.pow_pos (by decide))
    calc x%2^j*2^(31-j)<2^j*2^(31-j):=Nat.mul_lt_mul_of_pos_right this (Nat.pow_pos (by decide))
     _=_:=hq
   have h4:x/2^(j+1)+x%2^(j+1)*2^(32-(j+1))=x/2^j/2+x%2^j*2^(31-j)+2147483648*(x/2^j%2):=by
    rw [h1,h2,hj2,Nat.add_mul,Nat.mul_right_comm,hq];omega
   have h5:x/2^j+x%2^j*2^(32-j)=x/2^j+2*(x%2^j*2^(31-j)):=by
    rw [hp,Nat.mul_left_comm]
   have hle:=Nat.div_le_self x (2^j)
   rw [oB (s':=(((x/2^(j+1)+x%2^(j+1)*2^(32-(j+1)):Nat):Int),((j+1:Nat):Int)))]
   ·exact ih (j+1) (by omega)
   ·have h0:((j:Int)<(i:Int)):=by omega
    rw [h4,h5]
    generalize x%2^j*2^(31-j)=p at h3 ⊢
    generalize x/2^j=q at hle ⊢
    simp only [AE,F2,AQ hi,kS,h0,decide_true,lD]
    rw [uR (Int.natCast_nonneg _) (by decide),pE (Int.natCast_nonneg _) (by decide)]
    simp only [kS,aa9,ap2,true_and]
    rw [lP (_/2) (by omega) (by omega),lP (_*2147483648) (by omega) (by omega),lP _ (by omega) (by omega),lP _ (by omega) (by omega)]
    omega
 have h:=key i 0 (by omega)
 unfold t103
 rw [yC,s_ hx,kS]
 have e:((0:Nat):Int)=0:=rfl
 simp only [Nat.pow_zero,Nat.div_one,Nat.mod_one,Nat.zero_mul,Nat.add_zero,e] at h
 rw [h]
 simp [uL,vO]
theorem apC:t146 (x:Int) (i:Int)=some ((x/2^i+x%2^i*2^(32-i):Nat):Int):=by
 have hpi:0<2^i:=Nat.pow_pos (by decide)
 have hq:2^i*2^(32-i)=4294967296:=by rw [←Nat.pow_add,show i+(32-i)=32 from by omega]
 have hA:x/2^i<2^(32-i):=by
  rw [Nat.div_lt_iff_lt_mul hpi,Nat.mul_comm,hq];exact hx
 have hle:=Nat.div_le_self x (2^i)
 have hB:x*2^(32-i)%4294967296=x%2^i*2^(32-i):=by
  rw [←hq,Nat.mul_mod_mul_right]
 have hBl:x%2^i*2^(32-i)<4294967296:=by rw [←hB];exact aq2 _ (by decide)
 have e1:qP .i64 (x:Int) (IntKind.i64.wrap (32-(i:Int)))=some (IntKind.i64.wrap ((x*2^(32-i):Nat):Int)):=by
  rw [lP _ (by omega) (by omega)]
  unfold qP
  rw [if_neg (by omega),show min ((32-(i:Int)).toNat) IntKind.i64.bits=32-i from by simp [IntKind.bits];omega,oQ,←Int.natCast_mul]
 have e2:wr (IntKind.i64.wrap ((x*2^(32-i):Nat):Int))=((x%2^i*2^(32-i):Nat):Int):=by
  rw [←hB]
  exact adH _
 unfold t146
 rw [S7 hx hi]
 simp only [Ac,TX,kS,s_ hx,AQ hi,e1,e2]
 rw [S9 (by omega) hBl,kS]
 have:=Nat.two_pow_add_eq_or_of_lt hA (x%2^i)
 rw [Nat.mul_comm (x%2^i),Nat.or_comm,←this]
 congr 2
 omega
end
end
section
open Go Hk
def G_ (d f at_ many V:Nat):Prop:=V<4294967296∧∀i,i<32→V.testBit i=if at_≤i∧i<at_+many then f.testBit (i-at_) else d.testBit i
theorem G_.uniq {d f a m V W:Nat}(h1:G_ d f a m V) (h2:G_ d f a m W):V=W:=by
 refine Nat.eq_of_testBit_eq fun i=>?_
 by_cases hi:i<32
 ·rw [h1.2 i hi,h2.2 i hi]
 ·have hp:2^32≤2^i:=al2 (by decide) (by omega)
  rw [Nat.testBit_lt_two_pow (Nat.lt_of_lt_of_le (CE h1.1) hp),Nat.testBit_lt_two_pow (Nat.lt_of_lt_of_le (CE h2.1) hp)]
theorem UC (x i k:Nat):(2^i*(2*(x/2^i/2)+(1-x/2^i%2))+x%2^i).testBit k=if k=i then !(x.testBit i) else x.testBit k:=by
 have hlt:x%2^i<2^i:=aq2 _ (Nat.pow_pos (by decide))
 rw [Nat.testBit_two_pow_mul_add _ hlt]
 have hx:x=2^i*(x/2^i)+x%2^i:=(Nat.div_add_mod x (2^i)).symm
 by_cases h1:k<i
 ·rw [if_pos h1,if_neg (by omega)]
  conv=>rhs;rw [hx]
  rw [Nat.testBit_two_pow_mul_add _ hlt,if_pos h1]
 ·rw [if_neg h1]
  by_cases h2:k=i
  ·subst h2
   rw [if_pos rfl,Nat.sub_self,Nat.testBit_zero]
   have e:x.testBit k=decide (x/2^k%2=1):=by rw [Nat.testBit_eq_decide_div_mod_eq]
   rw [e]
   rcases Nat.mod_two_eq_zero_or_one (x/2^k) with h | h <;> rw [h] <;> simp <;> omega
  ·rw [if_neg h2]
   obtain⟨m,rfl⟩:∃m,k=i+(m+1):=⟨k-i-1,by omega⟩
   rw [show i+(m+1)-i=m+1 from by omega,Nat.testBit_succ]
   have e:(2*(x/2^i/2)+(1-x/2^i%2))/2=x/2^i/2:=by omega
   rw [e]
   conv=>rhs;rw [hx]
   rw [Nat.testBit_two_pow_mul_add _ hlt,if_neg (by omega),show i+(m+1)-i=m+1 from by omega,Nat.testBit_succ]
theorem aiK {x:Nat}(hx:x<4294967296) {i:Nat}(hi:i<32):∃y:Nat,t62 (x:Int) (i:Int)=some (y:Int)∧y<4294967296∧∀k,y.testBit k=if k=i then !(x.testBit i) else x.testBit k:=by
 have hp:=H7 hi
 refine⟨2^i*(2*(x/2^i/2)+(1-x/2^i%2))+x%2^i,?_,?_,fun k=>UC x i k⟩
 ·have e:x=2^i*(x/2^i)+x%2^i:=(Nat.div_add_mod x (2^i)).symm
  unfold t62
  simp only [F2,kS,AQ hi,Po i (by omega),yY hx hi,yC,s_ hx]
  rcases Nat.mod_two_eq_zero_or_one (x/2^i) with h | h
  ·rw [h]
   have e2:2^i*(2*(x/2^i/2)+(1-0))+x%2^i=x+2^i:=by
    rw [show 2*(x/2^i/2)=x/2^i from by omega,Nat.mul_add,Nat.mul_one];omega
   rw [e2,show decide ((((0:Nat):Int))=1)=false from rfl,kX]
   rw [lP _ (by omega) (by omega)];simp
  ·rw [h]
   have e2:2^i*(2*(x/2^i/2)+(1-1))+x%2^i+2^i=x:=by
    have:x/2^i=2*(x/2^i/2)+1:=by omega
    rw [Nat.sub_self,Nat.add_zero]
    rw [this,Nat.mul_add,Nat.mul_one] at e
    omega
   rw [show decide ((((1:Nat):Int))=1)=true from rfl,lD]
   generalize 2^i*(2*(x/2^i/2)+(1-1))+x%2^i=y at e2 ⊢
   rw [lP _ (by omega) (by omega)]
   simp only [aa9];omega
 ·have hpi:0<2^i:=Nat.pow_pos (by decide)
  have hq:2^i*(2*2^(31-i))=4294967296:=by rw [Nat.mul_left_comm,←Nat.pow_add,show i+(31-i)=31 from by omega]
  have hA:x/2^i<2*2^(31-i):=by
   rw [Nat.div_lt_iff_lt_mul hpi,Nat.mul_comm,hq];exact hx
  have hC:x%2^i<2^i:=aq2 _ hpi
  have hu:2*(x/2^i/2)+(1-x/2^i%2)+1≤2*2^(31-i):=by
   generalize 2^(31-i)=p at hA ⊢
   generalize x/2^i=u at hA ⊢
   omega
  have:=Nat.mul_le_mul_left (2^i) hu
  rw [hq,Nat.mul_add,Nat.mul_one] at this
  omega
theorem XF {d f:Nat}(hd:d<4294967296) (hf:f<4294967296) (a m:Nat) (hm:a+m≤32):∃V:Nat,t109 (d:Int) (f:Int) (a:Int) (m:Int)=some (V:Int)∧G_ d f a m V:=by
 have key:∀n j:Nat,j+n=m→∀U:Nat,G_ d f a j U→∃V:Nat,rX (yU (f:Int) (a:Int) (m:Int)) ((U:Int),(j:Int))=some (.x 0,(V:Int),(m:Int))∧G_ d f a m V:=by
  intro n
  induction n with
  | zero =>
   intro j hj U hU
   obtain rfl:j=m:=by omega
   refine⟨U,mV ?_ (by simp),hU⟩
   simp [yU]
  | succ n ih =>
   intro j hj U hU
   have h0:((j:Int)<(m:Int)):=by omega
   have e1:IntKind.i64.wrap ((a:Int)+(j:Int))=((a+j:Nat):Int):=by rw [lP _ (by omega) (by omega)];simp
   have e2:IntKind.i64.wrap ((j:Int)+1)=((j+1:Nat):Int):=by rw [lP _ (by omega) (by omega)];simp
   have hb:U.testBit (a+j)=d.testBit (a+j):=by rw [hU.2 _ (by omega),if_neg (by omega)]
   have fin:∀W:Nat,W<4294967296→(∀k,k<32→W.testBit k=if k=a+j then f.testBit j else U.testBit k)→G_ d f a (j+1) W:=by
    intro W hW h
    refine⟨hW,fun k hk=>?_⟩
    rw [h k hk]
    by_cases hk2:k=a+j
    ·subst hk2;rw [if_pos rfl,if_pos (by omega),show a+j-a=j from by omega]
    ·rw [if_neg hk2,hU.2 k hk]
     by_cases hk3:a≤k∧k<a+j
     ·rw [if_pos hk3,if_pos (by omega)]
     ·rw [if_neg hk3,if_neg (by omega)]
   by_cases hbit:U.testBit (a+j)=f.testBit j
   ·have hI:G_ d f a (j+1) U:=fin U hU.1 fun k _=>by
     by_cases hk:k=a+j
     ·subst hk;rw [if_pos rfl,hbit]
     ·rw [if_neg hk]
    obtain⟨V,h1,h2⟩:=ih (j+1) (by omega) U hI
    refine⟨V,?_,h2⟩
    rw [oB (s':=((U:Int),((j+1:Nat):Int)))]
    ·exact h1
    ·simp only [yU,h0,decide_true,lD,e1,e2,yY hU.1 (show a+j<32 by omega),yY hf (show j<32 by omega),kS,FI,hbit,Ec,Bool.not_true,kX]
   ·obtain⟨y,h3,h4,h5⟩:=aiK hU.1 (show a+j<32 by omega)
    have hI:G_ d f a (j+1) y:=fin y h4 fun k _=>by
     rw [h5]
     by_cases hk:k=a+j
     ·subst hk;rw [if_pos rfl,if_pos rfl]
      revert hbit;cases U.testBit (a+j) <;> cases f.testBit j <;> simp
     ·rw [if_neg hk,if_neg hk]
    obtain⟨V,h1,h2⟩:=ih (j+1) (by omega) y hI
    refine⟨V,?_,h2⟩
    have hne:¬(((U.testBit (a+j)).toNat:Nat):Int)=(((f.testBit j).toNat:Nat):Int):=by
     revert hbit;cases U.testBit (a+j) <;> cases f.testBit j <;> simp
    rw [oB (s':=((y:Int),((j+1:Nat):Int)))]
    ·exact h1
    ·simp only [yU,h0,decide_true,lD,e1,e2,yY hU.1 (show a+j<32 by omega),yY hf (show j<32 by omega),kS,FI,hne,decide_false,Ec,Bool.not_false,h3]
 obtain⟨V,h1,h2⟩:=key m 0 (by omega) d ⟨hd,fun k hk=>by rw [if_neg (by omega)]⟩
 refine⟨V,?_,h2⟩
 unfold t109
 have e:((0:Nat):Int)=0:=rfl
 rw [e] at h1
 rw [h1]
 simp [uL,vO]
theorem N_ {x y:Nat}(hx:x<4294967296) (hy:y<4294967296):∃z:Nat,Jc .i64 (x:Int) (y:Int)=(z:Int)∧z<4294967296∧∀k,z.testBit k=(x.testBit k&&!(y.testBit k)):=by
 have hz:(BitVec.ofInt 64 (x:Int) &&& ~~~ BitVec.ofInt 64 (y:Int)).toNat=x &&& (18446744073709551616-(y+1)):=by
  rw [BitVec.toNat_and,BitVec.toNat_not,zU,zU,show((x:Int)%18446744073709551616).toNat=x from by omega,show((y:Int)%18446744073709551616).toNat=y from by omega,Nat.sub_sub,Nat.add_comm 1 y]
 have hle:x &&& (18446744073709551616-(y+1))≤x:=Nat.and_le_left
 refine⟨x &&& (18446744073709551616-(y+1)),?_,by omega,fun k=>?_⟩
 ·unfold Jc
  rw [show IntKind.i64.bits=64 from rfl,hz,lP _ (by omega) (by omega)]
 ·rw [Nat.testBit_and,show 18446744073709551616-(y+1)=2^64-(y+1) from rfl,Nat.testBit_two_pow_sub_succ (show y<2^64 by omega)]
  by_cases hk:k<64
  ·simp [hk]
  ·have hp:2^32≤2^k:=al2 (by decide) (by omega)
   rw [Nat.testBit_lt_two_pow (Nat.lt_of_lt_of_le (CE hx) hp)];simp
theorem S5 {d f:Nat}(hd:d<4294967296) (hf:f<4294967296) (a m:Nat) (hm:a+m≤32) (hm1:1≤m):∃V:Nat,t122 (d:Int) (f:Int) (a:Int) (m:Int)=some (V:Int)∧G_ d f a m V:=by
 have ha:a<32:=by omega
 have hpm:2^m≤4294967296:=by
  have:2^m≤2^32:=al2 (by decide) (by omega)
  simpa using this
 have hpm0:0<2^m:=Nat.pow_pos (by decide)
 have hM:(2^m-1)*2^a<4294967296:=by
  have h1:2^m*2^a≤2^32:=by rw [←Nat.pow_add];exact al2 (by decide) (by omega)
  have h2:0<2^a:=Nat.pow_pos (by decide)
  rw [Nat.sub_mul,Nat.one_mul]
  have h3:2^a≤2^m*2^a:=Nat.le_mul_of_pos_left _ hpm0
  omega
 have e1:qP .i64 1 (m:Int)=some ((2^m:Nat):Int):=by
  unfold qP
  rw [if_neg (by omega),show min ((m:Int).toNat) IntKind.i64.bits=m from by simp [IntKind.bits];omega,Int.one_mul,oQ]
  rw [lP _ (by omega) (by omega)]
 have e2:IntKind.i64.wrap (((2^m:Nat):Int)-1)=((2^m-1:Nat):Int):=by
  generalize 2^m=q at hpm hpm0 ⊢
  rw [lP _ (by omega) (by omega)];omega
 have e3:qP .i64 ((2^m-1:Nat):Int) (a:Int)=some (((2^m-1)*2^a:Nat):Int):=by
  unfold qP
  rw [if_neg (by omega),show min ((a:Int).toNat) IntKind.i64.bits=a from by simp [IntKind.bits];omega,oQ,←Int.natCast_mul]
  generalize (2^m-1)*2^a=q at hM ⊢
  rw [lP _ (by omega) (by omega)]
 have hS:f*2^a%4294967296<4294967296:=aq2 _ (by decide)
 generalize hMq:(2^m-1)*2^a=M at hM e3
 generalize hSq:f*2^a%4294967296=S at hS
 obtain⟨z,z1,z2,z3⟩:=N_ hd hM
 have e4:rC .i64 (S:Int) (M:Int)=((S &&& M:Nat):Int):=by
  have hl:S &&& M≤M:=Nat.and_le_right
  unfold rC
  rw [show IntKind.i64.bits=64 from rfl,BitVec.toNat_and,zU,zU,show((S:Int)%18446744073709551616).toNat=S from by omega,show((M:Int)%18446744073709551616).toNat=M from by omega,lP _ (by omega) (by omega)]
 have hSM:S &&& M<4294967296:=Nat.lt_of_le_of_lt Nat.and_le_right hM
 refine⟨(S &&& M) ||| z,?_,Nat.or_lt_two_pow (CE hSM) (CE z2),fun k hk=>?_⟩
 ·unfold t122
  rw [e1,kS,e2,e3,kS,Ac,kS,s_ hM,XL hf ha,kS,hSq]
  unfold t142
  rw [e4,z1,S9 hSM z2];rfl
 ·have hMb:M.testBit k=decide (a≤k∧k<a+m):=by
   rw [←hMq,Nat.testBit_mul_two_pow,Nat.testBit_two_pow_sub_one]
   by_cases h:a≤k <;> simp [h]
   omega
  have hSb:a≤k→S.testBit k=f.testBit (k-a):=by
   intro h
   rw [←hSq,show(4294967296:Nat)=2^32 from rfl,Nat.testBit_mod_two_pow,Nat.testBit_mul_two_pow]
   simp [hk,h]
  rw [Nat.testBit_or,Nat.testBit_and,z3,hMb]
  by_cases h:a≤k∧k<a+m
  ·rw [if_pos h,hSb h.1];simp [h]
  ·rw [if_neg h];simp [h]
theorem Wf {d f V:Nat}(hf:f<65536) (h:G_ d f 16 16 V):V=d%65536+65536*f:=by
 refine h.uniq ⟨by omega,fun i hi=>?_⟩
 rw [show d%65536+65536*f=2^16*f+d%2^16 from by omega,Nat.testBit_two_pow_mul_add _ (aq2 _ (by decide)),Nat.testBit_mod_two_pow]
 by_cases h:i<16
 ·rw [if_pos h,if_neg (by omega)];simp [h]
 ·rw [if_neg h,if_pos (by omega)]
end
noncomputable section
open Go Hk
def Ms (K:kT) (m:Nat) (s:List kN×kO):Option R :=
 X1 s fun aB aD aC aA aE=>aq .lss aA (15:Int) ((oI false 15 1 aC aA).bind fun aH=>zE K 36 aH aE fun t13 aF=>(kQ 0 aB).bind fun t15=>(lQ 15 1 t15 aA).bind fun t16=>(kR 1 aF t16 t13).bind fun aG=>(lF .add aA (1:Int)).bind fun t18=>kZ m .normal [aB,aD,aC,t18] aG) (kZ m (.exit 0) [aB,aD,aC,aA] aE)
def m81 (K:kT) (a0:kN) (h0:kO):OH :=
 (kW (lR 20 h0 a0) fun t0 h1=>kW (lR 20 h1 (.agg [zO,zO,zO,zO,zO,zO,zO,zO,zO,zO,zO,zO,zO,zO,zO,zO,false,false,false,false])) fun t2 h3=>(kQ 0 t0).bind fun t4=>(kY true 15 h3 t4).bind fun t5=>(nP (Ms K (aa5 h3)) ([t0,t2,t5,zO],h3)).bind fun aG=>X1 aG.2 fun aA aB aH aI aD=>Ex.l_ aG.1 none (fun e20=>Ex.inBlock 0 e20 (fq 15 aA aD fun aM=>zE K 36 aM aD fun t29 aK=>(kQ 15 aA).bind fun t31=>(kR 1 aK t31 t29).bind fun aE=>(kY true 20 aE aA).bind fun t33=>(kR 20 aE aB t33).bind fun aL=>some (.ret,[aB],aL)) (fun aJ=>some (aJ,[aB],aD)))).bind fun tB=>Jr tB.2 fun aC aF=>Ex.oH tB.1 ((kY true 20 aF aC).bind fun t38=>oM (aa5 h0) t38 aF)
theorem ak8 K a0 h0:nN K 81 [a0] h0=m81 (lG mJ K) a0 h0:=by kernel_rfl
def Bk (K:kT) (a0 a1:kN) (h0:kO):OH :=
 (kW (lR 20 h0 a0) fun t0 h1=>(lF .lss a1 zO).bind fun t2=>nI false t2 (some a1) h1 fun t3 h4=>nI false t2 (lF .gtr t3 (13:Int)) h4 fun t6 h7=>(lH t2 true t6).bind fun t8=>kV t8 (some (.ret,[false],h7)) ((lF .shr a1 (.int .u64 1)).bind fun t9=>(lF .eql t9 zO).bind fun t10=>(kV t10 (fq 17 t0 h7 fun bS=>kZ (aa5 h7) .normal [a1,false,bS] h7) ((lF .eql t9 (1:Int)).bind fun t13=>(kV t13 (fq 18 t0 h7 fun t15=>kZ (aa5 h7) .normal [a1,false,t15] h7) ((lF .eql t9 (2:Int)).bind fun t16=>(kV t16 (fq 16 t0 h7 fun t18=>kZ (aa5 h7) .normal [a1,false,t18] h7) ((lF .eql t9 (3:Int)).bind fun bT=>(kV bT (fq 19 t0 h7 fun bU=>kZ (aa5 h7) .normal [a1,false,bU] h7) ((lF .eql t9 (4:Int)).bind fun bV=>(kV bV (fq 18 t0 h7 fun t24=>nI true t24 (kQ 17 t0) h7 fun bW aX=>nI true t24 (kY false 1 aX bW) aX fun t29 bG=>nI true t24 (vN .not t29) bG fun t32 bH=>(lH t24 t32 false).bind fun bX=>kZ (aa5 h7) .normal [a1,false,bX] bH) ((lF .eql t9 (5:Int)).bind fun t35=>(kV t35 (fq 16 t0 h7 fun bY=>fq 19 t0 h7 fun bZ=>(xF .eql bY bZ).bind fun b_=>kZ (aa5 h7) .normal [a1,false,b_] h7) ((lF .eql t9 (6:Int)).bind fun cA=>(kV cA (fq 17 t0 h7 fun cB=>(vN .not cB).bind fun aB=>nI true aB (kQ 16 t0) h7 fun t46 aY=>nI true aB (kY false 1 aY t46) aY fun t49 bI=>nI true aB (kQ 19 t0) bI fun t52 aZ=>nI true aB (kY false 1 aZ t52) aZ fun t55 bJ=>nI true aB (xF .eql t49 t55) bJ fun cC bK=>(lH aB cC false).bind fun cD=>kZ (aa5 h7) .normal [a1,false,cD] bK) (kZ (aa5 h7) .normal [a1,false,false] h7)).bind fun a_=>Js a_.2 fun aC aJ aP bL=>Ex.pR a_.1 (kZ (aa5 h7) .normal [aC,aJ,aP] bL))).bind fun Xd=>Js Xd.2 fun aD aK aQ bM=>Ex.pR Xd.1 (kZ (aa5 h7) .normal [aD,aK,aQ] bM))).bind fun r71=>Js r71.2 fun aE aL aR bN=>Ex.pR r71.1 (kZ (aa5 h7) .normal [aE,aL,aR] bN))).bind fun PF=>Js PF.2 fun aF aM aS bO=>Ex.pR PF.1 (kZ (aa5 h7) .normal [aF,aM,aS] bO))).bind fun bA=>Js bA.2 fun aG aN aT bP=>Ex.pR bA.1 (kZ (aa5 h7) .normal [aG,aN,aT] bP))).bind fun bB=>Js bB.2 fun aH aO aU bQ=>Ex.pR bB.1 (kZ (aa5 h7) .normal [aH,aO,aU] bQ))).bind fun bD=>Js bD.2 fun aI bF aV bR=>Ex.pR bD.1 ((lF .and aI (1:Int)).bind fun t96=>(lF .eql t96 zO).bind fun t97=>(xF .eql aV t97).bind fun t98=>some (.ret,[t98],bR)))).bind fun bE=>Jr bE.2 fun aA aW=>Ex.oH bE.1 (oM (aa5 h0) aA aW)
theorem ZW K a0 a1 h0:nN K 120 [a0,a1] h0=Bk (lG mJ K) a0 a1 h0:=by kernel_rfl
def m58 (K:kT) (a0 a1:kN) (h0:kO):OH :=
 (kW (lR 20 h0 a0) fun t0 h1=>kW (lR 8 h1 a1) fun t2 h3=>kW (lR 4 h3 (.agg [zO,zO,zO,false])) fun t4 h5=>(kY true 8 h5 t2).bind fun t6=>zE K 80 t6 h5 fun t7 h8=>aq .neq t7 zO ((lB [zO,zO,zO,false] [(0,1),(1,1),(2,1),(3,1)] []).bind fun t10=>(kR 4 h8 t4 t10).bind fun bE=>some (.ret,[t4,false],bE)) ((kY true 20 h8 t0).bind fun bO=>zE K 81 bO h8 fun t13 bF=>(kR 20 bF t0 t13).bind fun aR=>fq 2 t2 aR fun t17=>(kQ 0 t0).bind fun t18=>(lQ 15 1 t18 t17).bind fun bP=>(kY false 1 aR bP).bind fun bQ=>(lB [zO,zO,zO,false] [(0,1),(1,1),(2,1),(3,1)] [(0,bQ),(1,(4:Int))]).bind fun bR=>kW (lR 4 aR (.agg [zO,zO,zO,false])) fun aB bG=>(kR 4 bG aB bR).bind fun aA=>fq 0 t2 aA fun aQ=>((lF .eql aQ (19:Int)).bind fun t27=>(kV t27 (kZ (aa5 aA) .normal [t4,false,aB] aA) ((lF .eql aQ (21:Int)).bind fun bS=>(kV bS ((kQ 1 aB).bind fun t29=>(kR 1 aA t29 (1:Int)).bind fun bH=>kZ (aa5 aA) .normal [t4,false,aB] bH) ((lF .eql aQ (20:Int)).bind fun t31=>(kV t31 ((kQ 1 t2).bind fun t32=>(kY false 1 aA t32).bind fun t33=>(kQ 0 t0).bind fun bT=>(lQ 15 1 bT t33).bind fun t35=>(kY false 1 aA t35).bind fun t36=>(kQ 3 aB).bind fun bU=>(kR 1 (oR (lA [0,1] [t32,t35]) aA) bU true).bind fun bI=>(kQ 2 aB).bind fun bV=>(kR 1 (lO (lA [0,1] [t32,t35]) aA bI) bV t36).bind fun bJ=>kZ (aa5 aA) .normal [t4,false,aB] bJ) (aq .eql aQ (22:Int) ((kQ 1 t2).bind fun t42=>(kY false 1 aA t42).bind fun bW=>(kQ 0 t0).bind fun bX=>(lQ 15 1 bX bW).bind fun t45=>(kY false 1 aA t45).bind fun t46=>(lF .and t46 (255:Int)).bind fun bY=>(kQ 3 aB).bind fun t48=>(kR 1 (oR (lA [0,1] [t42,t45]) aA) t48 true).bind fun aT=>(kQ 1 aB).bind fun bZ=>(kR 1 (oR (lA [0,1] [t42,t45]) (lO (lA [0,1] [t42,t45]) aA aT)) bZ (1:Int)).bind fun bK=>(kQ 2 aB).bind fun t52=>(kR 1 (lO (lA [0,1] [t42,t45]) (lO (lA [0,1] [t42,t45]) aA aT) bK) t52 bY).bind fun bL=>kZ (aa5 aA) .normal [t4,false,aB] bL) ((lB [zO,zO,zO,false] [(0,1),(1,1),(2,1),(3,1)] []).bind fun t54=>(kR 4 aA t4 t54).bind fun bM=>kZ (aa5 aA) .ret [t4,false,aB] bM))).bind fun aY=>Js aY.2 fun aD aG aJ aU=>Ex.l_ aY.1 (kZ (aa5 aA) .normal [aD,aG,aJ] aU) (fun a_=>kZ (aa5 aA) a_ [aD,aG,aJ] aU))).bind fun F0=>Js F0.2 fun aE aH aK aV=>Ex.l_ F0.1 (kZ (aa5 aA) .normal [aE,aH,aK] aV) (fun bA=>kZ (aa5 aA) bA [aE,aH,aK] aV))).bind fun JT=>Js JT.2 fun aF aI aL aW=>Ex.l_ JT.1 (kZ (aa5 aA) .normal [aF,aI,aL] aW) (fun bB=>kZ (aa5 aA) bB [aF,aI,aL] aW)).bind fun r74=>Js r74.2 fun aC aN aP aS=>Ex.inBlock 0 r74.1 ((kY true 4 aS aP).bind fun t80=>(kR 4 aS aC t80).bind fun bN=>some (.ret,[aC,true],bN)) (fun bD=>some (bD,[aC,aN],aS)))).bind fun aZ=>F3 aZ.2 fun aM aO aX=>Ex.oH aZ.1 ((kY true 4 aX aM).bind fun b_=>oM (aa5 h0) (.tuple [b_,aO]) aX)
theorem akL K a0 a1 h0:nN K 58 [a0,a1] h0=m58 (lG mJ K) a0 a1 h0:=by kernel_rfl
def avC (K:kT) (a0 a1 a2:kN) (h0:kO):OH :=
 (kW (lR 20 h0 a0) fun t0 h1=>kW (lR 20 h1 (.agg [zO,zO,zO,zO,zO,zO,zO,zO,zO,zO,zO,zO,zO,zO,zO,zO,false,false,false,false])) fun t2 h3=>yG K 149 a1 a2 h3 fun t4 h5=>yG K 151 t4 (31:Int) h5 fun t6 h7=>(lF .eql t6 (1:Int)).bind fun t8=>(kQ 16 t0).bind fun t9=>(kR 1 h7 t9 t8).bind fun aE=>(lF .eql t4 zO).bind fun aM=>(kQ 17 t0).bind fun aN=>(kR 1 aE aN aM).bind fun aF=>(lF .geq a1 a2).bind fun t14=>(kQ 18 t0).bind fun t15=>(kR 1 aF t15 t14).bind fun aG=>yG K 77 a1 a2 aG fun t17 aH=>yG K 77 a1 t4 aH fun aO aI=>yG K 147 t17 aO aI fun aP aJ=>yG K 151 aP (31:Int) aJ fun aQ aK=>(lF .eql aQ (1:Int)).bind fun aR=>(kQ 19 t0).bind fun aS=>(kR 1 aK aS aR).bind fun aB=>(kY true 20 aB t0).bind fun aT=>(kR 20 aB t2 aT).bind fun aL=>some (.ret,[t2],aL)).bind fun aD=>Jr aD.2 fun aA aC=>Ex.oH aD.1 ((kY true 20 aC aA).bind fun t33=>oM (aa5 h0) t33 aC)
theorem Z3 K a0 a1 a2 h0:nN K 127 [a0,a1,a2] h0=avC (lG mJ K) a0 a1 a2 h0:=by kernel_rfl
def yH (K:kT) (a0 a1 a2:kN) (h0:kO):OH :=
 (kW (lR 20 h0 a0) fun t0 h1=>kW (lR 8 h1 a1) fun t2 h3=>kW (lR 20 h3 (.agg [zO,zO,zO,zO,zO,zO,zO,zO,zO,zO,zO,zO,zO,zO,zO,zO,false,false,false,false])) fun t4 h5=>fq 2 t2 h5 fun t7=>(kQ 0 t0).bind fun t8=>(lQ 15 1 t8 t7).bind fun t9=>(kY false 1 h5 t9).bind fun t10=>fq 3 t2 h5 fun gB=>(kQ 0 t0).bind fun t13=>(lQ 15 1 t13 gB).bind fun t14=>(kY false 1 h5 t14).bind fun t15=>fq 0 t2 h5 fun t17=>((aq .eql t17 (3:Int) (fq 1 t2 h5 fun gC=>fq 5 t2 h5 fun gD=>(kQ 0 t0).bind fun gE=>(lQ 15 1 gE gC).bind fun t24=>(kR 1 h5 t24 gD).bind fun fT=>kZ (aa5 h5) (.exit 0) [a2,t0,t2,t4,t10,t15] fT) (aq .eql t17 (4:Int) ((kQ 1 t2).bind fun t27=>(kY false 1 h5 t27).bind fun gF=>fq 1 t2 h5 fun gG=>(kQ 0 t0).bind fun t31=>(lQ 15 1 t31 gG).bind fun t32=>(kY false 1 h5 t32).bind fun t33=>fq 5 t2 h5 fun t35=>(kQ 0 t0).bind fun t36=>Ym K 122 t33 t35 (16:Int) (16:Int) (oR (lA [0] [t27]) h5) fun gH fU=>(lQ 15 1 t36 gF).bind fun gI=>(kR 1 (lO (lA [0] [t27]) h5 fU) gI gH).bind fun fV=>kZ (aa5 h5) (.exit 0) [a2,t0,t2,t4,t10,t15] fV) ((lF .eql t17 (5:Int)).bind fun fQ=>(kV fQ (kZ (aa5 h5) .normal [a2,t0,t2,t4,t10,t15,t17,fQ] h5) ((lF .eql t17 (6:Int)).bind fun t42=>(kV t42 (kZ (aa5 h5) .normal [a2,t0,t2,t4,t10,t15,t17,t42] h5) ((lF .eql t17 (7:Int)).bind fun fR=>(kV fR (kZ (aa5 h5) .normal [a2,t0,t2,t4,t10,t15,t17,fR] h5) ((lF .eql t17 (8:Int)).bind fun gJ=>kZ (aa5 h5) .normal [a2,t0,t2,t4,t10,t15,t17,gJ] h5)).bind fun U7=>PH U7.2 fun dG dI dK dM dO dQ bM bO fW=>Ex.pR U7.1 (kZ (aa5 h5) .normal [dG,dI,dK,dM,dO,dQ,bM,bO] fW))).bind fun Na=>PH Na.2 fun dH dJ dL dN dP dR bN bP fX=>Ex.pR Na.1 (kZ (aa5 h5) .normal [dH,dJ,dL,dN,dP,dR,bN,bP] fX))).bind fun r65=>PH r65.2 fun aM aH aG aN aO aI aA bQ aP=>Ex.pR r65.1 (kV bQ ((kQ 1 aG).bind fun t75=>(kY false 1 aP t75).bind fun t76=>fq 0 aG aP fun t78=>fq 5 aG aP fun t80=>(kQ 0 aH).bind fun gK=>AP K 123 t78 aI t80 (oR (lA [0] [t75]) aP) fun gL fY=>(lQ 15 1 gK t76).bind fun gM=>(kR 1 (lO (lA [0] [t75]) aP fY) gM gL).bind fun fZ=>kZ (aa5 h5) (.exit 0) [aM,aH,aG,aN,aO,aI] fZ) (aq .eql aA (9:Int) ((kQ 1 aG).bind fun t87=>(kY false 1 aP t87).bind fun t88=>(kQ 0 aH).bind fun t89=>zE K 27 aI (oR (lA [0] [t87]) aP) fun t90 f_=>(lQ 15 1 t89 t88).bind fun t92=>(kR 1 (lO (lA [0] [t87]) aP f_) t92 t90).bind fun gA=>kZ (aa5 h5) (.exit 0) [aM,aH,aG,aN,aO,aI] gA) ((lF .eql aA (10:Int)).bind fun t94=>(kV t94 (kZ (aa5 aP) .normal [aM,aH,aG,aN,aO,aI,aA,t94] aP) ((lF .eql aA (11:Int)).bind fun t95=>(kV t95 (kZ (aa5 aP) .normal [aM,aH,aG,aN,aO,aI,aA,t95] aP) ((lF .eql aA (12:Int)).bind fun t96=>(kV t96 (kZ (aa5 aP) .normal [aM,aH,aG,aN,aO,aI,aA,t96] aP) ((lF .eql aA (13:Int)).bind fun t97=>(kV t97 (kZ (aa5 aP) .normal [aM,aH,aG,aN,aO,aI,aA,t97] aP) ((lF .eql aA (14:Int)).bind fun t98=>(kV t98 (kZ (aa5 aP) .normal [aM,aH,aG,aN,aO,aI,aA,t98] aP) ((lF .eql aA (15:Int)).bind fun fS=>(kV fS (kZ (aa5 aP) .normal [aM,aH,aG,aN,aO,aI,aA,fS] aP) ((lF .eql aA (16:Int)).bind fun t100=>kZ (aa5 aP) .normal [aM,aH,aG,aN,aO,aI,aA,t100] aP)).bind fun DW=>PH DW.2 fun bR bX cC cI cO cV aW bA dW=>Ex.pR DW.1 (kZ (aa5 aP) .normal [bR,bX,cC,cI,cO,cV,aW,bA] dW))).bind fun dC=>PH dC.2 fun bS bY cD cJ cP cW aX bB dX=>Ex.pR dC.1 (kZ (aa5 aP) .normal [bS,bY,cD,cJ,cP,cW,aX,bB] dX))).bind fun WR=>PH WR.2 fun bT bZ cE cK cQ cX aY bD dY=>Ex.pR WR.1 (kZ (aa5 aP) .normal [bT,bZ,cE,cK,cQ,cX,aY,bD] dY))).bind fun xA=>PH xA.2 fun bU b_ cF cL cR cY aZ bE dZ=>Ex.pR xA.1 (kZ (aa5 aP) .normal [bU,b_,cF,cL,cR,cY,aZ,bE] dZ))).bind fun M7=>PH M7.2 fun bV cA cG cM cS cZ a_ bF d_=>Ex.pR M7.1 (kZ (aa5 aP) .normal [bV,cA,cG,cM,cS,cZ,a_,bF] d_))).bind fun wU=>PH wU.2 fun aJ aC aB aK aD aF aL bG aE=>Ex.pR wU.1 (kV bG ((kQ 1 aB).bind fun bJ=>(kY false 1 aE bJ).bind fun eL=>fq 0 aB aE fun eM=>(kQ 0 aC).bind fun eN=>AP K 124 eM aD aF (oR (lA [0] [bJ]) aE) fun eO eA=>(lQ 15 1 eN eL).bind fun eP=>(kR 1 (lO (lA [0] [bJ]) aE eA) eP eO).bind fun eB=>kZ (aa5 h5) (.exit 0) [aJ,aC,aB,aK,aD,aF] eB) (aq .eql aL (17:Int) ((kQ 1 aB).bind fun aT=>(kY false 1 aE aT).bind fun eQ=>(kQ 4 aB).bind fun aR=>(kY false 1 aE aR).bind fun eR=>(kQ 0 aC).bind fun eS=>(kQ 0 aC).bind fun eT=>yG K 125 aD aF (oR (lA [0,1] [aT,aR]) aE) fun eU bH=>(lQ 15 1 eS eQ).bind fun eV=>yG K 126 aD aF (oR (lA [0,1] [aT,aR]) (lO (lA [0,1] [aT,aR]) aE bH)) fun eW dA=>(kR 1 (oR (lA [0] [aR]) (lO (lA [0,1] [aT,aR]) (lO (lA [0,1] [aT,aR]) aE bH) dA)) eV eU).bind fun eC=>(lQ 15 1 eT eR).bind fun eX=>(kR 1 (lO (lA [0] [aR]) (lO (lA [0,1] [aT,aR]) (lO (lA [0,1] [aT,aR]) aE bH) dA) eC) eX eW).bind fun eD=>kZ (aa5 h5) (.exit 0) [aJ,aC,aB,aK,aD,aF] eD) (aq .eql aL (18:Int) ((kQ 1 aB).bind fun bK=>(kY false 1 aE bK).bind fun eY=>fq 1 aB aE fun eZ=>(kQ 0 aC).bind fun e_=>(lQ 15 1 e_ eZ).bind fun fA=>(kY false 1 aE fA).bind fun fB=>fq 5 aB aE fun fC=>fq 4 aB aE fun fD=>(kQ 0 aC).bind fun fE=>Ym K 122 fB aD fC fD (oR (lA [0] [bK]) aE) fun fF eE=>(lQ 15 1 fE eY).bind fun fG=>(kR 1 (lO (lA [0] [bK]) aE eE) fG fF).bind fun eF=>kZ (aa5 h5) (.exit 0) [aJ,aC,aB,aK,aD,aF] eF) (aq .eql aL (21:Int) ((lF .and aJ (255:Int)).bind fun fH=>kZ (aa5 h5) .normal [fH,aC,aB,aK,aD,aF] aE) (aq .eql aL (19:Int) (kZ (aa5 h5) (.exit 9) [aJ,aC,aB,aK,aD,aF] aE) (aq .eql aL (23:Int) (kZ (aa5 h5) (.exit 10) [aJ,aC,aB,aK,aD,aF] aE) (kZ (aa5 h5) (.exit 0) [aJ,aC,aB,aK,aD,aF] aE))))))))))))).bind fun dD=>Vd dD.2 fun bW aQ cH aS cU c_ aV=>Ex.inBlock 9 dD.1 ((kQ 1 cH).bind fun bL=>(kY false 1 aV bL).bind fun fI=>(kQ 0 aQ).bind fun fJ=>zE K 36 bW (oR (lA [0] [bL]) aV) fun fK eG=>(lQ 15 1 fJ fI).bind fun fL=>(kR 1 (lO (lA [0] [bL]) aV eG) fL fK).bind fun eH=>kZ (aa5 h5) (.exit 0) [aQ,aS] eH) (fun dS=>Ex.inBlock 10 dS ((kY true 20 aV aQ).bind fun fM=>AP K 127 fM cU c_ aV fun fN eI=>(kR 20 eI aS fN).bind fun eJ=>kZ (aa5 h5) .ret [aQ,aS] eJ) (fun dU=>kZ (aa5 h5) dU [aQ,aS] aV))).bind fun dE=>F3 dE.2 fun cB aU bI=>Ex.inBlock 0 dE.1 ((kY true 20 bI cB).bind fun fO=>(kR 20 bI aU fO).bind fun eK=>some (.ret,[aU],eK)) (fun dV=>some (dV,[aU],bI))).bind fun dF=>Jr dF.2 fun cN dB=>Ex.oH dF.1 ((kY true 20 dB cN).bind fun fP=>oM (aa5 h0) fP dB)
theorem alD K a0 a1 a2 h0:nN K 86 [a0,a1,a2] h0=yH (lG mJ K) a0 a1 a2 h0:=by kernel_rfl
def m84 (K:kT) (a0 a1:kN) (h0:kO):OH :=
 (kW (lR 20 h0 a0) fun t0 h1=>kW (lR 8 h1 a1) fun t2 h3=>fq 0 t2 h3 fun t5=>(lF .eql t5 (24:Int)).bind fun t6=>nI false t6 (kQ 0 t2) h3 fun t8 h9=>nI false t6 (kY false 1 h9 t8) h9 fun aL aE=>nI false t6 (lF .eql aL (25:Int)) aE fun t14 aF=>nI false t6 (some t14) aF fun t16 aB=>nI true t16 (kY true 20 aB t0) aB fun aM aG=>nI true t16 (kQ 6 t2) aG fun aN aC=>nI true t16 (kY false 1 aC aN) aC fun aO aD=>gq true t16 (lW (Yp K 120 aM aO aD) (fun t27 aH=>lI t27 aH) Gg) aD fun t29 aI=>nI false t6 (lH t16 t29 false) aI fun t32 aJ=>(lH t6 true t32).bind fun aP=>some (.ret,[aP],aJ)).bind fun tB=>Jr tB.2 fun aA aK=>Ex.oH tB.1 (oM (aa5 h0) aA aK)
theorem alB K a0 a1 h0:nN K 84 [a0,a1] h0=m84 (lG mJ K) a0 a1 h0:=by kernel_rfl
def m61 (K:kT) (a0 a1 a2:kN) (h0:kO):OH :=
 (kW (lR 20 h0 a0) fun t0 h1=>kW (lR 8 h1 a1) fun t2 h3=>kW (lR 20 h3 (.agg [zO,zO,zO,zO,zO,zO,zO,zO,zO,zO,zO,zO,zO,zO,zO,zO,false,false,false,false])) fun t4 h5=>(kY true 20 h5 t0).bind fun t6=>zE K 81 t6 h5 fun t7 h8=>(kR 20 h8 t0 t7).bind fun h9=>(kY true 8 h9 t2).bind fun t10=>zE K 80 t10 h9 fun bE aW=>(lF .neq bE zO).bind fun t13=>nI false t13 (kQ 0 t2) aW fun t15 aP=>nI false t13 (kY false 1 aP t15) aP fun t18 aX=>nI false t13 (lF .eql t18 (2:Int)) aX fun bF aN=>(lH t13 true bF).bind fun bG=>kV bG ((kY true 20 aN t0).bind fun t24=>(kR 20 aN t4 t24).bind fun aY=>some (.ret,[t4,false],aY)) ((kY true 8 aN t2).bind fun bH=>zE K 85 bH aN fun t27 aO=>(kY true 20 aO t0).bind fun t29=>(kY true 8 aO t2).bind fun bI=>yG K 84 t29 bI aO fun t31 aI=>(kV t31 (fq 5 t2 aI fun bJ=>(lF .add (4:Int) bJ).bind fun t35=>kZ (aa5 aI) .normal [a2,t0,t2,t4,false,t35] aI) (kZ (aa5 aI) .normal [a2,t0,t2,t4,false,t27] aI)).bind fun Co=>Vd Co.2 fun aJ aA aC aD aF aG aQ=>Ex.pR Co.1 (fq 0 aC aQ fun t45=>(lF .neq t45 (24:Int)).bind fun t46=>nI true t46 (kQ 0 aC) aQ fun t48 aR=>nI true t46 (kY false 1 aR t48) aR fun bK aZ=>nI true t46 (lF .neq bK (25:Int)) aZ fun t54 aH=>(lH t46 t54 false).bind fun bL=>(kV bL ((kY true 20 aH aA).bind fun t57=>(kY true 8 aH aC).bind fun bM=>AP K 86 t57 bM aJ aH fun bN a_=>(kR 20 a_ aA bN).bind fun bA=>kZ (aa5 aH) .normal [aA,aD,aF,aG] bA) (kZ (aa5 aH) .normal [aA,aD,aF,aG] aH)).bind fun F0=>X1 F0.2 fun aB aE aV aM aS=>Ex.pR F0.1 (fq 15 aB aS fun bO=>(lF .add bO aM).bind fun bP=>zE K 36 bP aS fun t71 bB=>(kQ 15 aB).bind fun t73=>(kR 1 bB t73 t71).bind fun aT=>(kY true 20 aT aB).bind fun t75=>(kR 20 aT aE t75).bind fun bD=>some (.ret,[aE,true],bD))))).bind fun AZ=>F3 AZ.2 fun aK aL aU=>Ex.oH AZ.1 ((kY true 20 aU aK).bind fun bQ=>oM (aa5 h0) (.tuple [bQ,aL]) aU)
theorem akO K a0 a1 a2 h0:nN K 61 [a0,a1,a2] h0=m61 (lG mJ K) a0 a1 a2 h0:=by kernel_rfl
def m60 (K:kT) (a0 a1:kN) (h0:kO):OH :=
 (kW (lR 20 h0 a0) fun t0 h1=>kW (lR 8 h1 a1) fun t2 h3=>(kY true 8 h3 t2).bind fun t4=>zE K 80 t4 h3 fun t5 h6=>aq .neq t5 zO (some (.ret,[zO],h6)) ((kY true 20 h6 t0).bind fun t8=>(kY true 8 h6 t2).bind fun t9=>yG K 58 t8 t9 h6 fun t10 aD=>(lC 0 t10).bind fun aG=>(lC 1 t10).bind fun t13=>kW (lR 4 aD (.agg [zO,zO,zO,false])) fun t14 aE=>(kR 4 aE t14 aG).bind fun aA=>kV t13 (some (.ret,[(2:Int)],aA)) (fq 0 t2 aA fun t18=>aq .eql t18 (17:Int) (some (.ret,[(4:Int)],aA)) ((kY true 20 aA t0).bind fun aH=>(kY true 8 aA t2).bind fun aI=>yG K 84 aH aI aA fun aJ aC=>kV aJ (some (.ret,[(3:Int)],aC)) (some (.ret,[(1:Int)],aC)))))).bind fun pY=>Jr pY.2 fun aB aF=>Ex.oH pY.1 (oM (aa5 h0) aB aF)
theorem akN K a0 a1 h0:nN K 60 [a0,a1] h0=m60 (lG mJ K) a0 a1 h0:=by kernel_rfl
def Mr (K:kT) (m:Nat) (s:List kN×kO):Option R :=
 Js s fun aB aC aA h7=>aq .lss aA (15:Int) ((kQ 0 aB).bind fun t9=>(lQ 15 1 t9 aA).bind fun t10=>(kY false 1 h7 t10).bind fun aF=>zE K 31 aF h7 fun aG aD=>(kQ 0 aB).bind fun t14=>(lQ 15 1 t14 aA).bind fun t15=>(kR 1 aD t15 aG).bind fun aE=>(lF .add aA (1:Int)).bind fun t17=>kZ m .normal [aB,aC,t17] aE) (kZ m (.exit 0) [aB,aC,aA] h7)
def m70 (K:kT) (a0:kN) (h0:kO):OH :=
 (kW (lR 20 h0 a0) fun t0 h1=>kW (lR 20 h1 (.agg [zO,zO,zO,zO,zO,zO,zO,zO,zO,zO,zO,zO,zO,zO,zO,zO,false,false,false,false])) fun t2 h3=>(nP (Mr K (aa5 h3)) ([t0,t2,zO],h3)).bind fun r18=>Js r18.2 fun aA aB aG aD=>Ex.l_ r18.1 none (fun e19=>Ex.inBlock 0 e19 (fq 15 aA aD fun aK=>zE K 31 aK aD fun t27 aI=>(kQ 15 aA).bind fun t29=>(kR 1 aI t29 t27).bind fun aE=>(kY true 20 aE aA).bind fun t31=>(kR 20 aE aB t31).bind fun aJ=>some (.ret,[aB],aJ)) (fun aH=>some (aH,[aB],aD)))).bind fun CF=>Jr CF.2 fun aC aF=>Ex.oH CF.1 ((kY true 20 aF aC).bind fun t36=>oM (aa5 h0) t36 aF)
theorem akX K a0 h0:nN K 70 [a0] h0=m70 (lG mJ K) a0 h0:=by kernel_rfl
def PD (K:kT) (a0 a1:kN) (h0:kO):OH :=
 (kW (lR 20 h0 a0) fun t0 h1=>aq .eql a1 zO (fq 17 t0 h1 fun t4=>some (.ret,[t4],h1)) (aq .eql a1 (1:Int) (fq 17 t0 h1 fun t7=>(vN .not t7).bind fun t8=>some (.ret,[t8],h1)) (aq .eql a1 (2:Int) (fq 18 t0 h1 fun aS=>some (.ret,[aS],h1)) (aq .eql a1 (3:Int) (fq 18 t0 h1 fun t14=>(vN .not t14).bind fun t15=>some (.ret,[t15],h1)) (aq .eql a1 (4:Int) (fq 16 t0 h1 fun t18=>some (.ret,[t18],h1)) (aq .eql a1 (5:Int) (fq 16 t0 h1 fun aT=>(vN .not aT).bind fun aU=>some (.ret,[aU],h1)) (aq .eql a1 (6:Int) (fq 19 t0 h1 fun aV=>some (.ret,[aV],h1)) (aq .eql a1 (7:Int) (fq 19 t0 h1 fun aW=>(vN .not aW).bind fun t29=>some (.ret,[t29],h1)) (aq .eql a1 (8:Int) (fq 18 t0 h1 fun t32=>nI true t32 (kQ 17 t0) h1 fun aX aF=>nI true t32 (kY false 1 aF aX) aF fun aY aL=>nI true t32 (vN .not aY) aL fun aZ aM=>(lH t32 aZ false).bind fun t42=>some (.ret,[t42],aM)) (aq .eql a1 (9:Int) (fq 18 t0 h1 fun t45=>(vN .not t45).bind fun t46=>nI false t46 (kQ 17 t0) h1 fun t48 aG=>nI false t46 (kY false 1 aG t48) aG fun a_ aN=>(lH t46 true a_).bind fun t53=>some (.ret,[t53],aN)) (aq .eql a1 (10:Int) (fq 16 t0 h1 fun bA=>fq 19 t0 h1 fun bB=>(xF .eql bA bB).bind fun bD=>some (.ret,[bD],h1)) (aq .eql a1 (11:Int) (fq 16 t0 h1 fun t62=>fq 19 t0 h1 fun t64=>(xF .neq t62 t64).bind fun t65=>some (.ret,[t65],h1)) (aq .eql a1 (12:Int) (fq 17 t0 h1 fun t68=>(vN .not t68).bind fun aB=>nI true aB (kQ 16 t0) h1 fun t71 aH=>nI true aB (kY false 1 aH t71) aH fun t74 aO=>nI true aB (kQ 19 t0) aO fun t77 aI=>nI true aB (kY false 1 aI t77) aI fun t80 aP=>nI true aB (xF .eql t74 t80) aP fun bE aQ=>(lH aB bE false).bind fun t85=>some (.ret,[t85],aQ)) (aq .eql a1 (13:Int) (fq 17 t0 h1 fun t88=>nI false t88 (kQ 16 t0) h1 fun t90 aJ=>nI false t88 (kY false 1 aJ t90) aJ fun t93 aR=>nI false t88 (kQ 19 t0) aR fun t96 aK=>nI false t88 (kY false 1 aK t96) aK fun bF aC=>nI false t88 (xF .neq t93 bF) aC fun t102 aD=>(lH t88 true t102).bind fun t104=>some (.ret,[t104],aD)) (some (.ret,[false],h1)))))))))))))))).bind fun wT=>Jr wT.2 fun aA aE=>Ex.oH wT.1 (oM (aa5 h0) aA aE)
theorem alQ K a0 a1 h0:nN K 99 [a0,a1] h0=PD (lG mJ K) a0 a1 h0:=by kernel_rfl
def m47 (K:kT) (a0 a1:kN) (h0:kO):OH :=
 (kW (lR 20 h0 a0) fun t0 h1=>kW (lR 8 h1 a1) fun t2 h3=>kW (lR 4 h3 (.agg [zO,zO,zO,false])) fun t4 h5=>fq 0 t2 h5 fun t7=>(lF .eql t7 (19:Int)).bind fun t8=>nI false t8 (kQ 0 t2) h5 fun t10 aT=>nI false t8 (kY false 1 aT t10) aT fun t13 a_=>nI false t8 (lF .eql t13 (21:Int)) a_ fun t16 aU=>(lH t8 true t16).bind fun t18=>fq 0 t2 aU fun bP=>(lF .eql bP (20:Int)).bind fun aN=>nI false aN (kQ 0 t2) aU fun bQ aV=>nI false aN (kY false 1 aV bQ) aV fun bR bA=>nI false aN (lF .eql bR (22:Int)) bA fun t29 aW=>(lH aN true t29).bind fun t31=>(kY true 8 aW t2).bind fun t32=>zE K 66 t32 aW fun t33 bB=>(lF .neq t33 zO).bind fun t35=>nI false t35 (some t18) bB fun t36 bD=>nI false t35 (vN .not t36) bD fun bS bE=>nI false t35 (some bS) bE fun aR bF=>nI true aR (some t31) bF fun bT bG=>nI true aR (vN .not bT) bG fun t46 bH=>nI false t35 (lH aR t46 false) bH fun t49 aL=>(lH t35 true t49).bind fun bU=>kV bU ((lB [zO,zO,zO,false] [(0,1),(1,1),(2,1),(3,1)] []).bind fun t52=>(kR 4 aL t4 t52).bind fun bI=>some (.ret,[t4,false],bI)) (fq 2 t2 aL fun t55=>(kQ 0 t0).bind fun bV=>(lQ 15 1 bV t55).bind fun t57=>(kY false 1 aL t57).bind fun bW=>zE K 31 bW aL fun bX bJ=>(lB [zO,zO,zO,false] [(0,1),(1,1),(2,1),(3,1)] [(0,bX),(1,(4:Int)),(3,t31)]).bind fun bY=>kW (lR 4 bJ (.agg [zO,zO,zO,false])) fun t62 bK=>(kR 4 bK t62 bY).bind fun aI=>(kV t31 (fq 1 t2 aI fun t66=>(kQ 0 t0).bind fun t67=>(lQ 15 1 t67 t66).bind fun t68=>(kY false 1 aI t68).bind fun bZ=>zE K 31 bZ aI fun b_ bL=>(kQ 2 t62).bind fun t72=>(kR 1 bL t72 b_).bind fun bM=>kZ (aa5 aI) .normal [t2,t4,false,t62] bM) (kZ (aa5 aI) .normal [t2,t4,false,t62] aI)).bind fun r74=>X1 r74.2 fun aC aD aE aA aX=>Ex.pR r74.1 (fq 0 aC aX fun cA=>(lF .eql cA (21:Int)).bind fun aO=>nI false aO (kQ 0 aC) aX fun cB aY=>nI false aO (kY false 1 aY cB) aY fun t87 bN=>nI false aO (lF .eql t87 (22:Int)) bN fun t90 aM=>(lH aO true t90).bind fun t92=>(kV t92 ((kQ 1 aA).bind fun t93=>(kR 1 aM t93 (1:Int)).bind fun aZ=>fq 2 aA aZ fun t96=>(lF .rem t96 (256:Int)).bind fun t97=>(kQ 2 aA).bind fun t98=>(kR 1 aZ t98 t97).bind fun bO=>kZ (aa5 aM) .normal [aD,aE,aA] bO) (kZ (aa5 aM) .normal [aD,aE,aA] aM)).bind fun xN=>Js xN.2 fun aB aS aH aJ=>Ex.pR xN.1 ((kY true 4 aJ aH).bind fun t105=>(kR 4 aJ aB t105).bind fun aP=>some (.ret,[aB,true],aP))))).bind fun AV=>F3 AV.2 fun aF aG aK=>Ex.oH AV.1 ((kY true 4 aK aF).bind fun aQ=>oM (aa5 h0) (.tuple [aQ,aG]) aK)
theorem akA K a0 a1 h0:nN K 47 [a0,a1] h0=m47 (lG mJ K) a0 a1 h0:=by kernel_rfl
def m69 (K:kT) (a0 a1:kN) (h0:kO):OH :=
 (kW (lR 20 h0 a0) fun t0 h1=>kW (lR 8 h1 a1) fun t2 h3=>fq 0 t2 h3 fun t5=>(lF .eql t5 (24:Int)).bind fun t6=>nI false t6 (kQ 0 t2) h3 fun t8 h9=>nI false t6 (kY false 1 h9 t8) h9 fun aL aE=>nI false t6 (lF .eql aL (25:Int)) aE fun t14 aF=>nI false t6 (some t14) aF fun t16 aB=>nI true t16 (kY true 20 aB t0) aB fun aM aG=>nI true t16 (kQ 6 t2) aG fun aN aC=>nI true t16 (kY false 1 aC aN) aC fun aO aD=>gq true t16 (lW (Yp K 99 aM aO aD) (fun t27 aH=>lI t27 aH) Gg) aD fun t29 aI=>nI false t6 (lH t16 t29 false) aI fun t32 aJ=>(lH t6 true t32).bind fun aP=>some (.ret,[aP],aJ)).bind fun tB=>Jr tB.2 fun aA aK=>Ex.oH tB.1 (oM (aa5 h0) aA aK)
theorem akW K a0 a1 h0:nN K 69 [a0,a1] h0=m69 (lG mJ K) a0 a1 h0:=by kernel_rfl
def Yn (K:kT) (a0 a1 a2:kN) (h0:kO):OH :=
 (kW (lR 20 h0 a0) fun t0 h1=>kW (lR 8 h1 a1) fun t2 h3=>kW (lR 20 h3 (.agg [zO,zO,zO,zO,zO,zO,zO,zO,zO,zO,zO,zO,zO,zO,zO,zO,false,false,false,false])) fun t4 h5=>(kY true 20 h5 t0).bind fun t6=>zE K 70 t6 h5 fun t7 h8=>(kR 20 h8 t0 t7).bind fun h9=>(kY true 8 h9 t2).bind fun t10=>zE K 66 t10 h9 fun cR cA=>(lF .neq cR zO).bind fun t13=>nI false t13 (kQ 0 t2) cA fun t15 bZ=>nI false t13 (kY false 1 bZ t15) bZ fun t18 cB=>nI false t13 (lF .eql t18 (2:Int)) cB fun cS bD=>(lH t13 true cS).bind fun cU=>kV cU ((kY true 20 bD t0).bind fun t24=>(kR 20 bD t4 t24).bind fun cC=>some (.ret,[t4,false],cC)) ((kY true 20 bD t0).bind fun cV=>kW (lR 20 bD (.agg [zO,zO,zO,zO,zO,zO,zO,zO,zO,zO,zO,zO,zO,zO,zO,zO,false,false,false,false])) fun t27 cD=>(kR 20 cD t27 cV).bind fun bE=>(kQ 15 t0).bind fun bY=>(kY false 1 bE bY).bind fun t31=>(kY true 8 bE t2).bind fun t32=>zE K 71 t32 (oR (lA [0] [bY]) bE) fun t33 cE=>(lF .add t31 t33).bind fun t35=>zE K 31 t35 (lO (lA [0] [bY]) bE cE) fun t36 cF=>(kQ 15 t27).bind fun t38=>(kR 1 cF t38 t36).bind fun bR=>(kY true 20 bR t0).bind fun cW=>(kY true 8 bR t2).bind fun cX=>yG K 69 cW cX bR fun t42 aV=>(kV t42 (fq 15 t0 aV fun t45=>(lF .add t45 (4:Int)).bind fun t46=>fq 5 t2 aV fun t48=>(lF .add t46 t48).bind fun t49=>zE K 31 t49 aV fun cY cG=>(kQ 15 t27).bind fun t52=>(kR 1 cG t52 cY).bind fun cH=>kZ (aa5 aV) .normal [a2,t0,t2,t4,false,t27] cH) (kZ (aa5 aV) .normal [a2,t0,t2,t4,false,t27] aV)).bind fun Ku=>Vd Ku.2 fun bB aH aA aD aK aB aG=>Ex.pR Ku.1 (fq 2 aA aG fun t63=>(kQ 0 aH).bind fun t64=>(lQ 15 1 t64 t63).bind fun t65=>(kY false 1 aG t65).bind fun t66=>fq 3 aA aG fun t68=>(kQ 0 aH).bind fun cZ=>(lQ 15 1 cZ t68).bind fun c_=>(kY false 1 aG c_).bind fun t71=>(fq 0 aA aG fun t73=>(lF .eql t73 (23:Int)).bind fun t74=>(kV t74 (zE K 72 t66 aG fun t75 cI=>zE K 72 t71 cI fun t77 cJ=>(lF .sub t75 t77).bind fun b_=>yG K 74 t66 t71 cJ fun t80 cK=>yG K 73 t80 (31:Int) cK fun dA cL=>(lF .eql dA (1:Int)).bind fun dB=>(kQ 16 aB).bind fun t85=>(kR 1 cL t85 dB).bind fun cM=>(lF .eql t66 t71).bind fun t87=>(kQ 17 aB).bind fun t88=>(kR 1 cM t88 t87).bind fun cN=>(lF .geq t66 t71).bind fun t90=>(kQ 18 aB).bind fun t91=>(kR 1 cN t91 t90).bind fun cO=>(lF .lss b_ (-2147483648:Int)).bind fun t93=>nI false t93 (some b_) cO fun t94 cP=>nI false t93 (lF .gtr t94 (2147483647:Int)) cP fun t97 cQ=>(lH t93 true t97).bind fun dC=>(kQ 19 aB).bind fun t100=>(kR 1 cQ t100 dC).bind fun bH=>kZ (aa5 aG) .normal [aD,aK,aB] bH) (fq 0 aA aG fun t103=>(lF .eql t103 (24:Int)).bind fun t104=>nI false t104 (kQ 0 aA) aG fun t106 aW=>nI false t104 (kY false 1 aW t106) aW fun t109 bI=>nI false t104 (lF .eql t109 (25:Int)) bI fun t112 bJ=>(lH t104 true t112).bind fun t114=>nI false t114 (kQ 0 aA) bJ fun t116 aX=>nI false t114 (kY false 1 aX t116) aX fun bS bK=>nI false t114 (lF .eql bS (1:Int)) bK fun t122 aC=>(lH t114 true t122).bind fun t124=>kV t124 ((kY true 20 aC aB).bind fun t125=>(kR 20 aC aD t125).bind fun bL=>kZ (aa5 aG) .ret [aD,true,aB] bL) ((kQ 1 aA).bind fun aN=>(kY false 1 aC aN).bind fun t128=>(kY true 8 aC aA).bind fun t129=>fq 1 aA aC fun t131=>(kQ 0 aH).bind fun t132=>(lQ 15 1 t132 t131).bind fun bT=>(kY false 1 aC bT).bind fun bU=>(kQ 0 aB).bind fun bV=>kq5 K 75 t129 bU t66 t71 bB (oR (lA [0] [aN]) aC) fun t136 bM=>(lQ 15 1 bV t128).bind fun t138=>(kR 1 (lO (lA [0] [aN]) aC bM) t138 t136).bind fun aE=>fq 0 aA aE fun t141=>(lF .eql t141 (17:Int)).bind fun t142=>(kV t142 ((kQ 4 aA).bind fun t143=>(kY false 1 aE t143).bind fun t144=>(kQ 0 aB).bind fun t145=>yG K 76 t66 t71 (oR (lA [0] [t143]) aE) fun t146 bN=>(lQ 15 1 t145 t144).bind fun t148=>(kR 1 (lO (lA [0] [t143]) aE bN) t148 t146).bind fun bO=>kZ (aa5 aE) .normal [aD,aK,aB] bO) (kZ (aa5 aE) .normal [aD,aK,aB] aE)).bind fun WT=>Js WT.2 fun aO aQ aT bP=>Ex.pR WT.1 (kZ (aa5 aG) .normal [aO,aQ,aT] bP)))).bind fun Pf=>Js Pf.2 fun aI aJ aL aY=>Ex.l_ Pf.1 (kZ (aa5 aG) .normal [aI,aJ,aL] aY) (fun bF=>kZ (aa5 aG) bF [aI,aJ,aL] aY)).bind fun a_=>Js a_.2 fun aF aR aU aM=>Ex.inBlock 0 a_.1 ((kY true 20 aM aU).bind fun bW=>(kR 20 aM aF bW).bind fun bQ=>some (.ret,[aF,true],bQ)) (fun bG=>some (bG,[aF,aR],aM))))).bind fun bA=>F3 bA.2 fun aP aS aZ=>Ex.oH bA.1 ((kY true 20 aZ aP).bind fun bX=>oM (aa5 h0) (.tuple [bX,aS]) aZ)
theorem akE K a0 a1 a2 h0:nN K 51 [a0,a1,a2] h0=Yn (lG mJ K) a0 a1 a2 h0:=by kernel_rfl
def m50 (K:kT) (a0 a1:kN) (h0:kO):OH :=
 (kW (lR 20 h0 a0) fun t0 h1=>kW (lR 8 h1 a1) fun t2 h3=>(kY true 20 h3 t0).bind fun t4=>(kY true 8 h3 t2).bind fun t5=>yG K 47 t4 t5 h3 fun t6 h7=>(lC 0 t6).bind fun t8=>(lC 1 t6).bind fun t9=>kW (lR 4 h7 (.agg [zO,zO,zO,false])) fun t10 aE=>(kR 4 aE t10 t8).bind fun aC=>(kY true 8 aC t2).bind fun t13=>zE K 66 t13 aC fun t14 aA=>aq .neq t14 zO (some (.ret,[zO],aA)) (kV t9 (some (.ret,[(2:Int)],aA)) (fq 0 t2 aA fun t18=>aq .eql t18 (17:Int) (some (.ret,[(4:Int)],aA)) ((kY true 20 aA t0).bind fun aG=>(kY true 8 aA t2).bind fun aH=>yG K 69 aG aH aA fun aI aD=>kV aI (some (.ret,[(3:Int)],aD)) (some (.ret,[(1:Int)],aD)))))).bind fun pY=>Jr pY.2 fun aB aF=>Ex.oH pY.1 (oM (aa5 h0) aB aF)
theorem akD K a0 a1 h0:nN K 50 [a0,a1] h0=m50 (lG mJ K) a0 a1 h0:=by kernel_rfl
def m43 (K:kT) (a0 a1:kN) (h0:kO):OH :=
 (kW (lR 20 h0 a0) fun t0 h1=>kW (lR 4 h1 a1) fun t2 h3=>kW (lR 20 h3 (.agg [zO,zO,zO,zO,zO,zO,zO,zO,zO,zO,zO,zO,zO,zO,zO,zO,false,false,false,false])) fun t4 h5=>fq 0 t2 h5 fun t7=>(lF .eql t7 (2:Int)).bind fun t8=>(kV t8 ((kQ 2 t2).bind fun t9=>(kY false 1 h5 t9).bind fun t10=>fq 2 t2 h5 fun aS=>(kQ 0 t0).bind fun t13=>(lQ 15 1 t13 aS).bind fun t14=>(kY false 1 h5 t14).bind fun t15=>fq 3 t2 h5 fun t17=>(kQ 0 t0).bind fun t18=>yG K 62 t15 t17 (oR (lA [0] [t9]) h5) fun aT aO=>(lQ 15 1 t18 t10).bind fun aU=>(kR 1 (lO (lA [0] [t9]) h5 aO) aU aT).bind fun aP=>kZ (aa5 h5) .normal [t0,t2,t4] aP) (kZ (aa5 h5) .normal [t0,t2,t4] h5)).bind fun aM=>Js aM.2 fun aA aB aC aE=>Ex.pR aM.1 (fq 0 aB aE fun t29=>(lF .eql t29 (3:Int)).bind fun aV=>(kV aV (fq 16 aA aE fun t32=>fq 3 aB aE fun aW=>(lF .eql aW zO).bind fun t35=>(xF .neq t32 t35).bind fun t36=>(kQ 16 aA).bind fun aX=>(kR 1 aE aX t36).bind fun aH=>fq 17 aA aH fun aY=>fq 3 aB aH fun t42=>(lF .eql t42 (1:Int)).bind fun aZ=>(xF .neq aY aZ).bind fun a_=>(kQ 17 aA).bind fun t45=>(kR 1 aH t45 a_).bind fun aI=>fq 18 aA aI fun t48=>fq 3 aB aI fun bA=>(lF .eql bA (2:Int)).bind fun bB=>(xF .neq t48 bB).bind fun t52=>(kQ 18 aA).bind fun t53=>(kR 1 aI t53 t52).bind fun aJ=>fq 19 aA aJ fun bD=>fq 3 aB aJ fun bE=>(lF .eql bE (3:Int)).bind fun bF=>(xF .neq bD bF).bind fun bG=>(kQ 19 aA).bind fun bH=>(kR 1 aJ bH bG).bind fun aQ=>kZ (aa5 aE) .normal [aA,aC] aQ) (kZ (aa5 aE) .normal [aA,aC] aE)).bind fun r63=>F3 r63.2 fun aF aD aK=>Ex.pR r63.1 ((kY true 20 aK aF).bind fun t67=>(kR 20 aK aD t67).bind fun aR=>some (.ret,[aD],aR)))).bind fun aN=>Jr aN.2 fun aG aL=>Ex.oH aN.1 ((kY true 20 aL aG).bind fun t72=>oM (aa5 h0) t72 aL)
theorem aj6 K a0 a1 h0:nN K 43 [a0,a1] h0=m43 (lG mJ K) a0 a1 h0:=by kernel_rfl
end
section
open Go Hk
structure St where
 r:Nat→Int
 pc:Int
 n:Bool
 z:Bool
 c:Bool
 v:Bool
def Sc (s:St):List kN:=[.int .i64 (s.r 0),.int .i64 (s.r 1),.int .i64 (s.r 2),.int .i64 (s.r 3),.int .i64 (s.r 4),.int .i64 (s.r 5),.int .i64 (s.r 6),.int .i64 (s.r 7),.int .i64 (s.r 8),.int .i64 (s.r 9),.int .i64 (s.r 10),.int .i64 (s.r 11),.int .i64 (s.r 12),.int .i64 (s.r 13),.int .i64 (s.r 14),.int .i64 s.pc,.bool s.n,.bool s.z,.bool s.c,.bool s.v]
def Rc (r:Nat→Int):List kN:=[.int .i64 (r 0),.int .i64 (r 1),.int .i64 (r 2),.int .i64 (r 3),.int .i64 (r 4),.int .i64 (r 5),.int .i64 (r 6),.int .i64 (r 7),.int .i64 (r 8),.int .i64 (r 9),.int .i64 (r 10),.int .i64 (r 11),.int .i64 (r 12),.int .i64 (r 13),.int .i64 (r 14)]
def Ve:St:=⟨fun _=>0,0,false,false,false,false⟩
def Fz (r:Nat→Int) (k:Nat) (x:Int):Nat→Int:=fun i=>if i=k then x else r i
theorem A5 {s t:St}(hr:∀k,k<15→s.r k=t.r k) (hp:s.pc=t.pc) (hn:s.n=t.n) (hz:s.z=t.z) (hc:s.c=t.c) (hv:s.v=t.v):Sc s=Sc t:=by
 simp only [Sc,hr 0 (by decide),hr 1 (by decide),hr 2 (by decide),hr 3 (by decide),hr 4 (by decide),hr 5 (by decide),hr 6 (by decide),hr 7 (by decide),hr 8 (by decide),hr 9 (by decide),hr 10 (by decide),hr 11 (by decide),hr 12 (by decide),hr 13 (by decide),hr 14 (by decide),hp,hn,hz,hc,hv]
theorem ajC {P:Nat→Prop}(h0:P 0) (h1:P 1) (h2:P 2) (h3:P 3) (h4:P 4) (h5:P 5) (h6:P 6) (h7:P 7) (h8:P 8) (h9:P 9) (h10:P 10) (h11:P 11) (h12:P 12) (h13:P 13) (h14:P 14) (k:Nat) (hk:k<15):P k:=by
 match k,hk with
 | 0,_=>exact h0 | 1,_=>exact h1 | 2,_=>exact h2 | 3,_=>exact h3 | 4,_=>exact h4 | 5,_=>exact h5 | 6,_=>exact h6 | 7,_=>exact h7
 | 8,_=>exact h8 | 9,_=>exact h9 | 10,_=>exact h10 | 11,_=>exact h11 | 12,_=>exact h12 | 13,_=>exact h13 | 14,_=>exact h14
section
variable {s:St}{h:kO}{os:List kN}
@[simp] theorem aBM:(Sc s).length=20:=(rfl)
@[simp] theorem aAr:(Sc s).take 20=Sc s:=(rfl)
@[simp] theorem apU:(Sc s).take 15=Rc s.r:=(rfl)
@[simp] theorem ar8:(Sc s).all kN.lS=true:=(rfl)
@[simp 2000] theorem aFk:(Sc s)[15]?=some (.int .i64 s.pc):=(rfl)
@[simp 2000] theorem aHB:(Sc s)[16]?=some (.bool s.n):=(rfl)
@[simp 2000] theorem aHD:(Sc s)[17]?=some (.bool s.z):=(rfl)
@[simp 2000] theorem aHA:(Sc s)[18]?=some (.bool s.c):=(rfl)
@[simp 2000] theorem aHC:(Sc s)[19]?=some (.bool s.v):=(rfl)
theorem lK {k:Nat}(hk:k<15):(Sc s)[k]?=some (.int .i64 (s.r k)):=by
 revert k;apply ajC <;> rfl
theorem agA {r:Nat→Int}{k:Nat}(hk:k<15):(Rc r)[k]?=some (.int .i64 (r k)):=by
 revert k;apply ajC <;> rfl
theorem nV {k:Nat}{x:Int}(hk:k<15):kU (Sc s) k [.int .i64 x]=Sc { s with r:=Fz s.r k x }:=by
 revert k;apply ajC <;> rfl
@[simp 2000] theorem aDZ {x:Int}:kU (Sc s) 15 [.int .i64 x]=Sc { s with pc:=x }:=(rfl)
@[simp 2000] theorem aGT {x:Bool}:kU (Sc s) 16 [.bool x]=Sc { s with n:=x }:=(rfl)
@[simp 2000] theorem aGV {x:Bool}:kU (Sc s) 17 [.bool x]=Sc { s with z:=x }:=(rfl)
@[simp 2000] theorem aGS {x:Bool}:kU (Sc s) 18 [.bool x]=Sc { s with c:=x }:=(rfl)
@[simp 2000] theorem aGU {x:Bool}:kU (Sc s) 19 [.bool x]=Sc { s with v:=x }:=(rfl)
@[simp 2000] theorem aBc {t:St}:kU (Sc s) 0 (Sc t)=Sc t:=(rfl)
theorem sA:∀(os vs:List kN),(∀v∈vs,v.isNil=false)→nQ h os vs=vs
 | [],vs,_=>by cases vs <;> rfl
 | o::os,[],_=>rfl
 | o::os,v::vs,hv=>by
  rw [nQ,sA os vs fun w hw=>hv w (List.mem_cons_of_mem _ hw)]
  have:=hv v List.mem_cons_self
  simp [uM,this]
@[simp 2000] theorem aAS:nQ h os (Sc s)=Sc s:=sA _ _ (by intro v hv;simp only [Sc,List.mem_cons,List.not_mem_nil,or_false] at hv;rcases hv with rfl | rfl | rfl | rfl | rfl | rfl | rfl | rfl | rfl | rfl | rfl | rfl | rfl | rfl | rfl | rfl | rfl | rfl | rfl | rfl <;> rfl)
@[simp 2000] theorem auO {k:IntKind}{x:Int}:nQ h os [.int k x]=[.int k x]:=sA _ _ (by simp [kN.isNil])
@[simp 2000] theorem aq4 {x:Bool}:nQ h os [.bool x]=[.bool x]:=sA _ _ (by simp [kN.isNil])
@[simp ↓ 2000] theorem aBT:lR 20 h (.agg (Sc s))=some (.ptr h.length 0,h++[.cells (Sc s)]):=(rfl)
@[simp ↓ 2000] theorem aBU:lR 20 h (.agg [(.int .i64 0),(.int .i64 0),(.int .i64 0),(.int .i64 0),(.int .i64 0),(.int .i64 0),(.int .i64 0),(.int .i64 0),(.int .i64 0),(.int .i64 0),(.int .i64 0),(.int .i64 0),(.int .i64 0),(.int .i64 0),(.int .i64 0),(.int .i64 0),(.bool false),(.bool false),(.bool false),(.bool false)])=some (.ptr h.length 0,h++[.cells (Sc Ve)]):=(rfl)
@[simp] theorem aBl {m:Nat}:mI m h (Sc s)=some (Sc s):=(rfl)
@[simp] theorem aA1 {m:Nat}:(Sc s).map (fun x=>kN.oW m h x)=Sc s:=(rfl)
@[simp] theorem aA2:(Sc s).map kN.qK=Sc s:=(rfl)
@[simp] theorem aBi {m:Nat}{r:Nat→Int}:(Rc r).map (fun x=>kN.oW m h x)=Rc r:=(rfl)
theorem mK {p:Nat}{x:Int}(h0:0≤x) (h1:x<15):lQ 15 1 (.ptr p 0) (.int .i64 x)=some (.ptr p x.toNat):=by
 simp [lQ,h0,h1]
theorem aCI {r:Nat→Int}{x:Int}(h0:0≤x) (h1:x<15):oI false 15 1 (.agg (Rc r)) (.int .i64 x)=some (.int .i64 (r x.toNat)):=by
 have h2:x.toNat<15:=by omega
 have e:oI false 15 1 (.agg (Rc r)) (.int .i64 x)=if 0≤x∧x<((15:Nat):Int) then apart false 1 (Rc r) (x.toNat*1) else none:=rfl
 rw [e,if_pos ⟨h0,by omega⟩,Nat.mul_one];exact agA h2
end
theorem nK {F:List kN×kO→Option R}{s s':List kN×kO}(h:F s=some (.normal,s')):nP F s=nP F s':=by rw [Bj,h];rfl
theorem s7 {F:List kN×kO→Option R}{s s':List kN×kO}{i:Nat}(h:F s=some (.exit i,s')):nP F s=some (.exit i,s'):=by rw [Bj,h];rfl
theorem qC {f:Nat}{args:List kN}{h:kO}{v:kN}{m:Option (mR×kO)}(hp:mJ.pure f=true) (hs:args.all (kN.rI 0)=true)
  (he:C8 Tryz.prog mJ nP (Ag Tryz.prog mJ) f args []=m) (hk:m=some (.ret v,[])):KK f args h=some (.ret v,h):=by
 have:=lJ (h:=h) (x:=some ()) (v:=fun _=>v) hp hs he (by rw [hk];rfl)
 exact this
def Af (s:St):St:={ s with r:=fun k=>wr (s.r k),pc:=wr s.pc }
theorem Zw (p:Int) (h:kO):KK 36 [.int .i64 p] h=some (.ret (.int .i64 (wr p)),h):=by rw [Co,Ac];rfl
theorem Qf (p:Int) (h:kO):KK 31 [.int .i64 p] h=some (.ret (.int .i64 (wr p)),h):=by rw [yP,yC];rfl
def Ud (s:St) (j:Nat):St:={ s with r:=fun k=>if k<j then wr (s.r k) else s.r k }
theorem Ue (s:St) (j:Nat):Sc { Ud s j with r:=Fz (Ud s j).r j (wr (s.r j)) }=Sc (Ud s (j+1)):=by
 refine A5 (fun k _=>?_) rfl rfl rfl rfl rfl
 show Fz (Ud s j).r j (wr (s.r j)) k=if k<j+1 then wr (s.r k) else s.r k
 unfold Fz
 by_cases hk:k=j
 ·subst hk;simp
 ·rw [if_neg hk]
  show(if k<j then wr (s.r k) else s.r k)=_
  by_cases h2:k<j
  ·rw [if_pos h2,if_pos (by omega)]
  ·rw [if_neg h2,if_neg (by omega)]
theorem l81 (s:St) (h:kO):∀n j:Nat,j+n=15→nP (Ms KK 2) ([.ptr 0 0,.ptr 1 0,.agg (Rc s.r),.int .i64 (j:Int)],[.cells (Sc (Ud s j)),.cells (Sc Ve)])=some (.exit 0,[.ptr 0 0,.ptr 1 0,.agg (Rc s.r),.int .i64 15],[.cells (Sc (Ud s 15)),.cells (Sc Ve)]):=by
 intro n
 induction n with
 | zero =>
  intro j hj
  obtain rfl:j=15:=by omega
  refine s7 ?_
  simp [Ms]
 | succ n ih =>
  intro j hj
  have h0:(0:Int)≤(j:Int):=by omega
  have h1:(j:Int)<15:=by omega
  have h2:IntKind.i64.wrap ((j:Int)+1)=((j+1:Nat):Int):=by rw [lP _ (by omega) (by omega)];simp
  rw [←ih (j+1) (by omega)]
  refine nK ?_
  simp [-kU,Ms,h1,aCI h0 h1,mK h0 h1,Zw,nV (show j<15 by omega),Ue,h2,show j≤19 by omega]
theorem X2 (s:St) (j:Nat):(Ud s j).pc=s.pc:=(rfl)
theorem lU {l vs:List kN}:kU l 0 vs=vs++l.drop vs.length:=by simp [kU]
theorem lV {a:kN}{l vs:List kN}{k:Nat}:kU (a::l) (k+1) vs=a::kU l k vs:=by
 simp [kU,Nat.add_right_comm]
theorem c81 (s:St) (h:kO):KK 81 [.agg (Sc s)] h=some (.ret (.agg (Sc (Af s))),h):=by
 refine qC rfl rfl (ak8 ..) ?_
 have e0:Sc s=Sc (Ud s 0):=A5 (fun k _=>rfl) rfl rfl rfl rfl rfl
 have l:=l81 s h 15 0 (by omega)
 rw [←e0,show((0:Nat):Int)=0 from rfl] at l
 have e1:Sc { Ud s 15 with pc:=wr s.pc }=Sc (Af s):=A5 (fun k hk=>by show(if k<15 then wr (s.r k) else s.r k)=wr (s.r k);rw [if_pos hk]) rfl rfl rfl rfl rfl
 simp [-kU,m81,l,Zw,X2,e1]
theorem l70 (s:St):∀n j:Nat,j+n=15→nP (Mr KK 2) ([.ptr 0 0,.ptr 1 0,.int .i64 (j:Int)],[.cells (Sc (Ud s j)),.cells (Sc Ve)])=some (.exit 0,[.ptr 0 0,.ptr 1 0,.int .i64 15],[.cells (Sc (Ud s 15)),.cells (Sc Ve)]):=by
 intro n
 induction n with
 | zero =>
  intro j hj
  obtain rfl:j=15:=by omega
  refine s7 ?_
  simp [Mr]
 | succ n ih =>
  intro j hj
  have h0:(0:Int)≤(j:Int):=by omega
  have h1:(j:Int)<15:=by omega
  have h2:IntKind.i64.wrap ((j:Int)+1)=((j+1:Nat):Int):=by rw [lP _ (by omega) (by omega)];simp
  have h3:(Ud s j).r j=s.r j:=by show(if j<j then _ else _)=_;simp
  have hj15:j<15:=by omega
  rw [←ih (j+1) (by omega)]
  refine nK ?_
  simp [-kU,Mr,h1,lK hj15,mK h0 h1,Qf,h3,nV hj15,Ue,h2,show j≤19 by omega]
theorem c70 (s:St) (h:kO):KK 70 [.agg (Sc s)] h=some (.ret (.agg (Sc (Af s))),h):=by
 refine qC rfl rfl (akX ..) ?_
 have e0:Sc s=Sc (Ud s 0):=A5 (fun k _=>rfl) rfl rfl rfl rfl rfl
 have l:=l70 s 15 0 (by omega)
 rw [←e0,show((0:Nat):Int)=0 from rfl] at l
 have e1:Sc { Ud s 15 with pc:=wr s.pc }=Sc (Af s):=A5 (fun k hk=>by show(if k<15 then wr (s.r k) else s.r k)=wr (s.r k);rw [if_pos hk]) rfl rfl rfl rfl rfl
 simp [-kU,m70,l,Qf,X2,e1]
end
section
open Go Hk
def rJ (s:St) (c:Int):Bool :=
 if c=0 then s.z else if c=1 then !s.z else if c=2 then s.c else if c=3 then !s.c else if c=4 then s.n else if c=5 then !s.n else if c=6 then s.v else if c=7 then !s.v
 else if c=8 then s.c&&!s.z else if c=9 then !s.c || s.z else if c=10 then s.n == s.v else if c=11 then !(s.n == s.v) else if c=12 then !s.z&&(s.n == s.v) else if c=13 then s.z || !(s.n == s.v) else false
set_option maxHeartbeats 4000000 in
theorem c99 (s:St) (c:Int) (h:kO):KK 99 [.agg (Sc s),.int .i64 c] h=some (.ret (.bool (rJ s c)),h):=by
 refine qC rfl rfl (alQ ..) ?_
 unfold rJ
 by_cases h0:c=0
 ·subst h0;simp [PD]
 by_cases h1:c=1
 ·subst h1;simp [PD]
 by_cases h2:c=2
 ·subst h2;simp [PD]
 by_cases h3:c=3
 ·subst h3;simp [PD]
 by_cases h4:c=4
 ·subst h4;simp [PD]
 by_cases h5:c=5
 ·subst h5;simp [PD]
 by_cases h6:c=6
 ·subst h6;simp [PD]
 by_cases h7:c=7
 ·subst h7;simp [PD]
 by_cases h8:c=8
 ·subst h8;cases hc:s.c <;> cases hz:s.z <;> simp [PD,hc,hz]
 by_cases h9:c=9
 ·subst h9;cases hc:s.c <;> cases hz:s.z <;> simp [PD,hc,hz]
 by_cases h10:c=10
 ·subst h10;cases hc:s.n <;> cases hz:s.v <;> simp [PD,hc,hz]
 by_cases h11:c=11
 ·subst h11;cases hc:s.n <;> cases hz:s.v <;> simp [PD,hc,hz]
 by_cases h12:c=12
 ·subst h12;cases hc:s.n <;> cases hz:s.v <;> cases hy:s.z <;> simp [PD,hc,hz,hy]
 by_cases h13:c=13
 ·subst h13;cases hc:s.n <;> cases hz:s.v <;> cases hy:s.z <;> simp [PD,hc,hz,hy]
 simp [PD,h0,h1,h2,h3,h4,h5,h6,h7,h8,h9,h10,h11,h12,h13]
theorem sh0:sX .i64 0 1=some 0:=(rfl)
theorem an0:rC .i64 0 1=0:=(rfl)
theorem sh1:sX .i64 1 1=some 0:=(rfl)
theorem an1:rC .i64 1 1=1:=(rfl)
theorem sh2:sX .i64 2 1=some 1:=(rfl)
theorem an2:rC .i64 2 1=0:=(rfl)
theorem sh3:sX .i64 3 1=some 1:=(rfl)
theorem an3:rC .i64 3 1=1:=(rfl)
theorem sh4:sX .i64 4 1=some 2:=(rfl)
theorem an4:rC .i64 4 1=0:=(rfl)
theorem sh5:sX .i64 5 1=some 2:=(rfl)
theorem an5:rC .i64 5 1=1:=(rfl)
theorem sh6:sX .i64 6 1=some 3:=(rfl)
theorem an6:rC .i64 6 1=0:=(rfl)
theorem sh7:sX .i64 7 1=some 3:=(rfl)
theorem an7:rC .i64 7 1=1:=(rfl)
theorem sh8:sX .i64 8 1=some 4:=(rfl)
theorem an8:rC .i64 8 1=0:=(rfl)
theorem sh9:sX .i64 9 1=some 4:=(rfl)
theorem an9:rC .i64 9 1=1:=(rfl)
theorem aEp:sX .i64 10 1=some 5:=(rfl)
theorem aBP:rC .i64 10 1=0:=(rfl)
theorem aEq:sX .i64 11 1=some 5:=(rfl)
theorem aBQ:rC .i64 11 1=1:=(rfl)
theorem aEr:sX .i64 12 1=some 6:=(rfl)
theorem aBR:rC .i64 12 1=0:=(rfl)
theorem aEs:sX .i64 13 1=some 6:=(rfl)
theorem aBS:rC .i64 13 1=1:=(rfl)
set_option maxHeartbeats 4000000 in
theorem aB3 (s:St) (c:Int) (h:kO):KK 120 [.agg (Sc s),.int .i64 c] h=some (.ret (.bool (rJ s c)),h):=by
 refine qC rfl rfl (ZW ..) ?_
 by_cases hlo:c<0
 ·have e:rJ s c=false:=by
   unfold rJ;simp [show c≠0 by omega,show c≠1 by omega,show c≠2 by omega,show c≠3 by omega,show c≠4 by omega,show c≠5 by omega,show c≠6 by omega,show c≠7 by omega,show c≠8 by omega,show c≠9 by omega,show c≠10 by omega,show c≠11 by omega,show c≠12 by omega,show c≠13 by omega]
  rw [e];simp [Bk,hlo]
 by_cases hhi:13<c
 ·have e:rJ s c=false:=by
   unfold rJ;simp [show c≠0 by omega,show c≠1 by omega,show c≠2 by omega,show c≠3 by omega,show c≠4 by omega,show c≠5 by omega,show c≠6 by omega,show c≠7 by omega,show c≠8 by omega,show c≠9 by omega,show c≠10 by omega,show c≠11 by omega,show c≠12 by omega,show c≠13 by omega]
  rw [e];simp [Bk,hlo,hhi]
 obtain⟨k,rfl⟩:∃k:Nat,c=k:=⟨c.toNat,by omega⟩
 have hk:k<14:=by omega
 revert hlo hhi
 match k,hk with
 | 0,_=>intro _ _;cases hz:s.z <;> simp [Bk,rJ,sh0,an0,hz]
 | 1,_=>intro _ _;cases hz:s.z <;> simp [Bk,rJ,sh1,an1,hz]
 | 2,_=>intro _ _;cases hc:s.c <;> simp [Bk,rJ,sh2,an2,hc]
 | 3,_=>intro _ _;cases hc:s.c <;> simp [Bk,rJ,sh3,an3,hc]
 | 4,_=>intro _ _;cases hn:s.n <;> simp [Bk,rJ,sh4,an4,hn]
 | 5,_=>intro _ _;cases hn:s.n <;> simp [Bk,rJ,sh5,an5,hn]
 | 6,_=>intro _ _;cases hv:s.v <;> simp [Bk,rJ,sh6,an6,hv]
 | 7,_=>intro _ _;cases hv:s.v <;> simp [Bk,rJ,sh7,an7,hv]
 | 8,_=>intro _ _;cases hc:s.c <;> cases hz:s.z <;> simp [Bk,rJ,sh8,an8,hc,hz]
 | 9,_=>intro _ _;cases hc:s.c <;> cases hz:s.z <;> simp [Bk,rJ,sh9,an9,hc,hz]
 | 10,_=>intro _ _;cases hn:s.n <;> cases hv:s.v <;> simp [Bk,rJ,aEp,aBP,hn,hv]
 | 11,_=>intro _ _;cases hn:s.n <;> cases hv:s.v <;> simp [Bk,rJ,aEq,aBQ,hn,hv]
 | 12,_=>intro _ _;cases hz:s.z <;> cases hn:s.n <;> cases hv:s.v <;> simp [Bk,rJ,aEr,aBR,hz,hn,hv]
 | 13,_=>intro _ _;cases hz:s.z <;> cases hn:s.n <;> cases hv:s.v <;> simp [Bk,rJ,aEs,aBS,hz,hn,hv]
end
section
open Go Hk
def uD (s:St) (i:lL):Bool:=decide (i.op=24) || (decide (i.op=25)&&rJ s i.cond)
theorem c84 (s:St) (i:lL) (h:kO):KK 84 [.agg (Sc s),.agg i.cells] h=some (.ret (.bool (uD s i)),h):=by
 refine qC rfl rfl (alB ..) ?_
 unfold uD
 by_cases h0:i.op=24
 ·simp [m84,h0]
 by_cases h1:i.op=25
 ·simp [m84,h1,aB3]
 simp [m84,h0,h1]
theorem c69 (s:St) (i:lL) (h:kO):KK 69 [.agg (Sc s),.agg i.cells] h=some (.ret (.bool (uD s i)),h):=by
 refine qC rfl rfl (akW ..) ?_
 unfold uD
 by_cases h0:i.op=24
 ·simp [m69,h0]
 by_cases h1:i.op=25
 ·simp [m69,h1,c99]
 simp [m69,h0,h1]
def sg (x:Int):Int:=if x<2147483648 then x else x-4294967296
def Uv (s:St) (a b:Int):St:={ s with n:=decide (2147483648≤(a-b)%4294967296),z:=decide (a=b),c:=decide (b≤a),v:=decide (sg a-sg b < -2147483648∨2147483647<sg a-sg b) }
theorem Kg {x:Nat}(hx:x<4294967296):x.testBit 31=decide (2147483648≤x):=by
 rw [Nat.testBit_eq_decide_div_mod_eq]
 by_cases h:2147483648≤x
 ·have:x/2^31%2=1:=by omega
  simp [this,h]
 ·have:x/2^31%2=0:=by omega
  simp [this,h]
theorem auJ {x:Nat}(hx:x<4294967296) (h:kO):KK 151 [.int .i64 (x:Int),.int .i64 31] h=some (.ret (.int .i64 (if 2147483648≤x then 1 else 0)),h):=by
 rw [wU,show(31:Int)=((31:Nat):Int) from rfl,apD hx (by decide),FI,Kg hx]
 by_cases h:2147483648≤x <;> simp [h]
theorem k73 {x:Nat}(hx:x<4294967296) (h:kO):KK 73 [.int .i64 (x:Int),.int .i64 31] h=some (.ret (.int .i64 (if 2147483648≤x then 1 else 0)),h):=by
 rw [r73,show(31:Int)=((31:Nat):Int) from rfl,yY hx (by decide),FI,Kg hx]
 by_cases h:2147483648≤x <;> simp [h]
section
variable {x y:Nat}(hx:x<4294967296) (hy:y<4294967296) (h:kO)
include hx hy
theorem aCP:KK 149 [.int .i64 (x:Int),.int .i64 (y:Int)] h=some (.ret (.int .i64 (((x+(4294967296-y))%4294967296:Nat):Int)),h):=by
 rw [axC,XM,AK];congr 5;simp only [wr];omega
theorem k74:KK 74 [.int .i64 (x:Int),.int .i64 (y:Int)] h=some (.ret (.int .i64 (((x+(4294967296-y))%4294967296:Nat):Int)),h):=by
 rw [r74,XR,AK];congr 5;simp only [wr];omega
theorem k77:KK 77 [.int .i64 (x:Int),.int .i64 (y:Int)] h=some (.ret (.int .i64 ((x ^^^ y:Nat):Int)),h):=by rw [AZ,afX hx hy];rfl
theorem aCO:KK 147 [.int .i64 (x:Int),.int .i64 (y:Int)] h=some (.ret (.int .i64 ((x &&& y:Nat):Int)),h):=by rw [AX,S8 hx hy];rfl
omit h in
theorem as7:(decide ((if 2147483648≤(x ^^^ y) &&& (x ^^^ ((x+(4294967296-y))%4294967296)) then(1:Int) else 0)=1))=decide (sg (x:Int)-sg (y:Int) < -2147483648∨2147483647<sg (x:Int)-sg (y:Int)):=by
 generalize hd:(x+(4294967296-y))%4294967296=d
 have hdl:d<4294967296:=by omega
 have h1:x ^^^ y<4294967296:=Nat.xor_lt_two_pow (n:=32) hx hy
 have h2:x ^^^ d<4294967296:=Nat.xor_lt_two_pow (n:=32) hx hdl
 have h3:(x ^^^ y) &&& (x ^^^ d)<4294967296:=Nat.lt_of_le_of_lt Nat.and_le_right h2
 have e:=Kg h3
 rw [Nat.testBit_and,Nat.testBit_xor,Nat.testBit_xor,Kg hx,Kg hy,Kg hdl] at e
 have e':decide ((if 2147483648≤(x ^^^ y) &&& (x ^^^ d) then(1:Int) else 0)=1)=decide (2147483648≤(x ^^^ y) &&& (x ^^^ d)):=by
  by_cases h:2147483648≤(x ^^^ y) &&& (x ^^^ d) <;> simp [h]
 rw [e',←e]
 unfold sg
 by_cases hX:2147483648≤x <;> by_cases hY:2147483648≤y <;> by_cases hD:2147483648≤d <;>
  simp only [hX,hY,hD,decide_true,decide_false] <;> simp <;> (try (repeat split)) <;> omega
end
end
section
open Go Hk
theorem aB4 (s:St) {x y:Nat}(hx:x<4294967296) (hy:y<4294967296) (h:kO):KK 127 [.agg (Sc s),.int .i64 (x:Int),.int .i64 (y:Int)] h=some (.ret (.agg (Sc (Uv s x y))),h):=by
 refine qC rfl rfl (Z3 ..) ?_
 have hd:(x+(4294967296-y))%4294967296<4294967296:=aq2 _ (by decide)
 have h1:x ^^^ y<4294967296:=Nat.xor_lt_two_pow (n:=32) hx hy
 have h2:x ^^^ ((x+(4294967296-y))%4294967296)<4294967296:=Nat.xor_lt_two_pow (n:=32) hx hd
 have h3:(x ^^^ y) &&& (x ^^^ ((x+(4294967296-y))%4294967296))<4294967296:=Nat.lt_of_le_of_lt Nat.and_le_right h2
 have e1:decide ((if 2147483648≤(x+(4294967296-y))%4294967296 then(1:Int) else 0)=1)=decide (2147483648≤((x:Int)-(y:Int))%4294967296):=by
  have:2147483648≤(x+(4294967296-y))%4294967296↔2147483648≤((x:Int)-(y:Int))%4294967296:=by omega
  by_cases h:2147483648≤(x+(4294967296-y))%4294967296
  ·rw [if_pos h,decide_eq_true (this.1 h)];rfl
  ·rw [if_neg h,decide_eq_false fun q=>h (this.2 q)];rfl
 have e2:decide ((((x+(4294967296-y))%4294967296:Nat):Int)=0)=decide ((x:Int)=(y:Int)):=by
  have:(((x+(4294967296-y))%4294967296:Nat):Int)=0↔(x:Int)=(y:Int):=by omega
  by_cases h:(x:Int)=(y:Int)
  ·rw [decide_eq_true h,decide_eq_true (this.2 h)]
  ·rw [decide_eq_false h,decide_eq_false fun q=>h (this.1 q)]
 have e3:=as7 hx hy
 have a1:=aCP hx hy
 have a2:=auJ hd
 have a3:=k77 hx hy
 have a4:=k77 hx hd
 have a5:=aCO h1 h2
 have a6:=auJ h3
 generalize hD:(x+(4294967296-y))%4294967296=D at a1 a2 a4 a5 a6 e1 e2 e3 h2 h3
 generalize hX:x ^^^ y=X at a3 a5 a6 e3 h1 h3
 generalize hXD:x ^^^ D=XD at a4 a5 a6 e3 h2 h3
 generalize hA:X &&& XD=A at a5 a6 e3 h3
 generalize hC:(if 2147483648≤D then(1:Int) else 0)=C1 at a2 e1
 generalize hC2:(if 2147483648≤A then(1:Int) else 0)=C2 at a6 e3
 unfold Uv
 simp only [←e1,←e2,←e3]
 simp [-kU,avC,a1,a2,a3,a4,a5,a6]
end
end Go.Proofs.YtaaccaifoddaiaaGreat
