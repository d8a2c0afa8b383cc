/-
  The texts WG.A, WG.B, WG.C, WG.D, WG.E, WG.F, WG.G, WG.H, WG.I, WG.J, WG.K, WG.L, WG.O, WG.Q, WG.R, WG.S1, WG.S2, WG.S3, WG.S4, WG.T, WG.U, WG.V, WG.W, WG.X1, WG.X2, WG.X3, WG.X4, WG.Y, WG.Z, WG.ZA, WG.ZB, WG.ZC, WG.ZD, WG.BA, WG.CA, one behind another. No conditions.
-/
import Derived.Test.YtlddmnojanpdoaaGreatDoorPLg1
import Derived.Test.YtlddmnojanpdoaaGreatDoorPWg1
set_option linter.unusedVariables false
set_option linter.unusedSimpArgs false
set_option linter.all false
open Bool renaming and_eq_true → am2, false_eq_true → ak4
open Int renaming cast_ofNat_Int → ae8, natCast_add → ag9
open List renaming all_eq_true → ag3, append_assoc → al2, append_nil → al6, cons_append → af5, getElem?_eq_getElem → ac1, getElem?_eq_some_iff → ab2, getElem?_map → ag6, length → ab7, length_append → ac6, length_cons → am1, length_map → ak1, length_nil → am3, map_cons → ak9, mem_of_getElem? → am4, nil_append → an4
open Nat renaming add_mul → ak3, zero_add → al7, zero_le → ak5
open Option renaming bind_some → an3
namespace Go.Proofs.YtlddmnojanpdoaaGreatDoor
section
open Go Hk
structure GT where
 elem:Int
 len:Int
 label:Int
 deriving DecidableEq
inductive GE where
 | mk (kind pos num:Int) (name:List UInt8) (args:List GE)
inductive GS where
 | mk (kind pos sE:Int) (name:List UInt8) (ty:GT) (args:List GE) (body els:List GS) (has:Bool)
structure GP where
 pos:Int
 name:List UInt8
 ty:GT
 out:Bool
structure GF where
 pos:Int
 name:List UInt8
 params:List GP
 has:Bool
 result:GT
 body:List GS
def GT.cells (t:GT):List kP:=[.int .i64 t.elem,.int .i64 t.len,.int .i64 t.label]
mutual
def GE.cells:GE→List kP
 | .mk k p n name args=>[.int .i64 k,.int .i64 p,.int .i64 n,.str name,.slice (GE.rows args) .no]
def GE.rows:List GE→List (List kP)
 | []=>[]
 | x::r=>x.cells::GE.rows r
end
theorem GE.pM:∀l:List GE,GE.rows l=l.map GE.cells
 | []=>rfl
 | x::r=>by simp [GE.rows,GE.pM r]
mutual
def GS.cells:GS→List kP
 | .mk k p m name ty args body els has=>[.int .i64 k,.int .i64 p,.int .i64 m,.str name,.int .i64 ty.elem,.int .i64 ty.len,.int .i64 ty.label,
   .slice (args.map GE.cells) .no,.slice (GS.rows body) .no,.slice (GS.rows els) .no,.bool has]
def GS.rows:List GS→List (List kP)
 | []=>[]
 | x::r=>x.cells::GS.rows r
end
theorem GS.pM:∀l:List GS,GS.rows l=l.map GS.cells
 | []=>rfl
 | x::r=>by simp [GS.rows,GS.pM r]
def GP.cells (p:GP):List kP:=[.int .i64 p.pos,.str p.name,.int .i64 p.ty.elem,.int .i64 p.ty.len,.int .i64 p.ty.label,.bool p.out]
def GF.cells (f:GF):List kP:=[.int .i64 f.pos,.str f.name,.slice (f.params.map GP.cells) .no,.bool f.has,.int .i64 f.result.elem,.int .i64 f.result.len,.int .i64 f.result.label,.slice (f.body.map GS.cells) .no]
def GE.kind:GE→Int | .mk k _ _ _ _=>k
def GE.num:GE→Int | .mk _ _ n _ _=>n
def GE.name:GE→List UInt8 | .mk _ _ _ n _=>n
def GE.args:GE→List GE | .mk _ _ _ _ a=>a
mutual
def GE.size:GE→Nat
 | .mk _ _ _ _ args=>1+GE.pD args
def GE.pD:List GE→Nat
 | []=>0
 | x::r=>x.size+GE.pD r
end
mutual
def GS.size:GS→Nat
 | .mk _ _ _ _ _ args body els _=>1+GE.pD args+GS.pD body+GS.pD els
def GS.pD:List GS→Nat
 | []=>0
 | x::r=>x.size+GS.pD r
end
theorem GE.qQ {x:GE}:∀{l:List GE},x∈l→x.size≤GE.pD l
 | y::r,h=>by
  simp only [GE.pD]
  cases h with
  | head=>omega
  | tail _ h=>have:=GE.qQ h; omega
theorem GS.qQ {x:GS}:∀{l:List GS},x∈l→x.size≤GS.pD l
 | y::r,h=>by
  simp only [GS.pD]
  cases h with
  | head=>omega
  | tail _ h=>have:=GS.qQ h; omega
def pH (s:List UInt8):Bool:=match oT s with
 | ([t,_],0,_)=>t.kind == 1 && t.text == s
 | _=>false
def lM (s:List UInt8) (has:Bool):Bool:=if has then pH s else s == []
def vB (n:Int):Bool:=decide (0≤n∧n≤4294967295)
def lF (n:Int) (has:Bool):Bool:=if has then vB n else n == 0
def uB (k:Int):Option Int :=
 if k < 1∨26 < k then none else some ((([0,0,0,1,-1,1,1,1,2,2,2,2,2,2,1,1,1,2,2,2,2,2,2,2,2,3,1]:List Int)[k.toNat]?).getD 0)
def rK (k n:Int) (name:List UInt8) (len:Nat):Bool:=match uB k with
 | none=>false
 | some m=>(m == -1 || m == (len:Int)) && lM name (k == 2 || k == 3 || k == 4) && lF n (k == 1 || k == 14 || k == 15 || k == 16)
mutual
def mY:GE→Bool
 | .mk k _ n name args=>rK k n name args.length && mZ args
def mZ:List GE→Bool
 | []=>true
 | x::r=>mY x && mZ r
end
def rV (t:GT):Bool:=(t.label == 0 || t.label == 1) && vB t.len && (t.elem == 0 || t.elem == 1 && t.len == 0 || t.elem == 2 && t.len != 0)
def GT.zero:GT:=⟨0,0,0⟩
def lO (k:Int):Option Nat :=
 if k < 1∨8 < k then none else some ((([0,1,0,1,2,1,1,1,1]:List Nat)[k.toNat]?).getD 0)
def Rm:List GE→Bool
 | x::_=>x.kind == 4
 | []=>false
def lW (k m:Int) (name:List UInt8) (ty:GT) (args:List GE) (nb ne:Nat) (has:Bool):Bool:=match lO k with
 | none=>false
 | some n=>args.length == n && lM name (!(k == 5 || k == 7 || k == 8)) && mZ args && lF m (k == 6) && (if k == 2 then rV ty else ty == GT.zero) &&
   (!(k == 7) || Rm args) && (k == 5 || k == 6 || nb == 0) && (k == 5 || !has) && (has || ne == 0)
mutual
def pQ:GS→Bool
 | .mk k _ m name ty args body els has=>lW k m name ty args body.length els.length has && oI body && oI els
def oI:List GS→Bool
 | []=>true
 | x::r=>pQ x && oI r
end
def uF (p:GP):Bool:=pH p.name && rV p.ty
def qE (f:GF):Bool:=pH f.name && oI f.body && f.params.all uF && (if f.has then rV f.result && f.result.len == 0 && f.result.elem != 2 else f.result == GT.zero)
def lD (k:Int):Nat:=(([8,8,8,8,8,8,8,8,6,6,7,4,2,3,5,5,8,1,1,1,1,1,1,8,8,8,8]:List Nat)[k.toNat]?).getD 8
def nS (k:Int):List UInt8:=(([[],[],[],[],[],[126],[45],[33],[43],[45],[42],[38],[124],[94],[60,60],[62,62],[114,111,114],[61,61],[33,61],[60],[60,61],[62],[62,61],
 [109,117,108,104,105],[99,97,114,114,121],[115,101,108,101,99,116],[119,111,114,100]]:List (List UInt8))[k.toNat]?).getD []
def uK (n:Int):List UInt8:=Dz n.toNat
abbrev Part:=Int×List UInt8×Nat
def tI (bare:Bool) (p:Part):List UInt8:=if bare then p.2.1 else 40::(p.2.1++[41])
def qP (bare:Bool) (p:Part):Nat:=if bare then p.2.2 else p.2.2+1
def mK (t:Nat) (k:Int):Bool:=decide (t < lD k∨lD k=t∧1 < t)
def vC:List Part→List UInt8
 | []=>[]
 | [p]=>p.2.1
 | p::r=>p.2.1++44::32::vC r
def uR:List Part→Nat
 | []=>0
 | p::r=>max p.2.2 (uR r)
def tO (k n:Int) (name:List UInt8) (l:List Part):List UInt8 :=
 if lD k < 8 then match l with
  | [a]=>tI (mK (lD k) a.1) a++32::(nS k++32::uK n)
  | a::b::_=>tI (mK (lD k) a.1) a++32::(nS k++32::tI (decide (lD k < lD b.1)) b)
  | []=>[]
 else if k=1 then uK n else if k=2 then name
 else if k=3 then(match l with | a::_=>name++91::(a.2.1++[93]) | []=>[])
 else if k=5∨k=6∨k=7 then(match l with | a::_=>nS k++tI (decide (lD a.1=8)) a | []=>[])
 else nS k++name++40::(vC l++(if k=16 then 44::32::uK n else [])++[41])
def wG (k:Int) (l:List Part):Nat :=
 if lD k < 8 then match l with
  | [a]=>qP (mK (lD k) a.1) a
  | a::b::_=>max (qP (mK (lD k) a.1) a) (qP (decide (lD k < lD b.1)) b)
  | []=>0
 else if k=1∨k=2 then 0
 else if k=3 then(match l with | a::_=>a.2.2+1 | []=>0)
 else if k=5∨k=6∨k=7 then(match l with | a::_=>qP (decide (lD a.1=8)) a+1 | []=>0)
 else uR l+1
mutual
def lU:GE→Part
 | .mk k _ n name args=>(k,tO k n name (rP args),wG k (rP args))
def rP:List GE→List Part
 | []=>[]
 | x::r=>lU x::rP r
end
theorem Dl:∀l:List GE,rP l=l.map lU
 | []=>rfl
 | x::r=>by simp [rP,Dl r]
theorem wL:∀l:List GE,mZ l=l.all mY
 | []=>rfl
 | x::r=>by simp [mZ,wL r]
theorem xK:∀l:List GS,oI l=l.all pQ
 | []=>rfl
 | x::r=>by simp [oI,xK r]
def mB (x:GE):List UInt8:=(lU x).2.1
def lS (x:GE):Nat:=(lU x).2.2
def oO (l:Int):List UInt8:=if l=1 then [115,101,99,32] else [112,117,98,32]
def vO (t:GT):List UInt8:=(if t.elem=1 then [109,97,115,107] else if t.elem=2 then [117,56] else [117,51,50])++(if 0 < t.len then 91::(uK t.len++[93]) else [])
def qA (n:Nat):List UInt8:=List.replicate n 32
def nQ (n:Nat) (l:List (List UInt8)):List UInt8:=32::123::10::((l.map fun t=>qA (n+1)++t++[10]).flatten++qA n++[125])
def xC (k m:Int) (name:List UInt8) (ty:GT) (args:List (List UInt8)) (body els:List UInt8) (has:Bool):List UInt8 :=
 let a:=(args[0]?).getD []
 if k=1 then [108,101,116,32]++name++[32,61,32]++a++[59]
 else if k=2 then [118,97,114,32]++oO ty.label++name++[58,32]++vO ty++[59]
 else if k=3 then name++[32,61,32]++a++[59]
 else if k=4 then name++91::(a++[93])++[32,61,32]++(args[1]?).getD []++[59]
 else if k=5 then [105,102,32]++a++body++(if has then [32,101,108,115,101]++els else [])
 else if k=6 then [102,111,114,32]++name++[32,60,32]++a++[32,109,97,120,32]++uK m++body
 else if k=8 then [114,101,116,117,114,110,32]++a++[59]
 else a++[59]
def We (k:Int) (args:List Nat) (body els:Nat) (has:Bool):Nat :=
 let a:=(args[0]?).getD 0
 if k=2 then 0 else if k=4 then max (a+1) ((args[1]?).getD 0) else if k=5 then(if has then max a (max body els) else max a body) else if k=6 then max a body else a
mutual
def p_ (n:Nat):GS→List UInt8
 | .mk k _ m name ty args body els has=>xC k m name ty (args.map mB) (nQ n (n9 (n+1) body)) (nQ n (n9 (n+1) els)) has
def n9 (n:Nat):List GS→List (List UInt8)
 | []=>[]
 | x::r=>p_ n x::n9 n r
end
def pV:List Nat→Nat
 | []=>0
 | x::r=>max x (pV r)
mutual
def qN:GS→Nat
 | .mk k _ _ _ _ args body els has=>We k (args.map lS) (pV (nZ body)+1) (pV (nZ els)+1) has
def nZ:List GS→List Nat
 | []=>[]
 | x::r=>qN x::nZ r
end
theorem OM (n:Nat):∀l:List GS,n9 n l=l.map (p_ n)
 | []=>rfl
 | x::r=>by simp [n9,OM n r]
theorem Ff:∀l:List GS,nZ l=l.map qN
 | []=>rfl
 | x::r=>by simp [nZ,Ff r]
def pP (p:GP):List UInt8:=(if p.out then [111,117,116,32] else [])++oO p.ty.label++p.name++[58,32]++vO p.ty
def wO:List (List UInt8)→List UInt8
 | []=>[]
 | [p]=>p
 | p::r=>p++44::32::wO r
def qI (f:GF):List UInt8:=[102,110,32]++f.name++[40]++wO (f.params.map pP)++[41]++(if f.has then [58,32]++oO f.result.label++vO f.result else []) ++
 nQ 0 (n9 1 f.body)++[10]
def wD (f:GF):Nat:=pV (nZ f.body)+1
def xQ (l:List GF):List UInt8×Int :=
 if l.all qE then(if 64 < pV (l.map wD) then([],11) else((l.map qI).flatten,0)) else([],2)
end
section
open Go Hk
structure WS where
 a:List kP
 ok:∀m h,nK m h a=some a
 u:Bool
 bs:List UInt8
 now:Nat
 over:Bool
 ln:Nat
def CY (w:WS) (bs:List UInt8):List kP:=[bif w.u then .ptr 1 0 else .nilptr,.slice (tV bs) (.own 2),.int .i64 (w.now:Int),.bool w.over,.int .i64 (w.ln:Int)]
def WFr:List UInt8→lR
 | []=>.front 0 0
 | b::r=>.front (r.length+1) 1 6
def Ks (w:WS) (cs fs:List UInt8) (B:List lR):kT:=.cells w.a::.tcells 86 (CY w cs)::WFr fs::B
def WH (w:WS) (B:List lR):kT:=Ks w w.bs w.bs B
def Still (B:List lR):Prop:=∀m h,nX m h B=some B
section
variable {w:WS}{B:List lR}{cs fs:List UInt8}
theorem pJ {C:List lR}:WH w B++C=WH w (B++C):=rfl
theorem nF:ab7 (WH w B)=B.length+3:=rfl
theorem oF:Still []:=fun _ _=>rfl
theorem Hu {m:Nat}{h:kT}:∀{B C:List lR},nX m h B=some B→nX m h C=some C→nX m h (B++C)=some (B++C)
 | [],_,_,h2=>h2
 | b::r,C,h1,h2=>by
  simp only [nX] at h1
  split at h1
  ·rename_i b' r' e1 e2
   simp only [Option.some.injEq,List.cons.injEq] at h1
   obtain⟨rfl,rfl⟩:=h1
   simp only [af5,nX,e1,Hu e2 h2]
  ·cases h1
theorem pI {C:List lR}(h1:Still B) (h2:Still C):Still (B++C):=fun m h=>Hu (h1 m h) (h2 m h)
theorem ES {n s:Nat}:Still [.front n s]:=fun _ _=>rfl
theorem NV (h:Still B) {m:Nat}{x:kT}(hm:3≤m):nX m x (Ks w cs fs B)=some (Ks w cs fs B):=by
 have h1:nK m x (CY w cs)=some (CY w cs):=by
  obtain⟨a,ok,u,b,n,o,l⟩:=w
  have e1:(1:Nat) < m:=by omega
  have e2:(2:Nat) < m:=by omega
  have e3:kP.m_ m x (.ptr 1 0)=.ptr 1 0:=lN e1
  have e4:kP.m_ m x .nilptr=.nilptr:=rfl
  have e5:kP.mH (.ptr 1 0)=true:=rfl
  have e6:kP.mH .nilptr=true:=rfl
  cases u <;> simp [CY,e2,e3,e4,e5,e6]
 have h2:qB m x (.tcells 86 (CY w cs))=some (.tcells 86 (CY w cs)):=by simp [qB,h1]
 have h3:qB m x (WFr fs)=some (WFr fs):=by cases fs <;> rfl
 have h4:qB m x (.cells w.a)=some (.cells w.a):=by simp [w.ok m x]
 simp only [Ks,oV,h2,h3,h4,h m x,an3,Option.map_some]
theorem oG {C:List lR}(h:Still B):mI (B.length+3) (WH w (B++C))=some (WH w B):=by
 have:(WH w (B++C)).take (B.length+3)=WH w B:=by simp [WH,Ks]
 simp only [mI,this]
 exact NV h (by omega)
theorem s_ (h:Still B):mI (B.length+3) (WH w B)=some (WH w B):=by
 have:=oG (w:=w) (C:=[]) h
 simpa using this
end
section
variable {w:WS}{B:List lR}{u:Bool}{bs x cs fs:List UInt8}{now ln:Nat}{ov:Bool}
@[simp] theorem aHl:mA false 1 (Ks w cs fs B) (.ptr 1 1)=some (.slice (tV cs) (.own 2)):=(rfl)
@[simp] theorem aHm:mA false 1 (WH w B) (.ptr 1 2)=some (.int .i64 (w.now:Int)):=(rfl)
@[simp] theorem aHn:mA false 1 (WH w B) (.ptr 1 3)=some (.bool w.over):=(rfl)
@[simp] theorem aHo:mA false 1 (WH w B) (.ptr 1 4)=some (.int .i64 (w.ln:Int)):=(rfl)
@[simp] theorem aHF:p8 1 (Ks w cs fs B) (.ptr 1 1) (.slice (tV x) (.own 2))=some (Ks w x fs B):=by cases x <;> rfl
theorem aoQ {n:Nat}:p8 1 (WH w B) (.ptr 1 2) (.int .i64 (n:Int))=some (WH { w with now:=n } B):=(rfl)
@[simp] theorem aHH {b:Bool}:p8 1 (WH w B) (.ptr 1 3) (.bool b)=some (WH { w with over:=b } B):=(rfl)
theorem AK:(tV bs).length=bs.length:=by simp [tV]
theorem Yz:tV bs++tV x=tV (bs++x):=by simp [tV]
theorem ag7 {h:kT}{t:Tok}:qU 1 h (.slice (tV x) t)=some (tV x):=by
 simp only [qU]
 rw [if_pos]
 simp [tV]
theorem aDh (hb:cs.length+x.length≤140737488355328):Aw 6 1 1 1 (Ks w cs cs B) (.slice (tV cs) (.own 2)) (.str x)=some (.slice (tV (cs++x)) (.own 2),Ks w cs (cs++x) B):=by
 have h0:Aw 6 1 1 1 (Ks w cs cs B) (.slice (tV cs) (.own 2)) (.str x)=yR 6 1 1 (Ks w cs cs B) (.slice (tV cs) (.own 2)) (.slice (tV x) .no):=rfl
 rw [h0]
 unfold yR
 rw [ag7]
 have e1:∀b,(Ks w cs b B)[2]?=some (WFr b):=fun _=>rfl
 simp only [e1]
 cases cs with
 | nil =>
  cases x with
  | nil=>rfl
  | cons c r =>
   have hb':(0+(tV (c::r)).length) * 1≤140737488355328:=by rw [AK]; simp at hb ⊢; omega
   have hb2:0+(tV (c::r)).length≤140737488355328:=by omega
   have hl:(tV (c::r)).length=r.length+1:=by rw [AK]; rfl
   simp only [WFr]
   rw [if_pos ⟨by simp [tV],.inr ⟨trivial,trivial⟩,hb',hb2⟩,if_neg (by omega),hl]
   simp [tV,Ks,WFr]
 | cons b s =>
  simp only [WFr]
  have hb':(s.length+1+(tV x).length) * 1≤140737488355328:=by rw [AK]; simp at hb ⊢; omega
  have hl:(tV (b::s)).length=s.length+1:=by rw [AK]; rfl
  rw [if_pos ⟨hl,.inl trivial,hb',by omega⟩]
  cases x with
  | nil=>rw [if_pos (by rfl)]; simp
  | cons c r =>
   rw [if_neg (by rw [AK]; simp)]
   rw [Yz,AK]
   simp [Ks,WFr]
   omega
end
def WS.put (w:WS) (x:List UInt8):WS:={ w with u:=true,bs:=w.bs++x }
theorem WS.ak2 {w:WS}{x y:List UInt8}:(w.put x).put y=w.put (x++y):=by simp [WS.put]
@[simp] theorem WS.aER {w:WS}{x:List UInt8}:(w.put x).bs=w.bs++x:=rfl
@[simp] theorem WS.aCO {w:WS}{x:List UInt8}:(w.put x).now=w.now:=rfl
@[simp] theorem WS.aAF {w:WS}{x:List UInt8}:(w.put x).over=w.over:=rfl
@[simp] theorem WS.aES {w:WS}{x:List UInt8}:(w.put x).ln=w.ln:=rfl
section
variable {w:WS}{B:List lR}
theorem aDB:KK 161 [.ptr 1 0] (WH w B)=some (.ret (.tuple []),WH { w with u:=true } B):=by
 refine lJ (m:=D8 mV.bld .copyCheck [.ptr 1 0] (WH w B)) rfl ?_
 obtain⟨a,ok,u,bs,n,o,l⟩:=w
 cases u <;> rfl
theorem aDu (x:List UInt8) (hB:Still B) (hb:w.bs.length+x.length≤140737488355328) :
  KK 124 [.ptr 1 0,.str x] (WH w B)=some (.ret (.tuple [.int .i64 (x.length:Int),.niliface]),WH (w.put x) B):=by
 refine lJ (ajC _ _ _ _) ?_
 have h1:WH { w with u:=true } B=Ks { w with u:=true } w.bs w.bs B:=rfl
 have h2:=aDh (w:={ w with u:=true }) (B:=B) (cs:=w.bs) (x:=x) hb
 have h3:Ks { w with u:=true } (w.bs++x) (w.bs++x) B=WH (w.put x) B:=rfl
 have h4:=s_ (w:=w.put x) hB
 simp -implicitDefEqProofs [az0,aDB,h1,h2,h3,mJ,nF,h4]
 rfl
end
end
section
open Go Hk
theorem rY {a:Nat}(h:a≤9223372036854775806):IntKind.wrap .i64 ((a:Int)+1)=((a+1:Nat):Int):=by rw [wrap64] <;> omega
def q8 (s:List UInt8):List kP:=[.str s]
def WS.DV (w:WS) (xs:List (List UInt8)):WS:=xs.foldl WS.put w
@[simp] theorem WS.adG {w:WS}:w.DV []=w:=rfl
@[simp] theorem WS.aAG {w:WS}{x:List UInt8}:w.DV [x]=w.put x:=rfl
@[simp] theorem WS.axE {w:WS}{x y:List UInt8}{r:List (List UInt8)}:w.DV (x::y::r)=w.DV ((x++y)::r):=by
 simp [WS.DV,WS.ak2]
theorem WS.V6:∀{w:WS}{xs:List (List UInt8)},(w.DV xs).bs=w.bs++xs.flatten
 | w,[]=>by simp
 | w,x::r=>by
  have:=WS.V6 (w:=w.put x) (xs:=r)
  simp only [WS.DV,List.foldl_cons,List.flatten_cons] at this ⊢
  rw [this]; simp
theorem tL {α:Type}{l:List α}{i:Nat}{x:α}(h:l[i]?=some x):l.take (i+1)=l.take i++[x]:=by
 rw [List.take_succ,h]; rfl
section
variable {w:WS}{B:List lR}
theorem yZ {m:Nat}{h:kT}{o:Nat}:kP.m_ (m+3) h (.ptr 1 o)=.ptr 1 o:=lN (by omega)
theorem acI (xs:List (List UInt8)) (hB:Still B) (hb:w.bs.length+xs.flatten.length≤140737488355328) (hl:xs.length≤1000000):∀i,i≤xs.length →
  mQ (P5 KK (B.length+3)) ([.ptr 1 0,.slice (xs.map q8) .no,.int .i64 (xs.length:Int),.int .i64 (i:Int)],WH (w.DV (xs.take i)) B) =
   some (.exit 0,[.ptr 1 0,.slice (xs.map q8) .no,.int .i64 (xs.length:Int),.int .i64 (xs.length:Int)],WH (w.DV xs) B):=by
 refine tN (fun i:Nat=>([.ptr 1 0,.slice (xs.map q8) .no,.int .i64 (xs.length:Int),.int .i64 (i:Int)],WH (w.DV (xs.take i)) B)) (fun i=>i≤xs.length) (fun i=>xs.length - i) _ fun i hi=>?_
 by_cases h:i < xs.length
 ·left
  refine⟨i+1,?_,h,by omega,rfl⟩
  obtain⟨x,hx⟩:∃x,xs[i]?=some x:=⟨xs[i],ac1 h⟩
  have hp:w.DV (xs.take (i+1))=(w.DV (xs.take i)).put x:=by simp [WS.DV,tL hx]
  have hbl:(w.DV (xs.take i)).bs.length+x.length≤140737488355328:=by
   have e:xs.take (i+1)++xs.drop (i+1)=xs:=List.take_append_drop _ _
   have e2:=congrArg (fun l=>(List.flatten l).length) e
   simp only [List.flatten_append,ac6,tL hx,List.flatten_cons,List.flatten_nil,al6] at e2
   rw [WS.V6,ac6]
   omega
  have hc:=aDu (w:=w.DV (xs.take i)) x hB hbl
  have htr:=s_ (w:=(w.DV (xs.take i)).put x) hB
  have hi':(i:Int) < (xs.length:Int):=by omega
  have h1:(q8 x).length=1:=rfl
  have w1:=rY (a:=i) (by omega)
  have hld:∀h,mA false 1 h (.pptr (q8 x))=some (.str x):=fun _=>rfl
  simp -implicitDefEqProofs [P5,hi',hx,h1,hld,hc,lA,htr,w1,hp,yZ,-ag9]
 ·right
  have:i=xs.length:=by omega
  subst this
  have htr:=s_ (w:=w.DV xs) hB
  constructor
  ·simp -implicitDefEqProofs [P5,lA,htr,yZ]
  ·simp
theorem c68 (xs:List (List UInt8)) (hB:Still B) (hb:w.bs.length+xs.flatten.length≤140737488355328) (hl:xs.length≤1000000) :
  KK 68 [.ptr 1 0,.slice (xs.map q8) .no] (WH w B)=some (.ret (.tuple []),WH (w.DV xs) B):=by
 refine lJ (atA _ _ _ _) ?_
 have h1:=acI (w:=w) xs hB hb hl 0 (ak5 _)
 simp only [List.take_zero,WS.adG,Int.natCast_zero,ae8] at h1
 have htr:=s_ (w:=w.DV xs) hB
 simp -implicitDefEqProofs [m68,nF,h1,mJ,htr]
end
theorem N3:∀(k n:Nat) (acc:List UInt8),n < 10 ^ k→n≠0→TA k n acc=Cg n acc
 | 0,n,acc,h,h0=>by simp at h; omega
 | k+1,n,acc,h,h0=>by
  rw [Cg,if_neg h0]
  unfold TA
  by_cases h1:n < 10
  ·rw [if_pos h1]
   have h2:n / 10=0:=by omega
   have h3:n % 10=n:=by omega
   rw [h2,h3,Cg,if_pos rfl]
  ·rw [if_neg h1]
   exact N3 k _ _ (by rw [Nat.pow_succ] at h; omega) (by omega)
theorem Xt (n:Nat) (h:n < 100000000000000000000):Oc (n:Int)=Dz n:=by
 unfold Oc Dz
 rw [if_neg (by omega)]
 by_cases h0:n=0
 ·subst h0; rfl
 ·rw [if_neg h0]
  exact N3 20 n [] h h0
theorem Xu {n:Int}(h0:0≤n) (h:n < 9223372036854775808):Oc n=uK n:=by
 obtain⟨m,rfl⟩:=Int.eq_ofNat_of_zero_le h0
 exact Xt m (by omega)
theorem c89 (n:Int) (h0:0≤n) (hn:n < 9223372036854775808) (h:kT):KK 89 [.int .i64 n] h=some (.ret (.str (uK n)),h):=by
 refine lK rfl rfl (lJ (m:=D8 mV.bld (.fn R0) [.int .i64 n] []) rfl ?_)
 simp only [D8,R0]
 rw [if_pos (by omega),Xu h0 hn]
 rfl
theorem aDC (n:Nat) (hn:n≤1099511627776) (h:kT):KK 162 [.str [32],.int .i64 (n:Int)] h=some (.ret (.str (qA n)),h):=by
 refine lK rfl rfl (lJ (m:=D8 mV.bld (.fn adU) [.str [32],.int .i64 (n:Int)] []) rfl ?_)
 simp only [D8,adU]
 rw [if_pos (by omega)]
 rfl
theorem ahD {x:List UInt8}{h:kT}:lB 1 1 [.str []] [(0,.str x)] h=some (.slice ([x].map q8) (.own h.length),h++[.front 1 1]):=(rfl)
section
variable {w:WS}{B:List lR}
theorem p1 {x:List UInt8}{n:Nat}(hB:Still B) (hb:w.bs.length+x.length≤140737488355328) :
  KK 68 [.ptr 1 0,.slice [q8 x] .no] (WH w (B++[.front n 1]))=some (.ret (.tuple []),WH (w.put x) (B++[.front n 1])):=by
 have:=c68 (w:=w) (B:=B++[.front n 1]) [x] (pI hB ES) (by simpa using hb) (by simp)
 simpa using this
theorem p2 {x y:List UInt8}{n:Nat}(hB:Still B) (hb:w.bs.length+(x++y).length≤140737488355328) :
  KK 68 [.ptr 1 0,.slice [q8 x,q8 y] .no] (WH w (B++[.front n 1]))=some (.ret (.tuple []),WH (w.put (x++y)) (B++[.front n 1])):=by
 have:=c68 (w:=w) (B:=B++[.front n 1]) [x,y] (pI hB ES) (by simpa using hb) (by simp)
 simpa using this
theorem c84 (n:Int) (h0:0≤n) (hn:n < 9223372036854775808) (hB:Still B) (hb:w.bs.length+(uK n).length≤140737488355328) :
  KK 84 [.ptr 1 0,.int .i64 n] (WH w B)=some (.ret (.tuple []),WH (w.put (uK n)) B):=by
 refine lJ (atS _ _ _ _) ?_
 have h2:=p1 (w:=w) (n:=1) hB hb
 have htr:=oG (w:=w.put (uK n)) (C:=[.front 1 1]) hB
 simp -implicitDefEqProofs [m84,c89 n h0 hn,ahD,pJ,nF,h2,mJ,htr]
def WS.up (w:WS):WS:={ w with now:=w.now+1,over:=w.over || decide (64 < w.now+1) }
def WS.down (w:WS):WS:={ w with now:=w.now - 1 }
theorem c85 (hB:Still B) (hn:w.now≤1000000000000000000):KK 85 [.ptr 1 2] (WH w B)=some (.ret (.tuple []),WH w.up B):=by
 refine lJ (atT _ _ _) ?_
 have w1:=rY (a:=w.now) (by omega)
 have e1:=aoQ (w:=w) (B:=B) (n:=w.now+1)
 have htr:=s_ (w:=w.up) hB
 obtain⟨a,ok,u,bs,now,ov,ln⟩:=w
 have hd:(64:Int) < ((now+1:Nat):Int)↔64 < now+1:=by omega
 cases ov
 ·simp only [WS.up,Bool.false_or] at htr ⊢
  simp -implicitDefEqProofs [m85,w1,e1,nF,mJ,htr,hd,-ag9]
 ·simp only [WS.up,Bool.true_or] at htr ⊢
  simp -implicitDefEqProofs [m85,w1,e1,nF,mJ,htr,-ag9]
theorem c86 (hB:Still B) (hn:w.now≤1000000000000000000) (h1:1≤w.now):KK 86 [.ptr 1 2] (WH w B)=some (.ret (.tuple []),WH w.down B):=by
 refine lJ (atU _ _ _) ?_
 have w1:IntKind.wrap .i64 ((w.now:Int) - 1)=((w.now - 1:Nat):Int):=by rw [wrap64] <;> omega
 have e1:=aoQ (w:=w) (B:=B) (n:=w.now - 1)
 have htr:=s_ (w:=w.down) hB
 simp -implicitDefEqProofs [m86,w1,e1,nF,mJ]
 exact htr
theorem c69 (l:Int) (hB:Still B) (hb:w.bs.length+4≤140737488355328):KK 69 [.ptr 1 0,.int .i64 l] (WH w B)=some (.ret (.tuple []),WH (w.put (oO l)) B):=by
 refine lJ (atB _ _ _ _) ?_
 by_cases h:l=1
 ·have h2:=p1 (w:=w) (x:=[115,101,99,32]) (n:=1) hB hb
  have htr:=oG (w:=w.put [115,101,99,32]) (C:=[.front 1 1]) hB
  simp -implicitDefEqProofs [m69,h,oO,ahD,pJ,nF,h2,mJ,htr]
 ·have h2:=p1 (w:=w) (x:=[112,117,98,32]) (n:=1) hB hb
  have htr:=oG (w:=w.put [112,117,98,32]) (C:=[.front 1 1]) hB
  simp -implicitDefEqProofs [m69,h,oO,ahD,pJ,nF,h2,mJ,htr]
theorem ayQ (hB:Still B) (hn:w.ln≤1099511627776) (hb:w.bs.length+w.ln≤140737488355328):KK 125 [.ptr 1 0] (WH w B)=some (.ret (.tuple []),WH (w.put (qA w.ln)) B):=by
 refine lJ (ajD _ _ _) ?_
 have h2:=p1 (w:=w) (x:=qA w.ln) (n:=1) hB (by simpa [qA] using hb)
 have htr:=oG (w:=w.put (qA w.ln)) (C:=[.front 1 1]) hB
 simp -implicitDefEqProofs [az1,aDC w.ln hn,ahD,pJ,nF,h2,mJ,htr]
end
end
section
open Go Hk
def nn (k m:Nat):Nat:=if m=0 then 0 else k+m
@[simp] theorem akU {k:Nat}:nn k 0=0:=rfl
def WS.st (w:WS) (x:List UInt8) (n k:Nat):WS:={ w with u:=true,bs:=w.bs++x,now:=w.now+k,over:=w.over || decide (0 < n∧64 < w.now+n) }
@[simp] theorem WS.aGk {w:WS}{x:List UInt8}{n k:Nat}:(w.st x n k).bs=w.bs++x:=rfl
@[simp] theorem WS.aE5 {w:WS}{x:List UInt8}{n k:Nat}:(w.st x n k).now=w.now+k:=rfl
@[simp] theorem WS.aGl {w:WS}{x:List UInt8}{n k:Nat}:(w.st x n k).ln=w.ln:=rfl
@[simp] theorem WS.aET {w:WS}{x:List UInt8}:w.put x=w.st x 0 0:=by simp [WS.put,WS.st]
theorem WS.Bm {w:WS}{x y:List UInt8}{n m k l:Nat}(h1:x=y) (h2:n=m) (h3:k=l):w.st x n k=w.st y m l:=by rw [h1,h2,h3]
@[simp] theorem WS.aeH {w:WS}{x y:List UInt8}{n k m l:Nat}:(w.st x n k).st y m l=w.st (x++y) (max n (nn k m)) (k+l):=by
 simp only [WS.st,al2,Nat.add_assoc,WS.mk.injEq,true_and,and_true,Bool.or_assoc]
 have:decide (0 < max n (nn k m)∧64 < w.now+max n (nn k m))=(decide (0 < n∧64 < w.now+n) || decide (0 < m∧64 < w.now+(k+m))):=by
  rw [←Bool.decide_or]
  apply decide_eq_decide.2
  unfold nn
  split <;> omega
 rw [this]
@[simp] theorem WS.aGm {w:WS}{x:List UInt8}{n k:Nat}:(w.st x n k).up=w.st x (max n (k+1)) (k+1):=by
 simp only [WS.st,WS.up,WS.mk.injEq,true_and,and_true,Bool.or_assoc,Nat.add_assoc]
 have:decide (0 < max n (k+1)∧64 < w.now+max n (k+1))=(decide (0 < n∧64 < w.now+n) || decide (64 < w.now+(k+1))):=by
  rw [←Bool.decide_or]
  apply decide_eq_decide.2
  omega
 rw [this]
@[simp] theorem WS.aCZ {w:WS}{x:List UInt8}{n k:Nat}:(w.st x n (k+1)).down=w.st x n k:=by simp [WS.st,WS.down,←Nat.add_assoc]
@[simp] theorem GE.rA (x:GE):x.cells.length=5:=by cases x; simp [GE.cells]
@[simp] theorem GS.rA (x:GS):x.cells.length=11:=by cases x; simp [GS.cells]
theorem GE.still (x:GE) (m:Nat) (h:kT):nK m h x.cells=some x.cells:=by cases x; simp [GE.cells]
@[simp] theorem GE.UL (x:GE):x.cells.map kP.tP=x.cells:=by cases x; simp [GE.cells]
@[simp] theorem GE.aGo (x:GE):x.cells.take 5=x.cells:=by cases x; rfl
theorem uQ:∀{vs:List kP}{k:Nat},(∀c∈vs,c.isNil=false)→lL k vs=(vs,[])
 | [],_,_=>rfl
 | v::vs,k,hn=>by
  have h1:=hn v (by simp)
  have h2:=uQ (vs:=vs) (k:=k) fun c hc=>hn c (by simp [hc])
  unfold lL
  split
  ·rename_i e; cases e
  ·rename_i e; simp only [List.cons.injEq] at e; obtain⟨rfl,rfl⟩:=e; simp [kP.isNil] at h1
  ·rename_i e; simp only [List.cons.injEq] at e; obtain⟨rfl,rfl⟩:=e; rw [h2]
theorem GE.tok (x:GE) {k:Nat}:lL k x.cells=(x.cells,[]):=uQ (by cases x; simp [GE.cells,kP.isNil])
theorem GE.Rq (x:GE):x.cells.all kP.mH=true:=by cases x; simp [GE.cells,kP.mH]
section
variable {w:WS}{B C:List lR}{cs:List kP}
theorem mP {n s:Nat}(h:Still C):Still (.front n s::C):=fun m x=>by simp [h m x]
theorem Mx {x:GE}(h:Still C):Still (.cells x.cells::C):=fun m y=>by simp [x.still m y,h m y]
theorem SP {n s:Nat}(h:Still B):Still (B++[.front n s]):=pI h (mP oF)
theorem Am {x:GE}(h:Still B):Still (B++[.cells x.cells]):=pI h (Mx oF)
theorem An {x:GE}{n s:Nat}(h:Still B):Still (B++[.cells x.cells,.front n s]):=pI h (Mx (mP oF))
theorem Mw {x:GE}{n s n' s':Nat}(h:Still B):Still (B++[.cells x.cells,.front n s,.front n' s']):=pI h (Mx (mP (mP oF)))
theorem zH {x:GE}:lZ 5 (WH w B) (.agg x.cells)=some (.ptr (B.length+3) 0,WH w (B++[.cells x.cells])):=by
 simp [lZ,x.tok,x.Rq,nF,pJ]
theorem TK:(WH w (B++.cells cs::C))[B.length+3]?=some (.cells cs):=by simp [WH,Ks]
@[simp] theorem ldB {i:Nat}:mA false 1 (WH w (B++.cells cs::C)) (.ptr (B.length+3) i)=cs[i]?:=by
 have e:=TK (w:=w) (B:=B) (C:=C) (cs:=cs)
 simp only [mA,Bw,e,WQ,oM,an3]
@[simp] theorem aEe {n i:Nat}:mA true n (WH w (B++.cells cs::C)) (.ptr (B.length+3) i)=if i+n≤cs.length then some (.agg ((cs.drop i).take n)) else none:=by
 have e:=TK (w:=w) (B:=B) (C:=C) (cs:=cs)
 simp only [mA,Bw,e,Tq,oM,an3]
end
def xN (k:Int):Nat:=if lD k < 8 then lD k else 0
def WZ (k:Int):List UInt8:=if lD k < 8 then nS k else []
theorem zZ {k:Int}(h:1≤k∧k≤26):k=1∨k=2∨k=3∨k=4∨k=5∨k=6∨k=7∨k=8∨k=9∨k=10∨k=11∨k=12∨k=13∨k=14∨k=15∨k=16∨k=17∨k=18∨k=19∨k=20∨k=21∨k=22∨k=23∨k=24∨k=25∨k=26:=by omega
theorem c82 (k:Int) (hk:1≤k∧k≤26) (h:kT):KK 82 [.int .i64 k] h=some (.ret (.tuple [.int .i64 (xN k:Int),.str (WZ k)]),h):=by
 refine lK rfl rfl (lJ (atP _ _ _) ?_)
 rcases zZ hk with rfl | rfl | rfl | rfl | rfl | rfl | rfl | rfl | rfl | rfl | rfl | rfl | rfl | rfl | rfl | rfl | rfl | rfl | rfl | rfl | rfl | rfl | rfl | rfl | rfl | rfl <;>
  simp -implicitDefEqProofs [m82,kS,xN,WZ,lD,nS]
section
variable {w:WS}{B:List lR}{x y z:List UInt8}
theorem P1 (hB:Still B) (hb:w.bs.length+x.length≤140737488355328):KK 68 [.ptr 1 0,.slice [q8 x] .no] (WH w B)=some (.ret (.tuple []),WH (w.st x 0 0) B):=by
 have:=c68 (w:=w) (B:=B) [x] hB (by simpa using hb) (by simp)
 simpa using this
theorem P2 (hB:Still B) (hb:w.bs.length+(x.length+y.length)≤140737488355328):KK 68 [.ptr 1 0,.slice [q8 x,q8 y] .no] (WH w B)=some (.ret (.tuple []),WH (w.st (x++y) 0 0) B):=by
 have:=c68 (w:=w) (B:=B) [x,y] hB (by simpa using hb) (by simp)
 simpa using this
theorem P3 (hB:Still B) (hb:w.bs.length+(x.length+(y.length+z.length))≤140737488355328):KK 68 [.ptr 1 0,.slice [q8 x,q8 y,q8 z] .no] (WH w B)=some (.ret (.tuple []),WH (w.st (x++(y++z)) 0 0) B):=by
 have:=c68 (w:=w) (B:=B) [x,y,z] hB (by simpa using hb) (by simp)
 simpa using this
end
theorem v_ {x:List UInt8}{h:kT}:lB 1 1 [.str []] [(0,.str x)] h=some (.slice [q8 x] (.own h.length),h++[.front 1 1]):=(rfl)
theorem GG {x y:List UInt8}{h:kT}:lB 2 1 [.str []] [(0,.str x),(1,.str y)] h=some (.slice [q8 x,q8 y] (.own h.length),h++[.front 2 1]):=(rfl)
theorem BT {x y z:List UInt8}{h:kT}:lB 3 1 [.str []] [(0,.str x),(1,.str y),(2,.str z)] h=some (.slice [q8 x,q8 y,q8 z] (.own h.length),h++[.front 3 1]):=(rfl)
def WOk (f:Nat) (args:List kP) (t:List UInt8) (n:Nat):Prop:=∀(w:WS) (B:List lR),Still B→w.bs.length+t.length≤140737488355328→w.now+n≤1000000000000000 →
 KK f (.ptr 1 0::args) (WH w B)=some (.ret (.tuple []),WH (w.st t n 0) B)
def HH (x:GE):Prop:=WOk 37 [.agg x.cells] (mB x) (lS x)
theorem aDw {x:GE}(hx:HH x):WOk 129 [.agg x.cells] (40::(mB x++[41])) (lS x+1):=by
 intro w B hB hb hn
 simp only [am1,ac6,am3] at hb
 refine lJ (ajE _ _ _ _) ?_
 have s2:=Am (x:=x) hB
 have s3:=fun n s=>An (x:=x) (n:=n) (s:=s) hB
 have s4:=fun n s n' s'=>Mw (x:=x) (n:=n) (s:=s) (n':=n') (s':=s') hB
 have htr:=fun w C=>oG (w:=w) (C:=C) hB
 have e1:=P1 (w:=w) (x:=[40]) (s3 1 1) (by simp; omega)
 have e2:=c85 (w:=w.st [40] 0 0) (s3 1 1) (by simp; omega)
 have e3:=hx (w.st [40] 1 1) _ (s3 1 1) (by simp; omega) (by simp; omega)
 have e4:=c86 (w:=w.st (40::mB x) (max 1 (nn 1 (lS x))) 1) (s3 1 1) (by simp; omega) (by simp)
 have e5:=P1 (w:=w.st (40::mB x) (max 1 (nn 1 (lS x))) 0) (x:=[41]) (s4 1 1 1 1) (by simp; omega)
 simp -implicitDefEqProofs at e2 e3 e4 e5
 simp -implicitDefEqProofs [az2,zH,v_,pJ,e1,e2,e3,e4,e5,nF,mJ,htr]
 refine congrArg (fun w=>WH w B) (WS.Bm rfl ?_ rfl)
 unfold nn
 split <;> omega
@[simp] theorem GE.c0 (x:GE):x.cells[0]?=some (.int .i64 x.kind):=by cases x; rfl
@[simp] theorem GE.c2 (x:GE):x.cells[2]?=some (.int .i64 x.num):=by cases x; rfl
@[simp] theorem GE.c3 (x:GE):x.cells[3]?=some (.str x.name):=by cases x; rfl
@[simp] theorem GE.g0 (x:GE) {h:0 < x.cells.length}:x.cells[0]'h=.int .i64 x.kind:=by cases x; rfl
@[simp] theorem GE.g2 (x:GE) {h:2 < x.cells.length}:x.cells[2]'h=.int .i64 x.num:=by cases x; rfl
@[simp] theorem GE.g3 (x:GE) {h:3 < x.cells.length}:x.cells[3]'h=.str x.name:=by cases x; rfl
@[simp] theorem GE.g4 (x:GE) {h:4 < x.cells.length}:x.cells[4]'h=.slice (x.args.map GE.cells) .no:=by cases x; simp [GE.cells,GE.args,GE.pM]
theorem c83 {x:GE}(hx:HH x) (hk:1≤x.kind∧x.kind≤26) (l:Nat):WOk 83 [.agg x.cells,.int .i64 (l:Int)] (if 0 < xN x.kind∧xN x.kind < l then 40::(mB x++[41]) else mB x)
  (if 0 < xN x.kind∧xN x.kind < l then lS x+1 else lS x):=by
 intro w B hB hb hn
 refine lJ (atQ _ _ _ _ _) ?_
 have s2:=Am (x:=x) hB
 have htr:=fun w C=>oG (w:=w) (C:=C) hB
 have e0:=c82 x.kind hk
 by_cases h:0 < xN x.kind∧xN x.kind < l
 ·rw [if_pos h] at hb hn ⊢
  rw [if_pos h]
  have e1:=aDw hx w _ s2 hb hn
  obtain⟨h1,h2⟩:=h
  simp -implicitDefEqProofs [m83,zH,e0,h1,h2,nF,mJ,htr,e1]
 ·rw [if_neg h] at hb hn ⊢
  rw [if_neg h]
  have e1:=hx w _ s2 hb hn
  by_cases h1:0 < xN x.kind
  ·have h2:¬xN x.kind < l:=by omega
   simp -implicitDefEqProofs [m83,zH,e0,h1,h2,nF,mJ,htr,e1]
  ·simp -implicitDefEqProofs [m83,zH,e0,h1,nF,mJ,htr,e1]
theorem c88 {x:GE}(hx:HH x) (hk:1≤x.kind∧x.kind≤26) (s:List UInt8):WOk 88 [.str s,.agg x.cells] (s++(if 0 < xN x.kind∧xN x.kind < 8 then 40::(mB x++[41]) else mB x))
  ((if 0 < xN x.kind∧xN x.kind < 8 then lS x+1 else lS x)+1):=by
 intro w B hB hb hn
 have hc:=c83 hx hk 8
 generalize (if 0 < xN x.kind∧xN x.kind < 8 then 40::(mB x++[41]) else mB x)=t at hb hn hc ⊢
 generalize (if 0 < xN x.kind∧xN x.kind < 8 then lS x+1 else lS x)=n at hb hn hc ⊢
 simp only [ac6] at hb
 refine lJ (atW _ _ _ _ _) ?_
 have s3:=fun n s=>An (x:=x) (n:=n) (s:=s) hB
 have htr:=fun w C=>oG (w:=w) (C:=C) hB
 have e1:=P1 (w:=w) (x:=s) (s3 1 1) (by omega)
 have e2:=c85 (w:=w.st s 0 0) (s3 1 1) (by simp; omega)
 have e3:=hc (w.st s 1 1) _ (s3 1 1) (by simp; omega) (by simp; omega)
 have e4:=c86 (w:=w.st (s++t) (max 1 (nn 1 n)) 1) (s3 1 1) (by simp; omega) (by simp)
 simp -implicitDefEqProofs at e2 e3 e4
 simp -implicitDefEqProofs [m88,zH,v_,pJ,e1,e2,e3,e4,nF,mJ,htr]
 refine congrArg (fun w=>WH w B) (WS.Bm rfl ?_ rfl)
 unfold nn
 split <;> omega
theorem IL:∀(l:List Part) (p:Part),vC (l++[p])=vC l++(if l=[] then [] else [44,32])++p.2.1
 | [],p=>by simp [vC]
 | [q],p=>by simp [vC]
 | q::r::l,p=>by
  have:=IL (r::l) p
  simp only [af5,vC] at this ⊢
  rw [this]
  simp
theorem Oo:∀(l:List Part) (p:Part),uR (l++[p])=max (uR l) p.2.2
 | [],p=>by simp [uR]
 | q::l,p=>by
  simp only [af5,uR,Oo l p]
  omega
theorem SH (a:List Part):∀(b:List Part),(vC a).length≤(vC (a++b)).length
 | []=>by simp
 | p::b=>by
  have h1:=SH (a++[p]) b
  rw [al2] at h1
  rw [IL] at h1
  simp only [ac6,af5,an4] at h1
  omega
end
section
open Go Hk
section
variable {w:WS}{B C:List lR}{cs:List kP}
theorem amY:lZ 5 (WH w B) (.agg [.int .i64 0,.int .i64 0,.int .i64 0,.str [],.slice [] .nil]) =
  some (.ptr (B.length+3) 0,WH w (B++[.cells [.int .i64 0,.int .i64 0,.int .i64 0,.str [],.slice [] (.own (B.length+4))],.front 0 0])):=by
 simp [lZ,lL,nF,pJ]
theorem ad8 {b b':lR}:(WH w (B++b::C)).set (B.length+3) b'=WH w (B++b'::C):=by
 simp [WH,Ks]
theorem stE {x:GE}(hc:cs.length=5):p8 5 (WH w (B++.cells cs::C)) (.ptr (B.length+3) 0) (.agg x.cells)=some (WH w (B++.cells x.cells::C)):=by
 have e:=TK (w:=w) (B:=B) (C:=C) (cs:=cs)
 have hk:∀os,p9 (WH w (B++.cells cs::C)) os x.cells=x.cells:=fun os=>rC (by cases x; simp [GE.cells,kP.isNil])
 simp only [p8,Bw,e,Dx,oM,an3,E5,GE.rA,hc]
 rw [if_pos ⟨trivial,by omega,x.Rq⟩,hk]
 have:putCells cs 0 x.cells=x.cells:=by simp [putCells,hc]
 rw [this,ad8]
end
section
variable {w:WS}{B:List lR}
def z_ (l:List GE) (i:Nat):List UInt8:=vC ((l.take i).map lU)
def Ar (l:List GE) (i:Nat):Nat:=uR ((l.take i).map lU)
theorem Lf {l:List GE}{i:Nat}{x:GE}(h:l[i]?=some x):z_ l (i+1)=z_ l i++(if i=0 then [] else [44,32])++mB x:=by
 have hl:i < l.length:=(ab2.1 h).1
 unfold z_ mB
 rw [tL h,List.map_append,ak9,List.map_nil,IL]
 congr 2
 have:((l.take i).map lU=[])=(i=0):=by
  rw [List.map_eq_nil_iff,List.take_eq_nil_iff]
  apply propext
  constructor
  ·rintro(h | h)
   ·exact h
   ·subst h; simp at hl
  ·exact .inl
 simp only [this]
theorem Le {l:List GE}{i:Nat}{x:GE}(h:l[i]?=some x):Ar l (i+1)=max (Ar l i) (lS x):=by
 unfold Ar lS
 rw [tL h,List.map_append,ak9,List.map_nil,Oo]
theorem RJ (l:List GE) (i:Nat):(z_ l i).length≤(vC (l.map lU)).length:=by
 have:=SH ((l.take i).map lU) ((l.drop i).map lU)
 rw [←List.map_append,List.take_append_drop] at this
 exact this
theorem Sf:∀(a b:List Part),uR a≤uR (a++b)
 | [],_=>by simp [uR]
 | p::a,b=>by simp only [uR,af5]; have:=Sf a b; omega
theorem aaR (l:List GE) (i:Nat):Ar l i≤uR (l.map lU):=by
 have:=Sf ((l.take i).map lU) ((l.drop i).map lU)
 rw [←List.map_append,List.take_append_drop] at this
 exact this
theorem Gl:∀(l:List Part),l.length≤(vC l).length+1
 | []=>by simp
 | [p]=>by simp
 | p::q::r=>by
  have:=Gl (q::r)
  simp only [vC,ac6,am1] at this ⊢
  omega
theorem acN (l:List GE) (hl:l.length≤4611686018427387904) (hok:∀x∈l,HH x) (s:List UInt8) (hB:Still B) (W:List UInt8)
  (hb:w.bs.length+(W.length+(vC (l.map lU)).length)≤140737488355328) (hn:w.now+(uR (l.map lU)+1)≤1000000000000000):∀i,i≤l.length →
  mQ (LI KK (B.length+3)) ([.ptr 1 0,.str s,.slice (l.map GE.cells) .no,.int .i64 (l.length:Int),.int .i64 (i:Int)],WH (w.st (W++z_ l i) (max 1 (nn 1 (Ar l i))) 1) B) =
   some (.exit 0,[.ptr 1 0,.str s,.slice (l.map GE.cells) .no,.int .i64 (l.length:Int),.int .i64 (l.length:Int)],WH (w.st (W++vC (l.map lU)) (max 1 (nn 1 (uR (l.map lU)))) 1) B):=by
 refine tN (fun i:Nat=>([.ptr 1 0,.str s,.slice (l.map GE.cells) .no,.int .i64 (l.length:Int),.int .i64 (i:Int)],WH (w.st (W++z_ l i) (max 1 (nn 1 (Ar l i))) 1) B)) (fun i=>i≤l.length) (fun i=>l.length - i) _ fun i hi=>?_
 have htr:=fun w C=>oG (w:=w) (C:=C) hB
 by_cases h:i < l.length
 ·left
  refine⟨i+1,?_,h,by omega,rfl⟩
  obtain⟨x,hx⟩:∃x,l[i]?=some x:=⟨l[i],ac1 h⟩
  have hxe:=hok x (am4 hx)
  have t1:=Lf hx
  have t2:=Le hx
  have t3:=RJ l (i+1)
  have t4:=aaR l (i+1)
  have w1:=rY (a:=i) (by omega)
  have s2:=An (x:=x) (n:=0) (s:=0) hB
  have s4:=Mw (x:=x) (n:=0) (s:=0) (n':=1) (s':=1) hB
  have hst:=fun w C cs (hc:ab7 cs=5)=>stE (w:=w) (B:=B) (C:=C) (x:=x) hc
  have htr2:∀w C,mI (B.length+2+3) (WH w (B++lR.cells x.cells::.front 0 0::C))=some (WH w (B++[lR.cells x.cells,.front 0 0])):=fun w C=>by
   have:=oG (w:=w) (B:=B++[lR.cells x.cells,.front 0 0]) (C:=C) s2
   simpa using this
  have htr0:=fun w=>s_ (w:=w) (B:=B++[lR.cells x.cells,.front 0 0]) s2
  have hsan:∀h,kP.m_ (B.length+1+1+3) h (.ptr (B.length+3) 0)=.ptr (B.length+3) 0:=fun h=>lN (by omega)
  have hsan0:∀h o,kP.m_ (B.length+1+1+3) h (.ptr 1 o)=.ptr 1 o:=fun h o=>lN (by omega)
  simp only [ac6,am1,am3] at htr0
  rw [t2] at t4
  have hxi:∀hh:i < l.length,l[i]'hh=x:=fun hh=>by rw [ac1 hh] at hx; exact Option.some.inj hx
  have hld:∀h,mA true 5 h (.pptr x.cells)=some (.agg x.cells):=fun h=>by simp [mA]
  by_cases h0:i=0
  ·rw [if_pos h0,al6] at t1
   have hp:¬0 < i:=by omega
   rw [t1,ac6] at t3
   have e3:=hxe (w.st (W++z_ l i) (max 1 (nn 1 (Ar l i))) 1) _ s2 (by simp; omega) (by simp; omega)
   simp -implicitDefEqProofs only [WS.aeH] at e3
   simp -implicitDefEqProofs [LI,h,hp,hxi,hld,amY,hst,lA,htr,htr0,htr2,hsan,hsan0,nF,e3,w1,yZ,-ag9]
   refine congrArg (fun w=>WH w B) (WS.Bm (by rw [t1]) ?_ rfl)
   rw [t2]
   unfold nn
   split <;> split <;> split <;> omega
  ·rw [if_neg h0] at t1
   have hp:0 < i:=by omega
   rw [t1,ac6,ac6] at t3
   simp only [am1,am3] at t3
   have e2:=P1 (w:=w.st (W++z_ l i) (max 1 (nn 1 (Ar l i))) 1) (x:=[44,32]) s4 (by simp; omega)
   have e3:=hxe (w.st (W++(z_ l i++[44,32])) (max 1 (nn 1 (Ar l i))) 1) _ s2 (by simp; omega) (by simp; omega)
   simp -implicitDefEqProofs only [WS.aeH,al2,akU,Nat.add_zero,Nat.max_zero] at e2 e3
   simp -implicitDefEqProofs [LI,h,hp,hxi,hld,amY,hst,lA,htr,htr0,htr2,hsan,hsan0,nF,v_,pJ,e2,e3,w1,yZ,-ag9]
   refine congrArg (fun w=>WH w B) (WS.Bm (by rw [t1]; simp) ?_ rfl)
   rw [t2]
   unfold nn
   split <;> split <;> split <;> omega
 ·right
  have:i=l.length:=by omega
  subst this
  constructor
  ·simp -implicitDefEqProofs [LI,lA,s_ hB,yZ,z_,Ar]
  ·simp
theorem c87 (l:List GE) (hok:∀x∈l,HH x) (s u:List UInt8) :
  WOk 87 [.str u,.slice (l.map GE.cells) .no,.str s] (u++40::(vC (l.map lU)++s++[41])) (uR (l.map lU)+1):=by
 intro w B hB hb hn
 simp only [ac6,am1,am3] at hb
 have hl:l.length≤4611686018427387904:=by
  have:=Gl (l.map lU)
  rw [ak1] at this
  omega
 refine lJ (atV _ _ _ _ _ _) ?_
 have s1:=SP (n:=2) (s:=1) hB
 have s2:Still (B++[.front 2 1,.front 2 1]):=pI hB (mP (mP oF))
 have htr:=fun w C=>oG (w:=w) (C:=C) hB
 have e1:=P2 (w:=w) (x:=u) (y:=[40]) s1 (by simp; omega)
 have e2:=c85 (w:=w.st (u++[40]) 0 0) s1 (by simp; omega)
 have e3:=acN (w:=w) l hl hok s s1 (u++[40]) (by simp; omega) hn 0 (ak5 _)
 have e4:=P2 (w:=w.st (u++[40]++vC (l.map lU)) (max 1 (nn 1 (uR (l.map lU)))) 1) (x:=s) (y:=[41]) s2 (by simp; omega)
 have e5:=c86 (w:=w.st (u++[40]++vC (l.map lU)++(s++[41])) (max 1 (nn 1 (uR (l.map lU)))) 1) s2 (by simp; omega) (by simp)
 have t0:z_ l 0=[]:=rfl
 have n0:Ar l 0=0:=rfl
 simp -implicitDefEqProofs [t0,n0] at e2 e3 e4 e5
 simp -implicitDefEqProofs [m87,GG,pJ,e1,e2,e3,e4,e5,nF,mJ,htr]
 refine congrArg (fun w=>WH w B) (WS.Bm rfl ?_ rfl)
 unfold nn
 split <;> omega
end
theorem Uh {k n:Int}{name:List UInt8}{len:Nat}(h:rK k n name len=true):1≤k∧k≤26:=by
 unfold rK uB at h
 split at h
 ·cases h
 ·rename_i m hm
  split at hm
  ·cases hm
  ·omega
theorem Cc {x:GE}(h:mY x=true):1≤x.kind∧x.kind≤26:=by
 cases x
 simp only [mY,am2] at h
 exact Uh h.1
theorem zO {k:Int}(hk:1≤k∧k≤26) (t:Nat) (a:GE) (ha:1≤a.kind∧a.kind≤26) (b:Bool) (hb:b=!decide (0 < xN a.kind∧xN a.kind < t)) :
  (if 0 < xN a.kind∧xN a.kind < t then 40::(mB a++[41]) else mB a)=tI b (lU a)∧(if 0 < xN a.kind∧xN a.kind < t then lS a+1 else lS a)=qP b (lU a):=by
 subst hb
 by_cases h:0 < xN a.kind∧xN a.kind < t
 ·rw [if_pos h,if_pos h,decide_eq_true h]; exact⟨rfl,rfl⟩
 ·rw [if_neg h,if_neg h,decide_eq_false h]; exact⟨rfl,rfl⟩
theorem AH (x:GE):(lU x).1=x.kind:=by cases x; rfl
theorem Dy {k:Int}(hk:1≤k∧k≤26):1≤lD k∧lD k≤8∧xN k=if lD k=8 then 0 else lD k:=by
 rcases zZ hk with rfl | rfl | rfl | rfl | rfl | rfl | rfl | rfl | rfl | rfl | rfl | rfl | rfl | rfl | rfl | rfl | rfl | rfl | rfl | rfl | rfl | rfl | rfl | rfl | rfl | rfl <;> decide
end
section
open Go Hk
theorem sX (x:GE):mB x=tO x.kind x.num x.name (x.args.map lU):=by cases x; simp [mB,lU,Dl,GE.kind,GE.num,GE.name,GE.args]
theorem sS (x:GE):lS x=wG x.kind (x.args.map lU):=by cases x; simp [lS,lU,Dl,GE.kind,GE.args]
theorem E4 {k:Int}{a:GE}(hk:1≤k∧k≤26) (ha:1≤a.kind∧a.kind≤26) (ht:lD k < 8) :
  mK (lD k) (lU a).1=!decide (0 < xN a.kind∧xN a.kind < (if lD k=1 then 2 else lD k)):=by
 obtain⟨a1,a2,a3⟩:=Dy hk
 obtain⟨b1,b2,b3⟩:=Dy ha
 rw [AH,b3]
 unfold mK
 rw [←decide_not]
 apply decide_eq_decide.2
 split <;> split <;> omega
theorem KO {k:Int}{a:GE}(hk:1≤k∧k≤26) (ha:1≤a.kind∧a.kind≤26) (ht:lD k < 8) :
  decide (lD k < lD (lU a).1)=!decide (0 < xN a.kind∧xN a.kind < lD k+1):=by
 obtain⟨a1,a2,a3⟩:=Dy hk
 obtain⟨b1,b2,b3⟩:=Dy ha
 rw [AH,b3,←decide_not]
 apply decide_eq_decide.2
 split <;> omega
theorem KN {a:GE}(ha:1≤a.kind∧a.kind≤26):decide (lD (lU a).1=8)=!decide (0 < xN a.kind∧xN a.kind < 8):=by
 obtain⟨b1,b2,b3⟩:=Dy ha
 rw [AH,b3,←decide_not]
 apply decide_eq_decide.2
 split <;> omega
theorem ix0 {a:GE}{l:List GE}:lH 5 (.slice ((a::l).map GE.cells) .no) (.int .i64 0)=some (.pptr a.cells):=by rw [q_]; simp
theorem ix1 {a b:GE}{l:List GE}:lH 5 (.slice ((a::b::l).map GE.cells) .no) (.int .i64 1)=some (.pptr b.cells):=by rw [q_]; simp
theorem T0 {x:GE}{h:kT}:mA true 5 h (.pptr x.cells)=some (.agg x.cells):=by simp [mA]
section
variable {B:List lR}
theorem yP {m:Nat}{h:kT}{k:Nat}{o:Nat}(hk:k < m):kP.m_ m h (.ptr k o)=.ptr k o:=lN hk
end
theorem ay0 {x a b:GE}(hx:x.args=[a,b]) (hk:1≤x.kind∧x.kind≤26) (ht:lD x.kind < 8) (ha:HH a) (hb:HH b) (hka:1≤a.kind∧a.kind≤26) (hkb:1≤b.kind∧b.kind≤26):HH x:=by
 intro w B hB hbd hn
 obtain⟨a1,a2,a3⟩:=Dy hk
 have hbn:xN x.kind=lD x.kind:=by rw [a3,if_neg (by omega)]
 have hbs:WZ x.kind=nS x.kind:=if_pos ht
 have t1:mB x=tI (mK (lD x.kind) (lU a).1) (lU a)++32::(nS x.kind++32::tI (decide (lD x.kind < lD (lU b).1)) (lU b)):=by
  rw [sX,hx]; unfold tO; rw [if_pos ht]; rfl
 have t2:lS x=max (qP (mK (lD x.kind) (lU a).1) (lU a)) (qP (decide (lD x.kind < lD (lU b).1)) (lU b)):=by
  rw [sS,hx]; unfold wG; rw [if_pos ht]; rfl
 have c1:=c83 ha hka (if lD x.kind=1 then 2 else lD x.kind)
 rw [(zO hk _ a hka _ (E4 hk hka ht)).1,(zO hk _ a hka _ (E4 hk hka ht)).2] at c1
 have c2:=c83 hb hkb (lD x.kind+1)
 rw [(zO hk _ b hkb _ (KO hk hkb ht)).1,(zO hk _ b hkb _ (KO hk hkb ht)).2] at c2
 rw [t1,t2]
 rw [t1] at hbd
 rw [t2] at hn
 generalize tI (mK (lD x.kind) (lU a).1) (lU a)=A at hbd c1 ⊢
 generalize tI (decide (lD x.kind < lD (lU b).1)) (lU b)=D at hbd c2 ⊢
 generalize qP (mK (lD x.kind) (lU a).1) (lU a)=na at hn c1 ⊢
 generalize qP (decide (lD x.kind < lD (lU b).1)) (lU b)=nb at hn c2 ⊢
 simp only [ac6,am1] at hbd
 refine lJ (EB _ _ _ _) ?_
 have s2:=Am (x:=x) hB
 have s3:=An (x:=x) (n:=3) (s:=1) hB
 have htr:=fun w C=>oG (w:=w) (C:=C) hB
 have htr2:∀w,mI (B.length+1+3) (WH w (B++[lR.cells x.cells]))=some (WH w (B++[lR.cells x.cells])):=fun w=>by
  have:=s_ (w:=w) s2
  simpa using this
 have e0:=c82 x.kind hk
 have e1:=c1 w _ s2 (by omega) (by omega)
 have e2:=P3 (w:=w.st A na 0) (x:=[32]) (y:=nS x.kind) (z:=[32]) s3 (by simp; omega)
 have e3:=c2 (w.st (A++32::(nS x.kind++[32])) na 0) _ s3 (by simp; omega) (by simp; omega)
 have hpos:0 < lD x.kind:=by omega
 have q1:∀h o,kP.m_ (B.length+1+3) h (.ptr (B.length+3) o)=.ptr (B.length+3) o:=fun h o=>yP (by omega)
 have q2:∀h o,kP.m_ (B.length+1+3) h (.ptr 1 o)=.ptr 1 o:=fun h o=>yP (by omega)
 have w1:=rY (a:=lD x.kind) (by omega)
 simp -implicitDefEqProofs [-ag9] at e2 e3
 have i0:lH 5 (.slice (x.args.map GE.cells) .no) (.int .i64 0)=some (.pptr a.cells):=by rw [hx]; exact ix0
 have i1:lH 5 (.slice (x.args.map GE.cells) .no) (.int .i64 1)=some (.pptr b.cells):=by rw [hx]; exact ix1
 have hl:x.args.length=2:=by rw [hx]; rfl
 by_cases h1:lD x.kind=1
 ·simp -implicitDefEqProofs [h1] at e1 e3
  have w2:IntKind.wrap .i64 2=2:=by decide
  simp -implicitDefEqProofs [Tb,zH,e0,hbn,hbs,h1,lA,htr2,q1,q2,nF,i0,i1,hl,T0,BT,pJ,e1,e2,e3,w2,mJ,htr]
  refine congrArg (fun w=>WH w B) (WS.Bm rfl ?_ rfl)
  unfold nn
  split <;> omega
 ·have h1':¬(lD x.kind:Int)=1:=by omega
  simp -implicitDefEqProofs [h1] at e1
  simp -implicitDefEqProofs [Tb,zH,e0,hbn,hbs,hpos,h1',lA,htr2,q1,q2,nF,i0,i1,hl,T0,BT,pJ,e1,e2,e3,w1,mJ,htr,-ag9]
  refine congrArg (fun w=>WH w B) (WS.Bm rfl ?_ rfl)
  unfold nn
  split <;> omega
end
section
open Go Hk
theorem Dj {n:Int}(h:n < 9223372036854775808):(uK n).length≤20:=by
 have key:∀(k n:Nat) (acc:List UInt8),n < 10 ^ k→(Cg n acc).length≤k+acc.length:=by
  intro k
  induction k with
  | zero =>
   intro n acc h
   have:n=0:=by simpa using h
   subst this
   rw [Cg,if_pos rfl]; omega
  | succ k ih =>
   intro n acc h
   rw [Cg]
   split
   ·omega
   ·have:=ih (n / 10) (UInt8.ofNat (48+n % 10)::acc) (by rw [Nat.pow_succ] at h; omega)
    simp only [am1] at this
    omega
 unfold uK Dz
 split
 ·simp
 ·have:=key 20 n.toNat [] (by omega)
  simpa using this
theorem Vn {x a:GE}(hx:x.args=[a]) (hk:1≤x.kind∧x.kind≤26) (ht:lD x.kind < 8) (h1:¬lD x.kind=1) (hnum:0≤x.num∧x.num≤4294967295) (ha:HH a) (hka:1≤a.kind∧a.kind≤26):HH x:=by
 intro w B hB hbd hn
 obtain⟨a1,a2,a3⟩:=Dy hk
 have hbn:xN x.kind=lD x.kind:=by rw [a3,if_neg (by omega)]
 have hbs:WZ x.kind=nS x.kind:=if_pos ht
 have t1:mB x=tI (mK (lD x.kind) (lU a).1) (lU a)++32::(nS x.kind++32::uK x.num):=by
  rw [sX,hx]; unfold tO; rw [if_pos ht]; rfl
 have t2:lS x=qP (mK (lD x.kind) (lU a).1) (lU a):=by
  rw [sS,hx]; unfold wG; rw [if_pos ht]; rfl
 have c1:=c83 ha hka (if lD x.kind=1 then 2 else lD x.kind)
 rw [(zO hk _ a hka _ (E4 hk hka ht)).1,(zO hk _ a hka _ (E4 hk hka ht)).2] at c1
 rw [t1,t2]
 rw [t1] at hbd
 rw [t2] at hn
 generalize tI (mK (lD x.kind) (lU a).1) (lU a)=A at hbd c1 ⊢
 generalize qP (mK (lD x.kind) (lU a).1) (lU a)=na at hn c1 ⊢
 simp only [ac6,am1] at hbd
 refine lJ (EB _ _ _ _) ?_
 have s2:=Am (x:=x) hB
 have s3:=An (x:=x) (n:=3) (s:=1) hB
 have htr:=fun w C=>oG (w:=w) (C:=C) hB
 have htr2:∀w,mI (B.length+1+3) (WH w (B++[lR.cells x.cells]))=some (WH w (B++[lR.cells x.cells])):=fun w=>by
  have:=s_ (w:=w) s2
  simpa using this
 have e0:=c82 x.kind hk
 have e1:=c1 w _ s2 (by omega) (by omega)
 have e2:=P3 (w:=w.st A na 0) (x:=[32]) (y:=nS x.kind) (z:=[32]) s3 (by simp; omega)
 have e3:=c84 (w:=w.st (A++32::(nS x.kind++[32])) na 0) x.num hnum.1 (by omega) s3 (by simp; omega)
 have hpos:0 < lD x.kind:=by omega
 have q1:∀h o,kP.m_ (B.length+1+3) h (.ptr (B.length+3) o)=.ptr (B.length+3) o:=fun h o=>yP (by omega)
 have q2:∀h o,kP.m_ (B.length+1+3) h (.ptr 1 o)=.ptr 1 o:=fun h o=>yP (by omega)
 simp -implicitDefEqProofs at e2 e3
 have i0:lH 5 (.slice (x.args.map GE.cells) .no) (.int .i64 0)=some (.pptr a.cells):=by rw [hx]; exact ix0
 have hl:x.args.length=1:=by rw [hx]; rfl
 have h1':¬(lD x.kind:Int)=1:=by omega
 simp -implicitDefEqProofs [h1] at e1
 simp -implicitDefEqProofs [Tb,zH,e0,hbn,hbs,hpos,h1',lA,htr2,q1,q2,nF,i0,hl,T0,BT,pJ,e1,e2,e3,mJ,htr]
theorem w7 {k:Int}(ht:lD k=8):xN k=0∧WZ k=[]:=by simp [xN,WZ,ht]
section
variable {w:WS}{B C:List lR}
theorem tr2 {x:GE}(hB:Still B):mI (B.length+1+3) (WH w (B++lR.cells x.cells::C))=some (WH w (B++[lR.cells x.cells])):=by
 have:=oG (w:=w) (C:=C) (Am (x:=x) hB)
 simpa using this
end
theorem ayY {x:GE}(hk:x.kind=1) (hnum:0≤x.num∧x.num≤4294967295):HH x:=by
 intro w B hB hbd hn
 have t1:mB x=uK x.num:=by rw [sX,hk]; rfl
 have t2:lS x=0:=by rw [sS,hk]; rfl
 rw [t1] at hbd
 rw [t1,t2]
 refine lJ (EB _ _ _ _) ?_
 have s2:=Am (x:=x) hB
 have htr:=fun w C=>oG (w:=w) (C:=C) hB
 have htr2:=fun w C=>tr2 (w:=w) (C:=C) (x:=x) hB
 have e0:=c82 x.kind (by omega)
 have e3:=c84 (w:=w) x.num hnum.1 (by omega) s2 hbd
 obtain⟨b1,b2⟩:=w7 (k:=1) rfl
 simp -implicitDefEqProofs at e3
 rw [hk] at e0
 simp -implicitDefEqProofs [Tb,zH,hk,e0,b1,b2,lA,htr2,nF,e3,mJ,htr]
theorem aqX {x:GE}(hk:x.kind=2):HH x:=by
 intro w B hB hbd hn
 have t1:mB x=x.name:=by rw [sX,hk]; rfl
 have t2:lS x=0:=by rw [sS,hk]; rfl
 rw [t1] at hbd
 rw [t1,t2]
 refine lJ (EB _ _ _ _) ?_
 have s3:=An (x:=x) (n:=1) (s:=1) hB
 have htr:=fun w C=>oG (w:=w) (C:=C) hB
 have htr2:=fun w C=>tr2 (w:=w) (C:=C) (x:=x) hB
 have e0:=c82 x.kind (by omega)
 have e3:=P1 (w:=w) (x:=x.name) s3 hbd
 obtain⟨b1,b2⟩:=w7 (k:=2) rfl
 rw [hk] at e0
 simp -implicitDefEqProofs [Tb,zH,hk,e0,b1,b2,lA,htr2,nF,e3,mJ,htr,v_,pJ]
theorem ahQ {x a:GE}(hk:x.kind=3) (hx:x.args=[a]) (ha:HH a):HH x:=by
 intro w B hB hbd hn
 have t1:mB x=x.name++91::(mB a++[93]):=by rw [sX,hk,hx]; rfl
 have t2:lS x=lS a+1:=by rw [sS,hk,hx]; rfl
 rw [t1] at hbd
 rw [t2] at hn
 rw [t1,t2]
 simp only [ac6,am1,am3] at hbd
 refine lJ (EB _ _ _ _) ?_
 have s3:=An (x:=x) (n:=2) (s:=1) hB
 have s4:=Mw (x:=x) (n:=2) (s:=1) (n':=1) (s':=1) hB
 have htr:=fun w C=>oG (w:=w) (C:=C) hB
 have htr2:=fun w C=>tr2 (w:=w) (C:=C) (x:=x) hB
 have e0:=c82 x.kind (by omega)
 have e1:=P2 (w:=w) (x:=x.name) (y:=[91]) s3 (by simp; omega)
 have e2:=c85 (w:=w.st (x.name++[91]) 0 0) s3 (by simp; omega)
 have e3:=ha (w.st (x.name++[91]) 1 1) _ s3 (by simp; omega) (by simp; omega)
 have e4:=c86 (w:=w.st (x.name++91::mB a) (max 1 (nn 1 (lS a))) 1) s3 (by simp; omega) (by simp)
 have e5:=P1 (w:=w.st (x.name++91::mB a) (max 1 (nn 1 (lS a))) 0) (x:=[93]) s4 (by simp; omega)
 obtain⟨b1,b2⟩:=w7 (k:=3) rfl
 rw [hk] at e0
 have i0:lH 5 (.slice (x.args.map GE.cells) .no) (.int .i64 0)=some (.pptr a.cells):=by rw [hx]; exact ix0
 simp -implicitDefEqProofs at e2 e3 e4 e5
 simp -implicitDefEqProofs [Tb,zH,hk,e0,b1,b2,lA,htr2,nF,e1,e2,e3,e4,e5,i0,T0,mJ,htr,v_,GG,pJ]
 refine congrArg (fun w=>WH w B) (WS.Bm rfl ?_ rfl)
 unfold nn
 split <;> omega
theorem Pe {x a:GE}(hk:x.kind=5∨x.kind=6∨x.kind=7) (hx:x.args=[a]) (ha:HH a) (hka:1≤a.kind∧a.kind≤26):HH x:=by
 intro w B hB hbd hn
 have t1:mB x=nS x.kind++tI (decide (lD (lU a).1=8)) (lU a):=by
  rw [sX,hx]
  rcases hk with h | h | h <;> rw [h] <;> rfl
 have t2:lS x=qP (decide (lD (lU a).1=8)) (lU a)+1:=by
  rw [sS,hx]
  rcases hk with h | h | h <;> rw [h] <;> rfl
 have c1:=c88 ha hka (nS x.kind)
 have hk':1≤x.kind∧x.kind≤26:=by omega
 rw [(zO hk' _ a hka _ (KN hka)).1,(zO hk' _ a hka _ (KN hka)).2] at c1
 rw [t1] at hbd
 rw [t2] at hn
 rw [t1,t2]
 generalize tI (decide (lD (lU a).1=8)) (lU a)=A at hbd c1 ⊢
 generalize qP (decide (lD (lU a).1=8)) (lU a)=na at hn c1 ⊢
 refine lJ (EB _ _ _ _) ?_
 have s2:=Am (x:=x) hB
 have htr:=fun w C=>oG (w:=w) (C:=C) hB
 have htr2:=fun w C=>tr2 (w:=w) (C:=C) (x:=x) hB
 have e0:=c82 x.kind hk'
 have e1:=c1 w _ s2 hbd hn
 have i0:lH 5 (.slice (x.args.map GE.cells) .no) (.int .i64 0)=some (.pptr a.cells):=by rw [hx]; exact ix0
 rcases hk with h | h | h <;> rw [h] at e0 e1 ⊢
 ·obtain⟨b1,b2⟩:=w7 (k:=5) rfl
  have hs:nS 5=[126]:=rfl
  rw [hs] at e1 ⊢
  simp -implicitDefEqProofs [Tb,zH,h,e0,b1,b2,lA,htr2,nF,e1,i0,T0,mJ,htr]
 ·obtain⟨b1,b2⟩:=w7 (k:=6) rfl
  have hs:nS 6=[45]:=rfl
  rw [hs] at e1 ⊢
  simp -implicitDefEqProofs [Tb,zH,h,e0,b1,b2,lA,htr2,nF,e1,i0,T0,mJ,htr]
 ·obtain⟨b1,b2⟩:=w7 (k:=7) rfl
  have hs:nS 7=[33]:=rfl
  rw [hs] at e1 ⊢
  simp -implicitDefEqProofs [Tb,zH,h,e0,b1,b2,lA,htr2,nF,e1,i0,T0,mJ,htr]
theorem aqW {x:GE}(hk:x.kind=4∨x.kind=23∨x.kind=24∨x.kind=25∨x.kind=26) (hnm:x.kind=4∨x.name=[]) (ha:∀a∈x.args,HH a):HH x:=by
 intro w B hB hbd hn
 have t1:mB x=nS x.kind++x.name++40::(vC (x.args.map lU)++[]++[41]):=by
  rw [sX]
  rcases hk with h | h | h | h | h <;> rw [h] <;> rfl
 have t2:lS x=uR (x.args.map lU)+1:=by
  rw [sS]
  rcases hk with h | h | h | h | h <;> rw [h] <;> rfl
 rw [t1] at hbd
 rw [t2] at hn
 rw [t1,t2]
 refine lJ (EB _ _ _ _) ?_
 have s2:=Am (x:=x) hB
 have htr:=fun w C=>oG (w:=w) (C:=C) hB
 have htr2:=fun w C=>tr2 (w:=w) (C:=C) (x:=x) hB
 have e0:=c82 x.kind (by omega)
 have e1:=c87 x.args ha [] (nS x.kind++x.name) w _ s2 hbd hn
 rcases hk with h | h | h | h | h <;> rw [h] at e0 e1 ⊢
 ·obtain⟨b1,b2⟩:=w7 (k:=4) rfl
  have hs:nS 4=[]:=rfl
  rw [hs,an4] at e1 ⊢
  simp -implicitDefEqProofs at e1
  simp -implicitDefEqProofs [Tb,zH,h,e0,b1,b2,lA,htr2,nF,e1,mJ,htr]
 ·obtain⟨b1,b2⟩:=w7 (k:=23) rfl
  have hs:nS 23=[109,117,108,104,105]:=rfl
  have hq:x.name=[]:=hnm.resolve_left (by omega)
  rw [hs,hq,al6] at e1 ⊢
  simp -implicitDefEqProofs at e1
  simp -implicitDefEqProofs [Tb,zH,h,e0,b1,b2,lA,htr2,nF,e1,mJ,htr]
 ·obtain⟨b1,b2⟩:=w7 (k:=24) rfl
  have hs:nS 24=[99,97,114,114,121]:=rfl
  have hq:x.name=[]:=hnm.resolve_left (by omega)
  rw [hs,hq,al6] at e1 ⊢
  simp -implicitDefEqProofs at e1
  simp -implicitDefEqProofs [Tb,zH,h,e0,b1,b2,lA,htr2,nF,e1,mJ,htr]
 ·obtain⟨b1,b2⟩:=w7 (k:=25) rfl
  have hs:nS 25=[115,101,108,101,99,116]:=rfl
  have hq:x.name=[]:=hnm.resolve_left (by omega)
  rw [hs,hq,al6] at e1 ⊢
  simp -implicitDefEqProofs at e1
  simp -implicitDefEqProofs [Tb,zH,h,e0,b1,b2,lA,htr2,nF,e1,mJ,htr]
 ·obtain⟨b1,b2⟩:=w7 (k:=26) rfl
  have hs:nS 26=[119,111,114,100]:=rfl
  have hq:x.name=[]:=hnm.resolve_left (by omega)
  rw [hs,hq,al6] at e1 ⊢
  simp -implicitDefEqProofs at e1
  simp -implicitDefEqProofs [Tb,zH,h,e0,b1,b2,lA,htr2,nF,e1,mJ,htr]
theorem azK {w:WS}{B C:List lR}{cs:List kP}:nI (WH w (B++.cells cs::C)) (qD (WH w (B++.cells cs::C)) (B.length+3)) (B.length+3)=WH w (B++.cells cs::C):=by
 unfold qD nI
 simp only [TK,ad8]
theorem ayZ {x:GE}(hk:x.kind=16) (hnm:x.name=[]) (hnum:0≤x.num∧x.num≤4294967295) (ha:∀a∈x.args,HH a):HH x:=by
 intro w B hB hbd hn
 have t1:mB x=[114,111,114]++40::(vC (x.args.map lU)++(44::32::uK x.num)++[41]):=by
  rw [sX,hk,hnm]; rfl
 have t2:lS x=uR (x.args.map lU)+1:=by
  rw [sS,hk]; rfl
 rw [t1] at hbd
 rw [t2] at hn
 rw [t1,t2]
 refine lJ (EB _ _ _ _) ?_
 have s2:=Am (x:=x) hB
 have htr:=fun w C=>oG (w:=w) (C:=C) hB
 have htr2:=fun w C=>tr2 (w:=w) (C:=C) (x:=x) hB
 have e0:=c82 x.kind (by omega)
 have e1:=c87 x.args ha (44::32::uK x.num) [114,111,114] w _ s2 hbd hn
 have e2:=fun h=>c89 x.num hnum.1 (by omega) h
 have nl:=Dj (n:=x.num) (by omega)
 have hle:2+(uK x.num).length≤4611686018427387904:=by omega
 obtain⟨b1,b2⟩:=w7 (k:=16) rfl
 rw [hk] at e0
 simp -implicitDefEqProofs at e1
 simp -implicitDefEqProofs [Tb,zH,hk,e0,b1,b2,lA,htr2,nF,e1,e2,hle,mJ,htr,lI,nY,lX,pS,azK]
end
section
open Go Hk
theorem vP {n:Int}:vB n=true↔0≤n∧n≤4294967295:=by simp [vB]
theorem Ch {l:List GE}(h:l.length=1):∃a,l=[a]:=by
 match l,h with
 | [a],_=>exact⟨a,rfl⟩
theorem w9 {l:List GE}(h:l.length=2):∃a b,l=[a,b]:=by
 match l,h with
 | [a,b],_=>exact⟨a,b,rfl⟩
theorem BL {s:List UInt8}(h:lM s false=true):s=[]:=by simpa [lM] using h
theorem eok:∀(n:Nat) (x:GE),x.size≤n→mY x=true→HH x:=by
 intro n
 induction n with
 | zero=>intro x hn; cases x; simp [GE.size] at hn
 | succ n ih =>
  intro x hn hw
  have hk:=Cc hw
  have ha:∀a∈x.args,HH a∧1≤a.kind∧a.kind≤26:=by
   intro a hm
   cases x
   simp only [mY,am2,wL,ag3] at hw
   have h1:=GE.qQ hm
   simp only [GE.size,GE.args] at hn h1 hm
   exact⟨ih a (by omega) (hw.2 a hm),Cc (hw.2 a hm)⟩
  have hnode:rK x.kind x.num x.name x.args.length=true:=by
   cases x
   simp only [mY,am2] at hw
   exact hw.1
  have one:∀a,x.args=[a]→HH a∧1≤a.kind∧a.kind≤26:=fun a e=>ha a (by rw [e]; simp)
  have two:∀a b,x.args=[a,b]→(HH a∧1≤a.kind∧a.kind≤26)∧(HH b∧1≤b.kind∧b.kind≤26):=fun a b e=>⟨ha a (by rw [e]; simp),ha b (by rw [e]; simp)⟩
  have bin:lD x.kind < 8→(∃a b,x.args=[a,b])→HH x:=by
   rintro ht ⟨a,b,e⟩
   obtain⟨h1,h2⟩:=two a b e
   exact ay0 e hk ht h1.1 h2.1 h1.2 h2.2
  have cl:(x.kind=4∨x.kind=23∨x.kind=24∨x.kind=25∨x.kind=26)→(x.kind=4∨x.name=[])→HH x:=fun h1 h2=>aqW h1 h2 fun a hm=>(ha a hm).1
  unfold rK at hnode
  rcases zZ hk with h | h | h | h | h | h | h | h | h | h | h | h | h | h | h | h | h | h | h | h | h | h | h | h | h | h <;> simp only [h] at hnode bin cl <;>
   simp [uB,lF,vP] at hnode
  ·exact ayY h hnode.2
  ·exact aqX h
  ·obtain⟨a,e⟩:=Ch (l:=x.args) (by have:=hnode.1.1; omega)
   exact ahQ h e (one a e).1
  ·exact cl (by simp) (by simp)
  ·obtain⟨a,e⟩:=Ch (l:=x.args) (by have:=hnode.1.1; omega)
   exact Pe (.inl h) e (one a e).1 (one a e).2
  ·obtain⟨a,e⟩:=Ch (l:=x.args) (by have:=hnode.1.1; omega)
   exact Pe (.inr (.inl h)) e (one a e).1 (one a e).2
  ·obtain⟨a,e⟩:=Ch (l:=x.args) (by have:=hnode.1.1; omega)
   exact Pe (.inr (.inr h)) e (one a e).1 (one a e).2
  ·exact bin (by decide) (w9 (l:=x.args) (by have:=hnode.1.1; omega))
  ·exact bin (by decide) (w9 (l:=x.args) (by have:=hnode.1.1; omega))
  ·exact bin (by decide) (w9 (l:=x.args) (by have:=hnode.1.1; omega))
  ·exact bin (by decide) (w9 (l:=x.args) (by have:=hnode.1.1; omega))
  ·exact bin (by decide) (w9 (l:=x.args) (by have:=hnode.1.1; omega))
  ·exact bin (by decide) (w9 (l:=x.args) (by have:=hnode.1.1; omega))
  ·obtain⟨a,e⟩:=Ch (l:=x.args) (by have:=hnode.1.1; omega)
   exact Vn e hk (by rw [h]; decide) (by rw [h]; decide) hnode.2 (one a e).1 (one a e).2
  ·obtain⟨a,e⟩:=Ch (l:=x.args) (by have:=hnode.1.1; omega)
   exact Vn e hk (by rw [h]; decide) (by rw [h]; decide) hnode.2 (one a e).1 (one a e).2
  ·exact ayZ h (BL hnode.1.2) hnode.2 fun a hm=>(ha a hm).1
  ·exact bin (by decide) (w9 (l:=x.args) (by have:=hnode.1.1; omega))
  ·exact bin (by decide) (w9 (l:=x.args) (by have:=hnode.1.1; omega))
  ·exact bin (by decide) (w9 (l:=x.args) (by have:=hnode.1.1; omega))
  ·exact bin (by decide) (w9 (l:=x.args) (by have:=hnode.1.1; omega))
  ·exact bin (by decide) (w9 (l:=x.args) (by have:=hnode.1.1; omega))
  ·exact bin (by decide) (w9 (l:=x.args) (by have:=hnode.1.1; omega))
  ·exact cl (by simp) (.inr (BL hnode.1.2))
  ·exact cl (by simp) (.inr (BL hnode.1.2))
  ·exact cl (by simp) (.inr (BL hnode.1.2))
  ·exact cl (by simp) (.inr (BL hnode.1.2))
theorem c37 (x:GE) (hw:mY x=true):WOk 37 [.agg x.cells] (mB x) (lS x):=eok x.size x (Nat.le_refl _) hw
end
section
open Go Hk
def WS.sl (w:WS) (l:Nat):WS:={ w with ln:=l }
section
variable {w:WS}{x:List UInt8}{n k l j:Nat}{B C:List lR}{cs:List kP}
@[simp] theorem WS.aGh:(w.sl l).st x n k=(w.st x n k).sl l:=rfl
@[simp] theorem WS.aGi:(w.sl l).up=w.up.sl l:=rfl
@[simp] theorem WS.aCY:(w.sl l).down=w.down.sl l:=rfl
@[simp] theorem WS.aGg:(w.sl l).sl j=w.sl j:=rfl
@[simp] theorem WS.aGe:(w.sl l).bs=w.bs:=rfl
@[simp] theorem WS.aE3:(w.sl l).now=w.now:=rfl
@[simp] theorem WS.aGf:(w.sl l).ln=l:=rfl
theorem WS.Uz:(w.st x n k).sl w.ln=w.st x n k:=rfl
theorem aoR {n:Nat}:p8 1 (WH w B) (.ptr 1 4) (.int .i64 (n:Int))=some (WH (w.sl n) B):=(rfl)
end
theorem GT.still (t:GT) (m:Nat) (h:kT):nK m h t.cells=some t.cells:=by simp [GT.cells]
theorem Mz {t:GT}{C:List lR}(h:Still C):Still (.cells t.cells::C):=fun m y=>by simp [t.still m y,h m y]
theorem GS.still (x:GS) (m:Nat) (h:kT):nK m h x.cells=some x.cells:=by cases x; simp [GS.cells]
theorem A9 {x:GS}{C:List lR}(h:Still C):Still (.cells x.cells::C):=fun m y=>by simp [x.still m y,h m y]
@[simp] theorem GS.UL (x:GS):x.cells.map kP.tP=x.cells:=by cases x; simp [GS.cells]
@[simp] theorem GS.aE8 (x:GS):x.cells.take 11=x.cells:=by cases x; rfl
theorem GS.tok (x:GS) {k:Nat}:lL k x.cells=(x.cells,[]):=uQ (by cases x; simp [GS.cells,kP.isNil])
theorem GS.Rq (x:GS):x.cells.all kP.mH=true:=by cases x; simp [GS.cells,kP.mH]
section
variable {w:WS}{B C:List lR}{cs:List kP}
theorem H5 {t:GT}:lZ 3 (WH w B) (.agg t.cells)=some (.ptr (B.length+3) 0,WH w (B++[.cells t.cells])):=by
 simp [lZ,GT.cells,lL,nF,pJ]
theorem GC {x:GS}:lZ 11 (WH w B) (.agg x.cells)=some (.ptr (B.length+3) 0,WH w (B++[.cells x.cells])):=by
 simp [lZ,x.tok,x.Rq,nF,pJ]
theorem apV:lZ 11 (WH w B) (.agg [.int .i64 0,.int .i64 0,.int .i64 0,.str [],.int .i64 0,.int .i64 0,.int .i64 0,.slice [] .nil,.slice [] .nil,.slice [] .nil,.bool false]) =
  some (.ptr (B.length+3) 0,WH w (B++[.cells [.int .i64 0,.int .i64 0,.int .i64 0,.str [],.int .i64 0,.int .i64 0,.int .i64 0,.slice [] (.own (B.length+4)),.slice [] (.own (B.length+5)),.slice [] (.own (B.length+6)),.bool false],.front 0 0,.front 0 0,.front 0 0])):=by
 simp [lZ,lL,nF,pJ]
theorem aE4 {x:GS}(hc:cs.length=11):p8 11 (WH w (B++.cells cs::C)) (.ptr (B.length+3) 0) (.agg x.cells)=some (WH w (B++.cells x.cells::C)):=by
 have e:=TK (w:=w) (B:=B) (C:=C) (cs:=cs)
 have hk:∀os,p9 (WH w (B++.cells cs::C)) os x.cells=x.cells:=fun os=>rC (by cases x; simp [GS.cells,kP.isNil])
 simp only [p8,Bw,e,Dx,oM,an3,E5,GS.rA,hc]
 rw [if_pos ⟨trivial,by omega,x.Rq⟩,hk]
 have:putCells cs 0 x.cells=x.cells:=by simp [putCells,hc]
 rw [this,ad8]
theorem aEg {x:GS}{h:kT}:mA true 11 h (.pptr x.cells)=some (.agg x.cells):=by simp [mA]
theorem trC {C D:List lR}(hB:Still B) (hC:Still C) {n:Nat}(hn:C.length=n):mI (B.length+n+3) (WH w (B++(C++D)))=some (WH w (B++C)):=by
 have:=oG (w:=w) (B:=B++C) (C:=D) (pI hB hC)
 rw [ac6,hn,al2] at this
 exact this
end
theorem acY {n:Int}:0 < (uK n).length:=by
 unfold uK
 obtain⟨c,r,h⟩:=GI n.toNat
 rw [h]; simp
theorem c70 {w:WS}{B:List lR}(t:GT) (ht:rV t=true) (hB:Still B) (hb:w.bs.length+(vO t).length≤140737488355328) :
  KK 70 [.ptr 1 0,.agg t.cells] (WH w B)=some (.ret (.tuple []),WH (w.st (vO t) 0 0) B):=by
 have hlen:0≤t.len∧t.len≤4294967295:=by
  simp only [rV,am2] at ht
  exact vP.1 ht.1.2
 refine lJ (atE _ _ _ _) ?_
 have s1:Still (B++[.cells t.cells]):=pI hB (Mz oF)
 have s2:∀n s,Still (B++[.cells t.cells,.front n s]):=fun n s=>pI hB (Mz (mP oF))
 have htr:=fun w C=>oG (w:=w) (C:=C) hB
 have htr2:∀w D,mI (B.length+1+3) (WH w (B++.cells t.cells::D))=some (WH w (B++[.cells t.cells])):=fun w D=>trC (C:=[.cells t.cells]) hB (Mz oF) rfl
 have q1:∀h o,kP.m_ (B.length+1+3) h (.ptr (B.length+3) o)=.ptr (B.length+3) o:=fun h o=>yP (by omega)
 have q2:∀h o,kP.m_ (B.length+1+3) h (.ptr 1 o)=.ptr 1 o:=fun h o=>yP (by omega)
 have g0:∀h:0 < t.cells.length,t.cells[0]'h=.int .i64 t.elem:=fun _=>rfl
 have g1:∀h:1 < t.cells.length,t.cells[1]'h=.int .i64 t.len:=fun _=>rfl
 have gl:t.cells.length=3:=rfl
 have e0:=c89 t.len hlen.1 (by omega)
 have nl:=Dj (n:=t.len) (by omega)
 have np:=acY (n:=t.len)
 obtain⟨a,ha⟩:∃a,a=(if t.elem=1 then [109,97,115,107] else if t.elem=2 then [117,56] else [117,51,50]:List UInt8):=⟨_,rfl⟩
 have kt:vO t=a++(if 0 < t.len then 91::(uK t.len++[93]) else []):=by rw [ha]; rfl
 rw [kt] at hb ⊢
 simp only [ac6] at hb
 have e1:=P1 (w:=w) (x:=a) (s2 1 1) (by omega)
 have fin2:0 < t.len→KK 68 [.ptr 1 0,.slice [q8 [91],q8 (uK t.len),q8 [93]] .no] (WH (w.st a 0 0) (B++[.cells t.cells,.front 3 1]))=some (.ret (.tuple []),WH (w.st (a++91::(uK t.len++[93])) 0 0) (B++[.cells t.cells,.front 3 1])):=by
  intro hp
  rw [if_pos hp] at hb
  simp only [am1,ac6,am3] at hb
  have:=P3 (w:=w.st a 0 0) (x:=[91]) (y:=uK t.len) (z:=[93]) (s2 3 1) (by simp; omega)
  simpa using this
 by_cases h1:t.elem=1
 ·rw [if_pos h1] at ha
  subst ha
  by_cases hp:0 < t.len
  ·simp -implicitDefEqProofs [m70,H5,g0,g1,gl,h1,hp,v_,BT,pJ,nF,e0,e1,fin2 hp,lA,htr2,q1,q2,mJ,htr]
  ·simp -implicitDefEqProofs [m70,H5,g0,g1,gl,h1,hp,v_,BT,pJ,nF,e0,e1,lA,htr2,q1,q2,mJ,htr]
 ·rw [if_neg h1] at ha
  by_cases h2:t.elem=2
  ·rw [if_pos h2] at ha
   subst ha
   by_cases hp:0 < t.len
   ·simp -implicitDefEqProofs [m70,H5,g0,g1,gl,h1,h2,hp,v_,BT,pJ,nF,e0,e1,fin2 hp,lA,htr2,q1,q2,mJ,htr]
   ·simp -implicitDefEqProofs [m70,H5,g0,g1,gl,h1,h2,hp,v_,BT,pJ,nF,e0,e1,lA,htr2,q1,q2,mJ,htr]
  ·rw [if_neg h2] at ha
   subst ha
   by_cases hp:0 < t.len
   ·simp -implicitDefEqProofs [m70,H5,g0,g1,gl,h1,h2,hp,v_,BT,pJ,nF,e0,e1,fin2 hp,lA,htr2,q1,q2,mJ,htr]
   ·simp -implicitDefEqProofs [m70,H5,g0,g1,gl,h1,h2,hp,v_,BT,pJ,nF,e0,e1,lA,htr2,q1,q2,mJ,htr]
def Ze (s:GS):Prop:=∀(w:WS) (B:List lR),Still B→w.bs.length+(p_ w.ln s).length≤1099511627776→w.now+qN s≤1000000000000000 →
 KK 126 [.ptr 1 0,.agg s.cells] (WH w B)=some (.ret (.tuple []),WH (w.st (p_ w.ln s) (qN s) 0) B)
def BOk (l:List GS):Prop:=∀(w:WS) (B:List lR),Still B→w.bs.length+(nQ w.ln (n9 (w.ln+1) l)).length≤1099511627776→w.now+(pV (nZ l)+1)≤1000000000000000 →
 KK 71 [.ptr 1 0,.slice (l.map GS.cells) .no] (WH w B)=some (.ret (.tuple []),WH (w.st (nQ w.ln (n9 (w.ln+1) l)) (pV (nZ l)+1) 0) B)
def Lq (n:Nat) (t:List UInt8):List UInt8:=qA n++t++[10]
def wW (n:Nat) (l:List GS) (i:Nat):List UInt8:=(((l.take i).map (p_ n)).map (Lq n)).flatten
def zQ (l:List GS) (i:Nat):Nat:=pV ((l.take i).map qN)
theorem Iw:∀(l:List Nat) (p:Nat),pV (l++[p])=max (pV l) p
 | [],p=>by simp [pV]
 | q::l,p=>by simp only [af5,pV,Iw l p]; omega
theorem LM:∀(a b:List Nat),pV a≤pV (a++b)
 | [],_=>by simp [pV]
 | p::a,b=>by simp only [pV,af5]; have:=LM a b; omega
theorem N2 {n:Nat}{l:List GS}{i:Nat}{x:GS}(h:l[i]?=some x):wW n l (i+1)=wW n l i++(qA n++(p_ n x++[10])):=by
 simp [wW,tL h,Lq]
theorem N1 {l:List GS}{i:Nat}{x:GS}(h:l[i]?=some x):zQ l (i+1)=max (zQ l i) (qN x):=by
 simp [zQ,tL h,Iw]
theorem Vg (n:Nat) (l:List GS) (i:Nat):(wW n l i).length≤(wW n l l.length).length:=by
 have:wW n l l.length=wW n l i++(((l.drop i).map (p_ n)).map (Lq n)).flatten:=by
  unfold wW
  rw [←List.flatten_append,←List.map_append,←List.map_append,List.take_append_drop,List.take_length]
 rw [this]; simp
theorem ahE (l:List GS) (i:Nat):zQ l i≤zQ l l.length:=by
 have:zQ l l.length=pV ((l.take i).map qN++(l.drop i).map qN):=by
  unfold zQ
  rw [←List.map_append,List.take_append_drop,List.take_length]
 rw [this]
 exact LM _ _
theorem H8 (n:Nat) (l:List GS):nQ n (n9 (n+1) l)=32::123::10::(wW (n+1) l l.length++(qA n++[125])):=by
 unfold nQ wW
 have e:(fun t=>qA (n+1)++t++[10])=Lq (n+1):=rfl
 rw [OM,List.take_length,e]
 simp
theorem P_ (l:List GS):pV (nZ l)=zQ l l.length:=by rw [Ff]; simp [zQ]
@[simp] theorem tC {n:Nat}:(qA n).length=n:=by simp [qA]
theorem acJ {w:WS}{B:List lR}(l:List GS) (hok:∀x∈l,Ze x) (n:Nat) (hB:Still B) (W:List UInt8) (hl:l.length≤4611686018427387904)
  (hb:w.bs.length+(W.length+(wW (n+1) l l.length).length)≤1099511627776) (hn:w.now+(zQ l l.length+1)≤1000000000000000):∀i,i≤l.length →
  mQ (P6 KK (B.length+3)) ([.ptr 1 0,.slice (l.map GS.cells) .no,.int .i64 (l.length:Int),.int .i64 (i:Int)],WH ((w.st (W++wW (n+1) l i) (max 1 (nn 1 (zQ l i))) 1).sl (n+1)) B) =
   some (.exit 0,[.ptr 1 0,.slice (l.map GS.cells) .no,.int .i64 (l.length:Int),.int .i64 (l.length:Int)],WH ((w.st (W++wW (n+1) l l.length) (max 1 (nn 1 (zQ l l.length))) 1).sl (n+1)) B):=by
 refine tN (fun i:Nat=>([.ptr 1 0,.slice (l.map GS.cells) .no,.int .i64 (l.length:Int),.int .i64 (i:Int)],WH ((w.st (W++wW (n+1) l i) (max 1 (nn 1 (zQ l i))) 1).sl (n+1)) B)) (fun i=>i≤l.length) (fun i=>l.length - i) _ fun i hi=>?_
 have htr:=fun w C=>oG (w:=w) (C:=C) hB
 by_cases h:i < l.length
 ·left
  refine⟨i+1,?_,h,by omega,rfl⟩
  obtain⟨x,hx⟩:∃x,l[i]?=some x:=⟨l[i],ac1 h⟩
  have hxe:=hok x (am4 hx)
  have hxi:∀hh:i < l.length,l[i]'hh=x:=fun hh=>by rw [ac1 hh] at hx; exact Option.some.inj hx
  have t1:=N2 (n:=n+1) hx
  have t2:=N1 hx
  have t3:=Vg (n+1) l (i+1)
  have t4:=ahE l (i+1)
  rw [t1] at t3
  rw [t2] at t4
  simp only [ac6,am1,am3,tC] at t3
  have w1:=rY (a:=i) (by omega)
  have s2:Still (B++[.cells x.cells,.front 0 0,.front 0 0,.front 0 0]):=pI hB (A9 (mP (mP (mP oF))))
  have s4:Still (B++[.cells x.cells,.front 0 0,.front 0 0,.front 0 0,.front 1 1]):=pI hB (A9 (mP (mP (mP (mP oF)))))
  have hst:=fun w C cs (hc:ab7 cs=11)=>aE4 (w:=w) (B:=B) (C:=C) (x:=x) hc
  have e1:=ayQ (w:=(w.st (W++wW (n+1) l i) (max 1 (nn 1 (zQ l i))) 1).sl (n+1)) s2 (by simp; omega) (by simp; omega)
  have e2:=hxe ((w.st (W++(wW (n+1) l i++qA (n+1))) (max 1 (nn 1 (zQ l i))) 1).sl (n+1)) _ s2 (by simp; omega) (by simp; omega)
  have e3:=P1 (w:=(w.st (W++(wW (n+1) l i++(qA (n+1)++p_ (n+1) x))) (max (max 1 (nn 1 (zQ l i))) (nn 1 (qN x))) 1).sl (n+1)) (x:=[10]) s4 (by simp; omega)
  simp -implicitDefEqProofs at e1 e2 e3
  simp -implicitDefEqProofs [P6,h,hxi,aEg,apV,hst,lA,htr,nF,v_,pJ,e1,e2,e3,w1,yZ,-ag9]
  refine congrArg (fun w=>WH w B) (congrArg (fun w=>WS.sl w (n+1)) (WS.Bm (by rw [t1]) ?_ rfl))
  rw [t2]
  unfold nn
  split <;> split <;> split <;> omega
 ·right
  have:i=l.length:=by omega
  subst this
  constructor
  ·simp -implicitDefEqProofs [P6,lA,s_ hB,yZ]
  ·simp
theorem c71 (l:List GS) (hok:∀x∈l,Ze x):BOk l:=by
 intro w B hB hb hn
 rw [H8] at hb ⊢
 rw [P_] at hn ⊢
 simp only [ac6,am1,am3,tC] at hb
 have hl:l.length≤4611686018427387904:=by
  have key:∀(n:Nat) (l:List GS),l.length≤(wW n l l.length).length:=by
   intro n l
   unfold wW
   rw [List.take_length]
   induction l with
   | nil=>simp
   | cons x r ih=>simp only [ak9,List.flatten_cons,ac6,am1,Lq,am3] at ih ⊢; omega
  have:=key (w.ln+1) l
  omega
 refine lJ (atF _ _ _ _) ?_
 have s1:=SP (n:=1) (s:=1) hB
 have s2:Still (B++[.front 1 1,.front 1 1]):=pI hB (mP (mP oF))
 have htr:=fun w C=>oG (w:=w) (C:=C) hB
 have e1:=P1 (w:=w) (x:=[32,123,10]) s1 (by simp; omega)
 have e2:=c85 (w:=w.st [32,123,10] 0 0) s1 (by simp; omega)
 have w1:=rY (a:=w.ln) (by omega)
 have e3:=aoR (w:=w.st [32,123,10] 1 1) (B:=B++[.front 1 1]) (n:=w.ln+1)
 have e4:=acJ (w:=w) l hok w.ln s1 [32,123,10] hl (by simp; omega) hn 0 (ak5 _)
 have w2:IntKind.wrap .i64 (((w.ln+1:Nat):Int) - 1)=(w.ln:Int):=by rw [wrap64] <;> omega
 have e5:=aoR (w:=(w.st ([32,123,10]++wW (w.ln+1) l l.length) (max 1 (nn 1 (zQ l l.length))) 1).sl (w.ln+1)) (B:=B++[.front 1 1]) (n:=w.ln)
 have e6:=ayQ (w:=w.st ([32,123,10]++wW (w.ln+1) l l.length) (max 1 (nn 1 (zQ l l.length))) 1) s1 (by simp; omega) (by simp; omega)
 have e7:=c86 (w:=w.st ([32,123,10]++(wW (w.ln+1) l l.length++qA w.ln)) (max 1 (nn 1 (zQ l l.length))) 1) s1 (by simp; omega) (by simp)
 have e8:=P1 (w:=w.st ([32,123,10]++(wW (w.ln+1) l l.length++qA w.ln)) (max 1 (nn 1 (zQ l l.length))) 0) (x:=[125]) s2 (by simp; omega)
 have t0:wW (w.ln+1) l 0=[]:=rfl
 have n0:zQ l 0=0:=rfl
 simp -implicitDefEqProofs [t0,n0,WS.Uz,-ag9] at e2 e3 e4 e5 e6 e7 e8
 simp -implicitDefEqProofs [m71,v_,pJ,e1,e2,w1,e3,e4,w2,e5,e6,e7,e8,nF,mJ,htr,-ag9]
 refine congrArg (fun w=>WH w B) (WS.Bm rfl ?_ rfl)
 unfold nn
 split <;> omega
end
section
open Go Hk
def GS.kind:GS→Int | .mk k _ _ _ _ _ _ _ _=>k
def GS.sE:GS→Int | .mk _ _ m _ _ _ _ _ _=>m
def GS.name:GS→List UInt8 | .mk _ _ _ n _ _ _ _ _=>n
def GS.ty:GS→GT | .mk _ _ _ _ t _ _ _ _=>t
def GS.args:GS→List GE | .mk _ _ _ _ _ a _ _ _=>a
def GS.body:GS→List GS | .mk _ _ _ _ _ _ b _ _=>b
def GS.els:GS→List GS | .mk _ _ _ _ _ _ _ e _=>e
def GS.has:GS→Bool | .mk _ _ _ _ _ _ _ _ h=>h
theorem qX (n:Nat) (x:GS):p_ n x=xC x.kind x.sE x.name x.ty (x.args.map mB) (nQ n (n9 (n+1) x.body)) (nQ n (n9 (n+1) x.els)) x.has:=by cases x; simp only [p_]; rfl
theorem qW (x:GS):qN x=We x.kind (x.args.map lS) (pV (nZ x.body)+1) (pV (nZ x.els)+1) x.has:=by cases x; simp only [qN]; rfl
section
variable (x:GS)
@[simp] theorem GS.g0 {h:0 < x.cells.length}:x.cells[0]'h=.int .i64 x.kind:=by cases x; rfl
@[simp] theorem GS.g2 {h:2 < x.cells.length}:x.cells[2]'h=.int .i64 x.sE:=by cases x; rfl
@[simp] theorem GS.g3 {h:3 < x.cells.length}:x.cells[3]'h=.str x.name:=by cases x; rfl
@[simp] theorem GS.g6 {h:6 < x.cells.length}:x.cells[6]'h=.int .i64 x.ty.label:=by cases x; rfl
@[simp] theorem GS.g7 {h:7 < x.cells.length}:x.cells[7]'h=.slice (x.args.map GE.cells) .no:=by cases x; rfl
@[simp] theorem GS.g8 {h:8 < x.cells.length}:x.cells[8]'h=.slice (x.body.map GS.cells) .no:=by cases x; simp [GS.cells,GS.body,GS.pM]
@[simp] theorem GS.g9 {h:9 < x.cells.length}:x.cells[9]'h=.slice (x.els.map GS.cells) .no:=by cases x; simp [GS.cells,GS.els,GS.pM]
@[simp] theorem GS.g10 {h:10 < x.cells.length}:x.cells[10]'h=.bool x.has:=by cases x; rfl
@[simp] theorem GS.gty:(x.cells.drop 4).take 3=x.ty.cells:=by cases x; rfl
@[simp] theorem GT.UL (t:GT):t.cells.map kP.tP=t.cells:=rfl
end
theorem UW {x:GS}{a:GE}{l:List GE}(h:x.args=a::l):lH 5 (.slice (x.args.map GE.cells) .no) (.int .i64 0)=some (.pptr a.cells):=by rw [h]; exact ix0
theorem xi1 {x:GS}{a b:GE}{l:List GE}(h:x.args=a::b::l):lH 5 (.slice (x.args.map GE.cells) .no) (.int .i64 1)=some (.pptr b.cells):=by rw [h]; exact ix1
@[simp] theorem aCK {m:Nat}:nn 0 m=m:=by unfold nn; split <;> omega
theorem w00:IntKind.wrap .i64 0=0:=by decide
theorem w01:IntKind.wrap .i64 1=1:=by decide
section
variable {w:WS}{B:List lR}{x:GS}
theorem sS1 (hB:Still B):Still (B++[.cells x.cells]):=pI hB (A9 oF)
theorem QK {n s:Nat}(hB:Still B):Still (B++[.cells x.cells,.front n s]):=pI hB (A9 (mP oF))
theorem sS3 {n s n' s':Nat}(hB:Still B):Still (B++[.cells x.cells,.front n s,.front n' s']):=pI hB (A9 (mP (mP oF)))
theorem sS4 {n s n' s' n2 s2:Nat}(hB:Still B):Still (B++[.cells x.cells,.front n s,.front n' s',.front n2 s2]):=pI hB (A9 (mP (mP (mP oF))))
theorem trS (hB:Still B) (w:WS) (D:List lR):mI (B.length+1+3) (WH w (B++.cells x.cells::D))=some (WH w (B++[.cells x.cells])):=trC (C:=[.cells x.cells]) hB (A9 oF) rfl
theorem qS1 {h:kT}{o:Nat}:kP.m_ (B.length+1+3) h (.ptr (B.length+3) o)=.ptr (B.length+3) o:=yP (by omega)
theorem qS2 {h:kT}{o:Nat}:kP.m_ (B.length+1+3) h (.ptr 1 o)=.ptr 1 o:=yP (by omega)
end
theorem avK {x:GS}{a:GE}(hk:x.kind=1) (hx:x.args=[a]) (ha:mY a=true):Ze x:=by
 intro w B hB hb hn
 have t1:p_ w.ln x=[108,101,116,32]++x.name++[32,61,32]++mB a++[59]:=by rw [qX,hk,hx]; rfl
 have t2:qN x=lS a:=by rw [qW,hk,hx]; rfl
 rw [t1] at hb
 rw [t2] at hn
 rw [t1,t2]
 simp only [ac6,am1,am3] at hb
 refine lJ (Cv _ _ _ _) ?_
 have htr:=fun w C=>oG (w:=w) (C:=C) hB
 have e1:=P3 (w:=w) (x:=[108,101,116,32]) (y:=x.name) (z:=[32,61,32]) (QK (x:=x) (n:=3) (s:=1) hB) (by simp; omega)
 have e2:=c37 a ha (w.st ([108,101,116,32]++(x.name++[32,61,32])) 0 0) _ (sS1 (x:=x) hB) (by simp; omega) (by simp; omega)
 have e3:=P1 (w:=w.st ([108,101,116,32]++(x.name++([32,61,32]++mB a))) (lS a) 0) (x:=[59]) (QK (x:=x) (n:=1) (s:=1) hB) (by simp; omega)
 have i0:=UW hx
 have hl:x.args.length=1:=by rw [hx]; rfl
 simp -implicitDefEqProofs at e1 e2 e3
 simp -implicitDefEqProofs [Ns,GC,hk,v_,BT,pJ,nF,e1,e2,e3,lA,trS hB,qS1,qS2,i0,hl,w00,T0,mJ,htr]
theorem avM {x:GS}{a:GE}(hk:x.kind=3) (hx:x.args=[a]) (ha:mY a=true):Ze x:=by
 intro w B hB hb hn
 have t1:p_ w.ln x=x.name++[32,61,32]++mB a++[59]:=by rw [qX,hk,hx]; rfl
 have t2:qN x=lS a:=by rw [qW,hk,hx]; rfl
 rw [t1] at hb
 rw [t2] at hn
 rw [t1,t2]
 simp only [ac6,am1,am3] at hb
 refine lJ (Cv _ _ _ _) ?_
 have htr:=fun w C=>oG (w:=w) (C:=C) hB
 have e1:=P2 (w:=w) (x:=x.name) (y:=[32,61,32]) (QK (x:=x) (n:=2) (s:=1) hB) (by simp; omega)
 have e2:=c37 a ha (w.st (x.name++[32,61,32]) 0 0) _ (sS1 (x:=x) hB) (by simp; omega) (by simp; omega)
 have e3:=P1 (w:=w.st (x.name++([32,61,32]++mB a)) (lS a) 0) (x:=[59]) (QK (x:=x) (n:=1) (s:=1) hB) (by simp; omega)
 have i0:=UW hx
 have hl:x.args.length=1:=by rw [hx]; rfl
 simp -implicitDefEqProofs at e1 e2 e3
 simp -implicitDefEqProofs [Ns,GC,hk,v_,GG,pJ,nF,e1,e2,e3,lA,trS hB,qS1,qS2,i0,hl,w00,T0,mJ,htr]
theorem avL {x:GS}{a:GE}(hk:x.kind=8) (hx:x.args=[a]) (ha:mY a=true):Ze x:=by
 intro w B hB hb hn
 have t1:p_ w.ln x=[114,101,116,117,114,110,32]++mB a++[59]:=by rw [qX,hk,hx]; rfl
 have t2:qN x=lS a:=by rw [qW,hk,hx]; rfl
 rw [t1] at hb
 rw [t2] at hn
 rw [t1,t2]
 simp only [ac6,am1,am3] at hb
 refine lJ (Cv _ _ _ _) ?_
 have htr:=fun w C=>oG (w:=w) (C:=C) hB
 have e1:=P1 (w:=w) (x:=[114,101,116,117,114,110,32]) (QK (x:=x) (n:=1) (s:=1) hB) (by simp; omega)
 have e2:=c37 a ha (w.st [114,101,116,117,114,110,32] 0 0) _ (sS1 (x:=x) hB) (by simp; omega) (by simp; omega)
 have e3:=P1 (w:=w.st ([114,101,116,117,114,110,32]++mB a) (lS a) 0) (x:=[59]) (QK (x:=x) (n:=1) (s:=1) hB) (by simp; omega)
 have i0:=UW hx
 have hl:x.args.length=1:=by rw [hx]; rfl
 simp -implicitDefEqProofs at e1 e2 e3
 simp -implicitDefEqProofs [Ns,GC,hk,v_,pJ,nF,e1,e2,e3,lA,trS hB,qS1,qS2,i0,hl,w00,T0,mJ,htr]
theorem alY {x:GS}{a:GE}(hk:x.kind=7) (hx:x.args=[a]) (ha:mY a=true):Ze x:=by
 intro w B hB hb hn
 have t1:p_ w.ln x=mB a++[59]:=by rw [qX,hk,hx]; rfl
 have t2:qN x=lS a:=by rw [qW,hk,hx]; rfl
 rw [t1] at hb
 rw [t2] at hn
 rw [t1,t2]
 simp only [ac6,am1,am3] at hb
 refine lJ (Cv _ _ _ _) ?_
 have htr:=fun w C=>oG (w:=w) (C:=C) hB
 have e2:=c37 a ha w _ (sS1 (x:=x) hB) (by omega) (by omega)
 have e3:=P1 (w:=w.st (mB a) (lS a) 0) (x:=[59]) (QK (x:=x) (n:=1) (s:=1) hB) (by simp; omega)
 have i0:=UW hx
 have hl:x.args.length=1:=by rw [hx]; rfl
 simp -implicitDefEqProofs at e2 e3
 simp -implicitDefEqProofs [Ns,GC,hk,v_,pJ,nF,e2,e3,lA,trS hB,qS1,qS2,i0,hl,w00,T0,mJ,htr]
theorem aeK {x:GS}{a b:GE}(hk:x.kind=4) (hx:x.args=[a,b]) (ha:mY a=true) (hb':mY b=true) (hnm:pH x.name=true):Ze x:=by
 intro w B hB hb hn
 have t1:p_ w.ln x=x.name++91::(mB a++[93])++[32,61,32]++mB b++[59]:=by rw [qX,hk,hx]; rfl
 have t2:qN x=max (lS a+1) (lS b):=by rw [qW,hk,hx]; rfl
 rw [t1] at hb
 rw [t2] at hn
 rw [t1,t2]
 simp only [ac6,am1,am3] at hb
 refine lJ (Cv _ _ _ _) ?_
 have htr:=fun w C=>oG (w:=w) (C:=C) hB
 have hwe:mY (.mk 3 0 0 x.name [a])=true:=by simp [mY,mZ,rK,uB,lM,lF,hnm,ha]
 have hce:(GE.mk 3 0 0 x.name [a]).cells=[.int .i64 3,.int .i64 0,.int .i64 0,.str x.name,.slice [a.cells] .no]:=by simp [GE.cells,GE.rows]
 have hte:mB (.mk 3 0 0 x.name [a])=x.name++91::(mB a++[93]):=by rw [sX]; rfl
 have hne:lS (.mk 3 0 0 x.name [a])=lS a+1:=by rw [sS]; rfl
 have e1:=c37 _ hwe w _ (sS1 (x:=x) hB) (by rw [hte]; simp only [ac6,am1,am3]; omega) (by rw [hne]; omega)
 rw [hce,hte,hne] at e1
 have e2:=P1 (w:=w.st (x.name++91::(mB a++[93])) (lS a+1) 0) (x:=[32,61,32]) (QK (x:=x) (n:=1) (s:=1) hB) (by simp; omega)
 have e3:=c37 b hb' (w.st (x.name++91::(mB a++([93]++[32,61,32]))) (lS a+1) 0) _ (sS1 (x:=x) hB) (by simp; omega) (by simp; omega)
 have e4:=P1 (w:=w.st (x.name++91::(mB a++([93]++([32,61,32]++mB b)))) (max (lS a+1) (nn 0 (lS b))) 0) (x:=[59]) (QK (x:=x) (n:=1) (s:=1) hB) (by simp; omega)
 have i1:=xi1 hx
 have hl:x.args.length=2:=by rw [hx]; rfl
 have hsl:uV 5 (.slice (x.args.map GE.cells) .no) none (some (.int .i64 1))=some (.slice [a.cells] .no):=by
  rw [GD (l:=0) (u:=1) (fun y=>y.rA) rfl rfl (by omega) (by omega),hx]; rfl
 have hab:l_ [.int .i64 0,.int .i64 0,.int .i64 0,.str [],.slice [] .nil] [(0,1),(1,1),(2,1),(3,1),(4,1)] [(0,.int .i64 3),(3,.str x.name),(4,.slice [a.cells] .no)]=some (.agg [.int .i64 3,.int .i64 0,.int .i64 0,.str x.name,.slice [a.cells] .no]):=rfl
 simp -implicitDefEqProofs at e1 e2 e3 e4
 simp -implicitDefEqProofs [Ns,GC,hk,v_,pJ,nF,hsl,hab,e1,e2,e3,e4,lA,trS hB,qS1,qS2,i1,hl,w01,T0,mJ,htr]
theorem avN {x:GS}(hk:x.kind=2) (ht:rV x.ty=true):Ze x:=by
 intro w B hB hb hn
 have t1:p_ w.ln x=[118,97,114,32]++oO x.ty.label++x.name++[58,32]++vO x.ty++[59]:=by rw [qX,hk]; rfl
 have t2:qN x=0:=by rw [qW,hk]; rfl
 rw [t1] at hb
 rw [t2] at hn
 rw [t1,t2]
 have ll:(oO x.ty.label).length=4:=by unfold oO; split <;> rfl
 simp only [ac6,am1,am3,ll] at hb
 refine lJ (Cv _ _ _ _) ?_
 have htr:=fun w C=>oG (w:=w) (C:=C) hB
 have e1:=P1 (w:=w) (x:=[118,97,114,32]) (QK (x:=x) (n:=1) (s:=1) hB) (by simp; omega)
 have e2:=c69 (w:=w.st [118,97,114,32] 0 0) x.ty.label (QK (x:=x) (n:=1) (s:=1) hB) (by simp; omega)
 have e3:=P2 (w:=w.st ([118,97,114,32]++oO x.ty.label) 0 0) (x:=x.name) (y:=[58,32]) (sS3 (x:=x) (n:=1) (s:=1) (n':=2) (s':=1) hB) (by simp; omega)
 have e4:=c70 (w:=w.st ([118,97,114,32]++(oO x.ty.label++(x.name++[58,32]))) 0 0) x.ty ht (sS3 (x:=x) (n:=1) (s:=1) (n':=2) (s':=1) hB) (by simp; omega)
 have e5:=P1 (w:=w.st ([118,97,114,32]++(oO x.ty.label++(x.name++([58,32]++vO x.ty)))) 0 0) (x:=[59]) (sS4 (x:=x) (n:=1) (s:=1) (n':=2) (s':=1) (n2:=1) (s2:=1) hB) (by simp; omega)
 simp -implicitDefEqProofs at e1 e2 e3 e4 e5
 simp -implicitDefEqProofs [Ns,GC,hk,v_,GG,pJ,nF,e1,e2,e3,e4,e5,lA,trS hB,qS1,qS2,mJ,htr]
end
section
open Go Hk
section
variable {w:WS}{B:List lR}{x:GS}
theorem aBD (hB:Still B) (w:WS) (D:List lR):mI (B.length+2+3) (WH w (B++.cells x.cells::.front 1 1::D))=some (WH w (B++[.cells x.cells,.front 1 1])) :=
 trC (C:=[.cells x.cells,.front 1 1]) hB (A9 (mP oF)) rfl
theorem qS3 {h:kT}{o:Nat}:kP.m_ (B.length+2+3) h (.ptr (B.length+3) o)=.ptr (B.length+3) o:=yP (by omega)
theorem qS4 {h:kT}{o:Nat}:kP.m_ (B.length+2+3) h (.ptr 1 o)=.ptr 1 o:=yP (by omega)
end
theorem aBv {x:GS}{a:GE}(hk:x.kind=5) (hx:x.args=[a]) (ha:mY a=true) (hb1:BOk x.body) (hb2:BOk x.els):Ze x:=by
 intro w B hB hb hn
 have t1:p_ w.ln x=[105,102,32]++mB a++nQ w.ln (n9 (w.ln+1) x.body)++(if x.has then [32,101,108,115,101]++nQ w.ln (n9 (w.ln+1) x.els) else []):=by rw [qX,hk,hx]; rfl
 have t2:qN x=if x.has then max (lS a) (max (pV (nZ x.body)+1) (pV (nZ x.els)+1)) else max (lS a) (pV (nZ x.body)+1):=by rw [qW,hk,hx]; rfl
 rw [t1] at hb
 rw [t2] at hn
 rw [t1,t2]
 have f1:=hb1
 have f2:=hb2
 unfold BOk at f1 f2
 simp only [ac6,am1,am3] at hb
 refine lJ (Cv _ _ _ _) ?_
 have htr:=fun w C=>oG (w:=w) (C:=C) hB
 have i0:=UW hx
 have e1:=P1 (w:=w) (x:=[105,102,32]) (QK (x:=x) (n:=1) (s:=1) hB) (by simp; omega)
 cases hh:x.has with
 | false =>
  rw [hh] at hb hn
  simp only [ak4,if_false,am3] at hb hn ⊢
  have e2:=c37 a ha (w.st [105,102,32] 0 0) _ (QK (x:=x) (n:=1) (s:=1) hB) (by simp; omega) (by simp; omega)
  have e3:=f1 (w.st ([105,102,32]++mB a) (lS a) 0) _ (QK (x:=x) (n:=1) (s:=1) hB) (by simp; omega) (by simp; omega)
  simp -implicitDefEqProofs at e1 e2 e3
  simp -implicitDefEqProofs [Ns,GC,hk,v_,BT,pJ,nF,hh,e1,e2,e3,lA,trS hB,aBD hB,qS1,qS2,qS3,qS4,i0,T0,mJ,htr]
 | true =>
  rw [hh] at hb hn
  simp only [if_true,ac6,am1,am3] at hb hn ⊢
  have e2:=c37 a ha (w.st [105,102,32] 0 0) _ (QK (x:=x) (n:=1) (s:=1) hB) (by simp; omega) (by simp; omega)
  have e3:=f1 (w.st ([105,102,32]++mB a) (lS a) 0) _ (QK (x:=x) (n:=1) (s:=1) hB) (by simp; omega) (by simp; omega)
  have e4:=P1 (w:=w.st ([105,102,32]++(mB a++nQ w.ln (n9 (w.ln+1) x.body))) (max (lS a) (pV (nZ x.body)+1)) 0) (x:=[32,101,108,115,101]) (sS3 (x:=x) (n:=1) (s:=1) (n':=1) (s':=1) hB) (by simp; omega)
  have e5:=f2 (w.st ([105,102,32]++(mB a++(nQ w.ln (n9 (w.ln+1) x.body)++[32,101,108,115,101]))) (max (lS a) (pV (nZ x.body)+1)) 0) _ (sS3 (x:=x) (n:=1) (s:=1) (n':=1) (s':=1) hB) (by simp; omega) (by simp; omega)
  simp -implicitDefEqProofs at e1 e2 e3 e4 e5
  simp -implicitDefEqProofs [Ns,GC,hk,v_,BT,pJ,nF,hh,e1,e2,e3,e4,e5,lA,trS hB,aBD hB,qS1,qS2,qS3,qS4,i0,T0,mJ,htr]
theorem avJ {x:GS}{a:GE}(hk:x.kind=6) (hx:x.args=[a]) (ha:mY a=true) (hm:0≤x.sE∧x.sE≤4294967295) (hb1:BOk x.body):Ze x:=by
 intro w B hB hb hn
 have t1:p_ w.ln x=[102,111,114,32]++x.name++[32,60,32]++mB a++[32,109,97,120,32]++uK x.sE++nQ w.ln (n9 (w.ln+1) x.body):=by rw [qX,hk,hx]; rfl
 have t2:qN x=max (lS a) (pV (nZ x.body)+1):=by rw [qW,hk,hx]; rfl
 rw [t1] at hb
 rw [t2] at hn
 rw [t1,t2]
 have f1:=hb1
 unfold BOk at f1
 simp only [ac6,am1,am3] at hb
 refine lJ (Cv _ _ _ _) ?_
 have htr:=fun w C=>oG (w:=w) (C:=C) hB
 have i0:=UW hx
 have e0:=c89 x.sE hm.1 (by omega)
 have e1:=P3 (w:=w) (x:=[102,111,114,32]) (y:=x.name) (z:=[32,60,32]) (QK (x:=x) (n:=3) (s:=1) hB) (by simp; omega)
 have e2:=c37 a ha (w.st ([102,111,114,32]++(x.name++[32,60,32])) 0 0) _ (QK (x:=x) (n:=3) (s:=1) hB) (by simp; omega) (by simp; omega)
 have e3:=P2 (w:=w.st ([102,111,114,32]++(x.name++([32,60,32]++mB a))) (lS a) 0) (x:=[32,109,97,120,32]) (y:=uK x.sE) (sS3 (x:=x) (n:=3) (s:=1) (n':=2) (s':=1) hB) (by simp; omega)
 have e4:=f1 (w.st ([102,111,114,32]++(x.name++([32,60,32]++(mB a++([32,109,97,120,32]++uK x.sE))))) (lS a) 0) _ (sS3 (x:=x) (n:=3) (s:=1) (n':=2) (s':=1) hB) (by simp; omega) (by simp; omega)
 simp -implicitDefEqProofs at e1 e2 e3 e4
 simp -implicitDefEqProofs [Ns,GC,hk,GG,BT,pJ,nF,e0,e1,e2,e3,e4,lA,trS hB,qS1,qS2,i0,T0,mJ,htr]
theorem Pa {k:Int}(h:1≤k∧k≤8):k=1∨k=2∨k=3∨k=4∨k=5∨k=6∨k=7∨k=8:=by omega
theorem B4 {k m:Int}{name:List UInt8}{ty:GT}{args:List GE}{nb ne:Nat}{has:Bool}(h:lW k m name ty args nb ne has=true):1≤k∧k≤8:=by
 unfold lW lO at h
 split at h
 ·cases h
 ·rename_i m hm
  split at hm
  ·cases hm
  ·omega
theorem sok:∀(n:Nat) (x:GS),x.size≤n→pQ x=true→Ze x:=by
 intro n
 induction n with
 | zero=>intro x hn; cases x; simp [GS.size] at hn
 | succ n ih =>
  intro x hn hw
  have hnode:lW x.kind x.sE x.name x.ty x.args x.body.length x.els.length x.has=true:=by
   cases x
   simp only [pQ,am2] at hw
   exact hw.1.1
  have hb1:BOk x.body:=c71 _ fun y hy=>by
   cases x
   simp only [pQ,am2,xK,ag3] at hw
   have h1:=GS.qQ hy
   simp only [GS.size,GS.body] at hn h1 hy
   exact ih y (by omega) (hw.1.2 y hy)
  have hb2:BOk x.els:=c71 _ fun y hy=>by
   cases x
   simp only [pQ,am2,xK,ag3] at hw
   have h1:=GS.qQ hy
   simp only [GS.size,GS.els] at hn h1 hy
   exact ih y (by omega) (hw.2 y hy)
  have hk:=B4 hnode
  unfold lW at hnode
  have one:x.args.length=1→mZ x.args=true→∃a,x.args=[a]∧mY a=true:=by
   intro h1 h2
   obtain⟨a,e⟩:=Ch h1
   rw [e] at h2
   simp only [mZ,Bool.and_true] at h2
   exact⟨a,e,h2⟩
  rcases Pa hk with h | h | h | h | h | h | h | h <;> simp only [h] at hnode <;>
   simp [lO,lF,vP] at hnode
  ·obtain⟨a,e,hwa⟩:=one (by simp_all) (by simp_all)
   exact avK h e hwa
  ·exact avN h (by simp_all)
  ·obtain⟨a,e,hwa⟩:=one (by simp_all) (by simp_all)
   exact avM h e hwa
  ·obtain⟨a,b,e⟩:=w9 (l:=x.args) (by simp_all)
   have h2:mZ x.args=true:=by simp_all
   have h3:lM x.name true=true:=by simp_all
   rw [e] at h2
   simp only [mZ,Bool.and_true,am2] at h2
   exact aeK h e h2.1 h2.2 h3
  ·obtain⟨a,e,hwa⟩:=one (by simp_all) (by simp_all)
   exact aBv h e hwa hb1 hb2
  ·obtain⟨a,e,hwa⟩:=one (by simp_all) (by simp_all)
   exact avJ h e hwa (by simp_all) hb1
  ·obtain⟨a,e,hwa⟩:=one (by simp_all) (by simp_all)
   exact alY h e hwa
  ·obtain⟨a,e,hwa⟩:=one (by simp_all) (by simp_all)
   exact avL h e hwa
theorem aDS (l:List GS) (hw:oI l=true):BOk l:=c71 l fun x hx=>sok x.size x (Nat.le_refl _) (by rw [xK,ag3] at hw; exact hw x hx)
end
section
open Go Hk
section
variable (x:GP)
@[simp] theorem GP.rA:x.cells.length=6:=rfl
theorem GP.still (m:Nat) (h:kT):nK m h x.cells=some x.cells:=by simp [GP.cells]
theorem My {x:GP}{C:List lR}(h:Still C):Still (.cells x.cells::C):=fun m y=>by simp [x.still m y,h m y]
@[simp] theorem GP.g1 {h:1 < x.cells.length}:x.cells[1]'h=.str x.name:=rfl
@[simp] theorem GP.g4 {h:4 < x.cells.length}:x.cells[4]'h=.int .i64 x.ty.label:=rfl
@[simp] theorem GP.g5 {h:5 < x.cells.length}:x.cells[5]'h=.bool x.out:=rfl
@[simp] theorem GP.gty:(x.cells.drop 2).take 3=x.ty.cells:=rfl
theorem GP.Rq:x.cells.all kP.mH=true:=by simp [GP.cells,kP.mH]
theorem aiJ {h:kT}:mA true 6 h (.pptr x.cells)=some (.agg x.cells):=by simp [mA]; rfl
end
section
variable (x:GF)
@[simp] theorem GF.rA:x.cells.length=8:=rfl
theorem GF.still (m:Nat) (h:kT):nK m h x.cells=some x.cells:=by simp [GF.cells]
theorem ET {x:GF}{C:List lR}(h:Still C):Still (.cells x.cells::C):=fun m y=>by simp [x.still m y,h m y]
@[simp] theorem GF.g1 {h:1 < x.cells.length}:x.cells[1]'h=.str x.name:=rfl
@[simp] theorem GF.g2 {h:2 < x.cells.length}:x.cells[2]'h=.slice (x.params.map GP.cells) .no:=rfl
@[simp] theorem GF.g3 {h:3 < x.cells.length}:x.cells[3]'h=.bool x.has:=rfl
@[simp] theorem GF.g6 {h:6 < x.cells.length}:x.cells[6]'h=.int .i64 x.result.label:=rfl
@[simp] theorem GF.g7 {h:7 < x.cells.length}:x.cells[7]'h=.slice (x.body.map GS.cells) .no:=rfl
@[simp] theorem GF.gty:(x.cells.drop 4).take 3=x.result.cells:=rfl
@[simp] theorem GF.UL:x.cells.map kP.tP=x.cells:=rfl
theorem GF.tok {k:Nat}:lL k x.cells=(x.cells,[]):=uQ (by simp [GF.cells,kP.isNil])
theorem GF.Rq:x.cells.all kP.mH=true:=by simp [GF.cells,kP.mH]
end
section
variable {w:WS}{B C:List lR}{cs:List kP}
theorem amV {x:GF}:lZ 8 (WH w B) (.agg x.cells)=some (.ptr (B.length+3) 0,WH w (B++[.cells x.cells])):=by
 simp [lZ,x.tok,x.Rq,nF,pJ]
theorem O6:lZ 6 (WH w B) (.agg [.int .i64 0,.str [],.int .i64 0,.int .i64 0,.int .i64 0,.bool false]) =
  some (.ptr (B.length+3) 0,WH w (B++[.cells [.int .i64 0,.str [],.int .i64 0,.int .i64 0,.int .i64 0,.bool false]])):=by
 simp [lZ,lL,nF,pJ]
theorem stP {x:GP}(hc:cs.length=6):p8 6 (WH w (B++.cells cs::C)) (.ptr (B.length+3) 0) (.agg x.cells)=some (WH w (B++.cells x.cells::C)):=by
 have e:=TK (w:=w) (B:=B) (C:=C) (cs:=cs)
 have hk:∀os,p9 (WH w (B++.cells cs::C)) os x.cells=x.cells:=fun os=>rC (by simp [GP.cells,kP.isNil])
 simp only [p8,Bw,e,Dx,oM,an3,E5,GP.rA,hc]
 rw [if_pos ⟨trivial,by omega,x.Rq⟩,hk]
 have:putCells cs 0 x.cells=x.cells:=by simp [putCells,hc]
 rw [this,ad8]
end
def AF (l:List GP) (i:Nat):List UInt8:=wO ((l.take i).map pP)
theorem IK:∀(l:List (List UInt8)) (p:List UInt8),wO (l++[p])=wO l++(if l=[] then [] else [44,32])++p
 | [],p=>by simp [wO]
 | [q],p=>by simp [wO]
 | q::r::l,p=>by
  have:=IK (r::l) p
  simp only [af5,wO] at this ⊢
  rw [this]
  simp
theorem Ot {l:List GP}{i:Nat}{x:GP}(h:l[i]?=some x):AF l (i+1)=AF l i++(if i=0 then [] else [44,32])++pP x:=by
 have hl:i < l.length:=(ab2.1 h).1
 unfold AF
 rw [tL h,List.map_append,ak9,List.map_nil,IK]
 congr 2
 have:((l.take i).map pP=[])=(i=0):=by
  rw [List.map_eq_nil_iff,List.take_eq_nil_iff]
  apply propext
  constructor
  ·rintro(h | h)
   ·exact h
   ·subst h; simp at hl
  ·exact .inl
 simp only [this]
theorem SF (a:List (List UInt8)):∀(b:List (List UInt8)),(wO a).length≤(wO (a++b)).length
 | []=>by simp
 | p::b=>by
  have h1:=SF (a++[p]) b
  rw [al2] at h1
  rw [IK] at h1
  simp only [ac6,af5,an4] at h1
  omega
theorem Gk:∀(l:List (List UInt8)),l.length≤(wO l).length+1
 | []=>by simp
 | [p]=>by simp
 | p::q::r=>by
  have:=Gk (q::r)
  simp only [wO,ac6,am1] at this ⊢
  omega
theorem V5 (l:List GP) (i:Nat):(AF l i).length≤(wO (l.map pP)).length:=by
 have:=SF ((l.take i).map pP) ((l.drop i).map pP)
 rw [←List.map_append,List.take_append_drop] at this
 exact this
theorem tE {n:Int}:(oO n).length=4:=by unfold oO; split <;> rfl
theorem ab5 {w:WS}{B:List lR}(l:List GP) (hok:∀x∈l,rV x.ty=true) (p:Nat) (hp:p < B.length+3) (hB:Still B) (W:List UInt8) (hl:l.length≤4611686018427387904)
  (hb:w.bs.length+(W.length+(wO (l.map pP)).length)≤1099511627776):∀i,i≤l.length →
  mQ (F8 KK (B.length+3)) ([.ptr 1 0,.ptr p 0,.slice (l.map GP.cells) .no,.int .i64 (l.length:Int),.int .i64 (i:Int)],WH (w.st (W++AF l i) 0 0) B) =
   some (.exit 0,[.ptr 1 0,.ptr p 0,.slice (l.map GP.cells) .no,.int .i64 (l.length:Int),.int .i64 (l.length:Int)],WH (w.st (W++wO (l.map pP)) 0 0) B):=by
 refine tN (fun i:Nat=>([.ptr 1 0,.ptr p 0,.slice (l.map GP.cells) .no,.int .i64 (l.length:Int),.int .i64 (i:Int)],WH (w.st (W++AF l i) 0 0) B)) (fun i=>i≤l.length) (fun i=>l.length - i) _ fun i hi=>?_
 have htr:=fun w C=>oG (w:=w) (C:=C) hB
 have q0:∀h o,kP.m_ (B.length+3) h (.ptr p o)=.ptr p o:=fun h o=>yP hp
 by_cases h:i < l.length
 ·left
  refine⟨i+1,?_,h,by omega,rfl⟩
  obtain⟨x,hx⟩:∃x,l[i]?=some x:=⟨l[i],ac1 h⟩
  have hxe:=hok x (am4 hx)
  have hxi:∀hh:i < l.length,l[i]'hh=x:=fun hh=>by rw [ac1 hh] at hx; exact Option.some.inj hx
  have t1:=Ot hx
  have t3:=V5 l (i+1)
  obtain⟨pre,hpre⟩:∃pre,pre=(if i=0 then [] else [44,32]:List UInt8):=⟨_,rfl⟩
  obtain⟨ot,hot⟩:∃ot,ot=(if x.out then [111,117,116,32] else []:List UInt8):=⟨_,rfl⟩
  have tp:AF l (i+1)=AF l i++(pre++(ot++(oO x.ty.label++(x.name++([58,32]++vO x.ty))))):=by rw [t1,hpre,hot]; simp [pP]
  rw [tp] at t3
  simp only [ac6,am1,am3,tE] at t3
  have w1:=rY (a:=i) (by omega)
  have s1:Still [lR.cells x.cells]:=My oF
  have s2:Still (B++[.cells x.cells]):=pI hB s1
  have s3:Still (B++[.cells x.cells,.front 1 1]):=pI hB (My (mP oF))
  have s4:Still (B++[.cells x.cells,.front 2 1]):=pI hB (My (mP oF))
  have htr2:∀w D,mI (B.length+1+3) (WH w (B++.cells x.cells::D))=some (WH w (B++[.cells x.cells])):=fun w D=>trC (C:=[.cells x.cells]) hB s1 rfl
  have q1:∀h o,kP.m_ (B.length+1+3) h (.ptr (B.length+3) o)=.ptr (B.length+3) o:=fun h o=>yP (by omega)
  have q2:∀h o,kP.m_ (B.length+1+3) h (.ptr 1 o)=.ptr 1 o:=fun h o=>yP (by omega)
  have q3:∀h o,kP.m_ (B.length+1+3) h (.ptr p o)=.ptr p o:=fun h o=>yP (by omega)
  have hst:=fun w C cs (hc:ab7 cs=6)=>stP (w:=w) (B:=B) (C:=C) (x:=x) hc
  have e1:=P1 (w:=w.st (W++AF l i) 0 0) (x:=[44,32]) s3
  have e2:=P1 (w:=w.st (W++(AF l i++pre)) 0 0) (x:=[111,117,116,32]) s3
  have e3:=c69 (w:=w.st (W++(AF l i++(pre++ot))) 0 0) x.ty.label s2 (by simp; omega)
  have e4:=P2 (w:=w.st (W++(AF l i++(pre++(ot++oO x.ty.label)))) 0 0) (x:=x.name) (y:=[58,32]) s4 (by simp [tE]; omega)
  have e5:=c70 (w:=w.st (W++(AF l i++(pre++(ot++(oO x.ty.label++(x.name++[58,32])))))) 0 0) x.ty hxe s4 (by simp [tE]; omega)
  by_cases h0:i=0
  ·have hp:¬0 < i:=by omega
   rw [if_pos h0] at hpre
   subst hpre
   cases ho:x.out with
   | false =>
    rw [ho] at hot
    simp only [ak4,if_false] at hot
    subst hot
    simp -implicitDefEqProofs at e3 e4 e5
    simp -implicitDefEqProofs [F8,h,hxi,aiJ,O6,hst,lA,htr,htr2,nF,v_,GG,pJ,hp,ho,e3,e4,e5,w1,yZ,q0,q1,q2,q3,-ag9]
    exact congrArg (fun w=>WH w B) (WS.Bm (by rw [tp]; simp) rfl rfl)
   | true =>
    rw [ho] at hot
    simp only [if_true] at hot
    subst hot
    have e2:=e2 (by simp; simp at t3; omega)
    simp -implicitDefEqProofs at e2 e3 e4 e5
    simp -implicitDefEqProofs [F8,h,hxi,aiJ,O6,hst,lA,htr,htr2,nF,v_,GG,pJ,hp,ho,e2,e3,e4,e5,w1,yZ,q0,q1,q2,q3,-ag9]
    exact congrArg (fun w=>WH w B) (WS.Bm (by rw [tp]; simp) rfl rfl)
  ·have hp:0 < i:=by omega
   rw [if_neg h0] at hpre
   subst hpre
   have e1:=e1 (by simp; simp at t3; omega)
   cases ho:x.out with
   | false =>
    rw [ho] at hot
    simp only [ak4,if_false] at hot
    subst hot
    simp -implicitDefEqProofs at e1 e3 e4 e5
    simp -implicitDefEqProofs [F8,h,hxi,aiJ,O6,hst,lA,htr,htr2,nF,v_,GG,pJ,hp,ho,e1,e3,e4,e5,w1,yZ,q0,q1,q2,q3,-ag9]
    exact congrArg (fun w=>WH w B) (WS.Bm (by rw [tp]; simp) rfl rfl)
   | true =>
    rw [ho] at hot
    simp only [if_true] at hot
    subst hot
    have e2:=e2 (by simp; simp at t3; omega)
    simp -implicitDefEqProofs at e1 e2 e3 e4 e5
    simp -implicitDefEqProofs [F8,h,hxi,aiJ,O6,hst,lA,htr,htr2,nF,v_,GG,pJ,hp,ho,e1,e2,e3,e4,e5,w1,yZ,q0,q1,q2,q3,-ag9]
    exact congrArg (fun w=>WH w B) (WS.Bm (by rw [tp]; simp) rfl rfl)
 ·right
  have:i=l.length:=by omega
  subst this
  constructor
  ·simp -implicitDefEqProofs [F8,lA,s_ hB,yZ,q0,AF]
  ·simp
theorem c32 {w:WS}{B:List lR}(f:GF) (hw:qE f=true) (h0:w.ln=0) (hB:Still B) (hb:w.bs.length+(qI f).length≤1099511627776) (hn:w.now+wD f≤1000000000000000) :
  KK 32 [.ptr 1 0,.agg f.cells] (WH w B)=some (.ret (.tuple []),WH (w.st (qI f) (wD f) 0) B):=by
 simp only [qE,am2,ag3] at hw
 obtain⟨⟨⟨hw1,hw2⟩,hw3⟩,hw4⟩:=hw
 have hpt:∀x∈f.params,rV x.ty=true:=fun x hx=>by
  have:=hw3 x hx
  simp only [uF,am2] at this
  exact this.2
 obtain⟨res,hres⟩:∃res,res=(if f.has then [58,32]++oO f.result.label++vO f.result else []:List UInt8):=⟨_,rfl⟩
 have tf:qI f=[102,110,32]++(f.name++([40]++(wO (f.params.map pP)++([41]++(res++(nQ 0 (n9 1 f.body)++[10])))))):=by
  rw [hres]; simp [qI]
 have nf:wD f=pV (nZ f.body)+1:=rfl
 rw [tf] at hb ⊢
 rw [nf] at hn ⊢
 simp only [ac6,am1,am3] at hb
 refine lJ (asQ _ _ _ _) ?_
 have htr:=fun w C=>oG (w:=w) (C:=C) hB
 have s1:Still (B++[.cells f.cells,.front 3 1]):=pI hB (ET (mP oF))
 have s2:Still (B++[.cells f.cells,.front 3 1,.front 1 1]):=pI hB (ET (mP (mP oF)))
 have s3:Still (B++[.cells f.cells,.front 3 1,.front 1 1,.front 1 1]):=pI hB (ET (mP (mP (mP oF))))
 have hl:f.params.length≤4611686018427387904:=by
  have:=Gk (f.params.map pP)
  rw [ak1] at this
  omega
 have e1:=P3 (w:=w) (x:=[102,110,32]) (y:=f.name) (z:=[40]) s1 (by simp; omega)
 have e2:=ab5 (w:=w) f.params hpt (B.length+3) (by simp) s1 ([102,110,32]++(f.name++[40])) hl (by simp; omega) 0 (ak5 _)
 have p0:AF f.params 0=[]:=rfl
 have e3:=P1 (w:=w.st ([102,110,32]++(f.name++([40]++wO (f.params.map pP)))) 0 0) (x:=[41]) s2 (by simp; omega)
 have hblk:=aDS f.body hw2
 unfold BOk at hblk
 have e7:=hblk (w.st ([102,110,32]++(f.name++([40]++(wO (f.params.map pP)++([41]++res))))) 0 0) _ s2 (by simp [h0]; omega) (by simp; omega)
 have e8:=P1 (w:=w.st ([102,110,32]++(f.name++([40]++(wO (f.params.map pP)++([41]++(res++nQ 0 (n9 1 f.body))))))) (pV (nZ f.body)+1) 0) (x:=[10]) s3 (by simp; omega)
 have htr3:∀w D,mI (B.length+3+3) (WH w (B++.cells f.cells::.front 3 1::.front 1 1::D))=some (WH w (B++[.cells f.cells,.front 3 1,.front 1 1])) :=
  fun w D=>trC (C:=[.cells f.cells,.front 3 1,.front 1 1]) hB (ET (mP (mP oF))) rfl
 have q1:∀h o,kP.m_ (B.length+3+3) h (.ptr (B.length+3) o)=.ptr (B.length+3) o:=fun h o=>yP (by omega)
 have q2:∀h o,kP.m_ (B.length+3+3) h (.ptr 1 o)=.ptr 1 o:=fun h o=>yP (by omega)
 cases hh:f.has with
 | false =>
  rw [hh] at hres
  simp only [ak4,if_false] at hres
  subst hres
  simp -implicitDefEqProofs [p0,h0] at e1 e2 e3 e7 e8
  simp -implicitDefEqProofs [m32,amV,nF,v_,BT,pJ,hh,e1,e2,e3,e7,e8,lA,htr,htr3,q1,q2,mJ]
 | true =>
  rw [hh] at hres hw4
  simp only [if_true,am2] at hres hw4
  subst hres
  simp only [ac6,am1,am3,tE] at hb
  have s4:Still (B++[.cells f.cells,.front 3 1,.front 1 1,.front 1 1]):=s3
  have e4:=P1 (w:=w.st ([102,110,32]++(f.name++([40]++(wO (f.params.map pP)++[41])))) 0 0) (x:=[58,32]) s4 (by simp; omega)
  have e5:=c69 (w:=w.st ([102,110,32]++(f.name++([40]++(wO (f.params.map pP)++([41]++[58,32]))))) 0 0) f.result.label s4 (by simp; omega)
  have e6:=c70 (w:=w.st ([102,110,32]++(f.name++([40]++(wO (f.params.map pP)++([41]++([58,32]++oO f.result.label)))))) 0 0) f.result hw4.1.1 s4 (by simp [tE]; omega)
  simp -implicitDefEqProofs [p0,h0] at e1 e2 e3 e4 e5 e6 e7 e8
  simp -implicitDefEqProofs [m32,amV,nF,v_,BT,pJ,hh,e1,e2,e3,e4,e5,e6,e7,e8,lA,htr,htr3,q1,q2,mJ]
end
section
open Go Hk
theorem Mc:∀(bs:List UInt8),Aj (tV bs)=some bs
 | []=>rfl
 | b::r=>by
  have h1:=Mc r
  have hb:(0:Int)≤(b.toNat:Int)∧(b.toNat:Int) < 256:=⟨by omega,by have:=b.toNat_lt; omega⟩
  have h2:tV (b::r)=[kP.int .u8 (b.toNat:Int)]::tV r:=rfl
  rw [h2]
  unfold Aj
  rw [if_pos hb,h1]
  simp
theorem ZM {e fid:Nat}{h:kT}{rows:List (List kP)}:ZL e h (.slice rows (.own fid))=(match h[fid]? with
  | some (.front n sz t)=>bif rows.length == n then(match n with
   | 0=>bif sz == 0 then some (.ret (.str []),h) else none
   | _+1=>bif sz == 1 && t == e+1 then(match Aj rows with
    | some bs=>some (.ret (.str bs),h.set fid .gone)
    | none=>none) else none) else none
  | _=>none):=by cases rows <;> rfl
def WHg (w:WS) (B:List lR):kT:=match w.bs with
 | []=>WH w B
 | _::_=>.cells w.a::.tcells 86 (CY w w.bs)::.gone::B
theorem c72 {w:WS}{B:List lR}:KK 72 [.ptr 1 0] (WH w B)=some (.ret (.str w.bs),WHg w B):=by
 refine lJ (m:=D8 mV.bld (.bldString 5) [.ptr 1 0] (WH w B)) rfl ?_
 obtain⟨a,ok,u,bs,now,ov,ln⟩:=w
 have h0:D8 mV.bld (.bldString 5) [.ptr 1 0] (WH ⟨a,ok,u,bs,now,ov,ln⟩ B)=ZL 5 (WH ⟨a,ok,u,bs,now,ov,ln⟩ B) (.slice (tV bs) (.own 2)):=rfl
 rw [h0]
 cases bs with
 | nil=>rfl
 | cons b r =>
  have h1:(tV (b::r)).length=r.length+1:=by rw [AK]; rfl
  have h3:(WH ⟨a,ok,u,b::r,now,ov,ln⟩ B)[2]?=some (.front (r.length+1) 1 6):=rfl
  rw [ZM,h3]
  simp [h1,Mc,WHg,WH,Ks]
theorem WK {w:WS}{B:List lR}(h:Still B):mI (B.length+3) (WHg w B)=some (WHg w B):=by
 unfold WHg
 split
 ·exact s_ h
 ·rename_i b r hbs
  have h0:=NV (w:=w) (cs:=w.bs) (fs:=w.bs) h (m:=B.length+3) (x:=.cells w.a::.tcells 86 (CY w w.bs)::.gone::B) (by omega)
  simp only [Ks,oV,Option.bind_eq_some_iff,Option.map_eq_some_iff] at h0
  obtain⟨b1,e1,r1,⟨b2,e2,r2,⟨b3,e3,r3,e4,e5⟩,e6⟩,e7⟩:=h0
  cases e5; cases e6; cases e7
  have hg:∀m x,qB m x .gone=some .gone:=fun _ _=>rfl
  have ht:(lR.cells w.a::.tcells 86 (CY w w.bs)::.gone::B).take (B.length+3)=.cells w.a::.tcells 86 (CY w w.bs)::.gone::B:=by simp
  simp only [mI,ht,oV,e1,e2,hg,e4,an3,Option.map_some]
theorem c33 {w:WS}{B:List lR}(hB:Still B):∃H,KK 33 [.ptr 1 0] (WH w B)=some (.ret (.tuple [.str (if w.over then [] else w.bs),.int .i64 (if w.over then 11 else 0)]),H):=by
 cases ho:w.over with
 | true =>
  refine⟨WH w B,lJ (ab6 _ _ _) ?_⟩
  simp -implicitDefEqProofs [m33,ho,mJ,nF,s_ hB]
 | false =>
  refine⟨WHg w B,lJ (ab6 _ _ _) ?_⟩
  simp -implicitDefEqProofs [m33,ho,c72,mJ,nF,WK hB]
def WS.new (a:List kP) (ok:∀m h,nK m h a=some a):WS:=⟨a,ok,false,[],0,false,0⟩
def w0:kP:=.agg [.nilptr,.slice [] .nil,.int .i64 0,.bool false,.int .i64 0]
theorem akS:l_ [.nilptr,.slice [] .nil,.int .i64 0,.bool false,.int .i64 0] [(0,2),(2,2),(4,1)] []=some w0:=rfl
theorem akT (a:List kP) (ok:∀m h,nK m h a=some a):I5 86 5 [.cells a] w0=some (.ptr 1 0,WH (WS.new a ok) []):=rfl
@[simp] theorem aEI (a:List kP) (ok:∀m h,nK m h a=some a):(WS.new a ok).bs=[]:=rfl
@[simp] theorem aCJ (a:List kP) (ok:∀m h,nK m h a=some a):(WS.new a ok).now=0:=rfl
@[simp] theorem aEJ (a:List kP) (ok:∀m h,nK m h a=some a):(WS.new a ok).ln=0:=rfl
theorem Sh (a:List kP) (ok:∀m h,nK m h a=some a) (x:List UInt8) (n k:Nat):((WS.new a ok).st x n k).over=decide (64 < n):=by
 simp only [WS.st,WS.new,Bool.false_or,al7]
 exact decide_eq_decide.2 (by omega)
end
section
open Go Hk
theorem c65 (s:List UInt8) (h:kT):KK 65 [.str s] h=some (.ret (.bool (pH s)),h):=by
 refine lK rfl rfl (lJ (as7 _ _ _) ?_)
 have hc:=c49 s
 obtain⟨⟨l,e,p⟩,hr⟩:∃r,oT s=r:=⟨_,rfl⟩
 rw [hr] at hc
 by_cases he:e=0
 ·subst he
  match l with
  | []=>simp -implicitDefEqProofs [m65,hc,lZ,lL,putCells,kS,pH,hr]
  | [t]=>simp -implicitDefEqProofs [m65,hc,lZ,lL,putCells,kS,pH,hr]
  | [t,u] =>
   have i0:lH 4 (.slice [t.cells,u.cells] .no) (.int .i64 0)=some (.pptr t.cells):=by rw [q_]; simp; rfl
   have tl:t.cells.length=4:=rfl
   have g0:∀h:0 < t.cells.length,t.cells[0]'h=.int .i64 (t.kind:Int):=fun _=>rfl
   have g3:∀h:3 < t.cells.length,t.cells[3]'h=.str t.text:=fun _=>rfl
   have hk:((t.kind:Int)=1)↔t.kind=1:=by omega
   by_cases h1:t.kind=1
   ·by_cases h2:t.text=s
    ·simp -implicitDefEqProofs [m65,hc,lZ,lL,putCells,kS,pH,hr,i0,tl,g0,g3,h1,h2]
    ·simp -implicitDefEqProofs [m65,hc,lZ,lL,putCells,kS,pH,hr,i0,tl,g0,g3,h1,h2]
   ·simp -implicitDefEqProofs [m65,hc,lZ,lL,putCells,kS,pH,hr,i0,tl,g0,g3,hk,h1]
  | t::u::v::r =>
   have:¬((r.length:Int)+1+1+1=2):=by omega
   simp -implicitDefEqProofs [m65,hc,lZ,lL,putCells,kS,pH,hr,this]
 ·have he':¬((e:Int)=0):=by omega
  have hf:pH s=false:=by
   unfold pH
   rw [hr]
   split
   ·rename_i h; simp only [Prod.mk.injEq] at h; omega
   ·rfl
  rw [hf]
  simp -implicitDefEqProofs [m65,hc,lZ,lL,putCells,kS,he]
theorem c79 (s:List UInt8) (b:Bool) (h:kT):KK 79 [.str s,.bool b] h=some (.ret (.bool (lM s b)),h):=by
 refine lK rfl rfl (lJ (atM _ _ _ _) ?_)
 cases b
 ·simp -implicitDefEqProofs [m79,lM,kS]
  by_cases hs:s=[] <;> simp [hs]
 ·simp -implicitDefEqProofs [m79,lM,kS,c65]
theorem c80 (n:Int) (b:Bool) (h:kT):KK 80 [.int .i64 n,.bool b] h=some (.ret (.bool (lF n b)),h):=by
 refine lK rfl rfl (lJ (atN _ _ _ _) ?_)
 by_cases h0:n=0
 ·subst h0; cases b <;> simp -implicitDefEqProofs [m80,lF,vB,kS]
 ·cases b
  ·simp -implicitDefEqProofs [m80,lF,kS,h0]
  ·by_cases h1:0 < n
   ·by_cases h2:n≤4294967295
    ·have h3:0≤n:=by omega
     simp -implicitDefEqProofs [m80,lF,vB,kS,h0,h1,h2,h3]
    ·simp -implicitDefEqProofs [m80,lF,vB,kS,h0,h1,h2]
   ·have h3:¬0≤n:=by omega
    simp -implicitDefEqProofs [m80,lF,vB,kS,h0,h1,h3]
theorem c78 (k:Int) (h:kT):KK 78 [.int .i64 k] h=some (.ret (.tuple [.int .i64 ((uB k).getD 0),.bool (uB k).isSome]),h):=by
 refine lK rfl rfl (lJ (atL _ _ _) ?_)
 by_cases hk:1≤k∧k≤26
 ·rcases zZ hk with rfl | rfl | rfl | rfl | rfl | rfl | rfl | rfl | rfl | rfl | rfl | rfl | rfl | rfl | rfl | rfl | rfl | rfl | rfl | rfl | rfl | rfl | rfl | rfl | rfl | rfl <;>
   simp -implicitDefEqProofs [m78,kS,uB]
 ·have h0:uB k=none:=by unfold uB; rw [if_pos (by omega)]
  rw [h0]
  have n1:¬k=1:=by omega
  have n2:¬k=2:=by omega
  have n3:¬k=3:=by omega
  have n4:¬k=4:=by omega
  have n5:¬k=25:=by omega
  have n6:¬k=26:=by omega
  by_cases hl:k < 1
  ·have l1:¬5≤k:=by omega
   have l2:¬14≤k:=by omega
   have l3:¬8≤k:=by omega
   have l4:¬17≤k:=by omega
   simp -implicitDefEqProofs [m78,kS,n1,n2,n3,n4,n5,n6,l1,l2,l3,l4]
  ·have l1:5≤k:=by omega
   have l2:14≤k:=by omega
   have l3:8≤k:=by omega
   have l4:17≤k:=by omega
   have l5:¬k≤7:=by omega
   have l6:¬k≤16:=by omega
   have l7:¬k≤13:=by omega
   have l8:¬k≤24:=by omega
   simp -implicitDefEqProofs [m78,kS,n1,n2,n3,n4,n5,n6,l1,l2,l3,l4,l5,l6,l7,l8]
theorem GE.shut (x:GE):([kP.agg x.cells].all (kP.oZ 0))=true:=by cases x; simp [GE.cells,kP.oZ,kP.rL,sV]
theorem l9 {x:GE}{h:kT}:lZ 5 h (.agg x.cells)=some (.ptr h.length 0,h++[.cells x.cells]):=by
 simp [lZ,x.tok,x.Rq]
def Tf (x:GE):Prop:=∀h,KK 36 [.agg x.cells] h=some (.ret (.bool (mY x)),h)
theorem Ac {α:Type}{F:List kP×kT→Option R}(l:List α) (p:α→Bool) (enc:Nat→List kP×kT) (bad:Nat→R) (fin:R)
  (hok:∀i x,l[i]?=some x→p x=true→F (enc i)=some (.normal,enc (i+1))) (hbad:∀i x,l[i]?=some x→p x=false→F (enc i)=some (bad i)) (hb:∀i,(bad i).1≠.normal)
  (hend:F (enc l.length)=some fin) (hf:fin.1≠.normal):(l.all p=true→mQ F (enc 0)=some fin)∧(l.all p=false→∃i,mQ F (enc 0)=some (bad i)):=by
 have stop:∀(s:List kP×kT) (r:R),F s=some r→r.1≠.normal→mQ F s=some r:=by
  intro s r h1 h2
  rw [nA,h1]
  obtain⟨e,v⟩:=r
  cases e <;> first | exact absurd rfl h2 | rfl
 have key:∀n i,l.length - i=n→i≤l.length→((l.drop i).all p=true→mQ F (enc i)=some fin)∧((l.drop i).all p=false→∃j,mQ F (enc i)=some (bad j)):=by
  intro n
  induction n with
  | zero =>
   intro i h1 h2
   have:i=l.length:=by omega
   subst this
   refine⟨fun _=>stop _ _ hend hf,fun h=>by simp at h⟩
  | succ n ih =>
   intro i h1 h2
   have hi:i < l.length:=by omega
   have hg:=ac1 hi
   have hd:l.drop i=l[i]::l.drop (i+1):=List.drop_eq_getElem_cons hi
   obtain⟨a,b⟩:=ih (i+1) (by omega) (by omega)
   rw [hd]
   simp only [List.all_cons,am2,Bool.and_eq_false_iff]
   cases hp:p l[i] with
   | true =>
    have e:=hok i _ hg hp
    have e2:mQ F (enc i)=mQ F (enc (i+1)):=by rw [nA,e]; rfl
    rw [e2]
    exact⟨fun h=>a h.2,fun h=>b (h.resolve_left (by simp))⟩
   | false =>
    refine⟨fun h=>by simp at h,fun _=>⟨i,stop _ _ (hbad i _ hg hp) (hb i)⟩⟩
 have:=key l.length 0 (by omega) (ak5 _)
 simpa using this
theorem Zy {h:kT}:lZ 5 h (.agg [.int .i64 0,.int .i64 0,.int .i64 0,.str [],.slice [] .nil]) =
  some (.ptr h.length 0,h++[.cells [.int .i64 0,.int .i64 0,.int .i64 0,.str [],.slice [] (.own (h.length+1))],.front 0 0]):=by
 simp [lZ,lL]
theorem Vq {x:GE}{h:kT}{os:List kP}:p9 h os x.cells=x.cells:=rC (by cases x; simp [GE.cells,kP.isNil])
theorem RI {l:List GE}{i:Nat}{x:GE}(h:l[i]?=some x):∀hh:i < l.length,l[i]'hh=x:=fun hh=>by rw [ac1 hh] at h; exact Option.some.inj h
theorem aAE {x:GE}{cs:List kP}(h:cs.length=5):putCells cs 0 x.cells=x.cells:=by simp [putCells,h]
theorem aaI {x:GE}:(∀c,c∈x.cells→c.mH=true)=True:=eq_true (by have:=x.Rq; rwa [ag3] at this)
theorem acM (l:List GE) (hok:∀x∈l,Tf x) (hl:l.length≤4611686018427387904) :
  (l.all mY=true→mQ (Gb KK 0) ([.bool false,.slice (l.map GE.cells) .no,.int .i64 (l.length:Int),.int .i64 0],[]) =
   some (.exit 0,[.bool false,.slice (l.map GE.cells) .no,.int .i64 (l.length:Int),.int .i64 (l.length:Int)],[])) ∧
  (l.all mY=false→∃i:Nat,mQ (Gb KK 0) ([.bool false,.slice (l.map GE.cells) .no,.int .i64 (l.length:Int),.int .i64 0],[]) =
   some (.ret,[.bool false,.slice (l.map GE.cells) .no,.int .i64 (l.length:Int),.int .i64 (i:Int)],[])):=by
 have main:=Ac (F:=Gb KK 0) l mY (fun i=>([.bool false,.slice (l.map GE.cells) .no,.int .i64 (l.length:Int),.int .i64 (i:Int)],[]))
  (fun i=>(.ret,[.bool false,.slice (l.map GE.cells) .no,.int .i64 (l.length:Int),.int .i64 (i:Int)],[])) (.exit 0,[.bool false,.slice (l.map GE.cells) .no,.int .i64 (l.length:Int),.int .i64 (l.length:Int)],[]) ?_ ?_ (fun _=>by simp) ?_ (by simp)
 ·exact main
 ·intro i x hx hw
  have h:i < l.length:=(ab2.1 hx).1
  have w1:=rY (a:=i) (by omega)
  have hc:=hok x (am4 hx)
  unfold Tf at hc
  simp -implicitDefEqProofs [Gb,h,RI hx,Zy,Vq,aAE,aaI,hc,hw,w1,nV,-ag9]
 ·intro i x hx hw
  have h:i < l.length:=(ab2.1 hx).1
  have hc:=hok x (am4 hx)
  unfold Tf at hc
  simp -implicitDefEqProofs [Gb,h,RI hx,Zy,Vq,aAE,aaI,hc,hw,nV]
 ·simp -implicitDefEqProofs [Gb,nV]
theorem c81 (l:List GE) (hok:∀x∈l,Tf x) (hl:l.length≤4611686018427387904) (h:kT):KK 81 [.slice (l.map GE.cells) .no] h=some (.ret (.bool (mZ l)),h):=by
 refine lK rfl (by simp [kP.oZ,kP.rL,sV]) (lJ (atO _ _ _) ?_)
 obtain⟨h1,h2⟩:=acM l hok hl
 rw [wL]
 cases hw:l.all mY with
 | true=>simp -implicitDefEqProofs [m81,h1 hw,kS]
 | false =>
  obtain⟨i,hi⟩:=h2 hw
  simp -implicitDefEqProofs [m81,hi,kS]
set_option maxHeartbeats 4000000 in
theorem ZQ (x:GE) (hok:∀a∈x.args,Tf a) (hl:x.args.length≤4611686018427387904):Tf x:=by
 intro h
 refine lK rfl x.shut (lJ (asT _ _ _) ?_)
 have e1:=c78 x.kind
 have e2:=c79 x.name
 have e3:=c80 x.num
 have e4:=c81 x.args hok hl
 have hw:mY x=(rK x.kind x.num x.name x.args.length && mZ x.args):=by cases x; rfl
 rw [hw]
 unfold rK
 cases ha:uB x.kind with
 | none =>
  rw [ha] at e1
  simp -implicitDefEqProofs [Ci,l9,e1,kS]
 | some m =>
  rw [ha] at e1
  have hk:1≤x.kind∧x.kind≤26:=by
   unfold uB at ha
   split at ha
   ·cases ha
   ·omega
  have hm:m=-1∧x.kind=4∨0≤m∧¬x.kind=4:=by
   clear e1 e2 e3 e4 hw
   generalize x.kind=k at ha hk
   rcases zZ hk with rfl | rfl | rfl | rfl | rfl | rfl | rfl | rfl | rfl | rfl | rfl | rfl | rfl | rfl | rfl | rfl | rfl | rfl | rfl | rfl | rfl | rfl | rfl | rfl | rfl | rfl <;>
    simp [uB] at ha <;> omega
  simp only [Option.getD_some,Option.isSome_some] at e1
  show _=some (n_.ret (kP.bool (((m == -1 || m == (x.args.length:Int)) && lM x.name (x.kind == 2 || x.kind == 3 || x.kind == 4) && lF x.num (x.kind == 1 || x.kind == 14 || x.kind == 15 || x.kind == 16)) && mZ x.args)),[])
  by_cases har:(m == -1 || m == (x.args.length:Int))=true
  ·rw [har,Bool.true_and]
   have hc:¬0≤m∨(0≤m∧((x.args.length:Int)=m)):=by
    simp only [Bool.or_eq_true,beq_iff_eq] at har
    omega
   have cls:x.kind=1∨x.kind=2∨x.kind=3∨x.kind=4∨(14≤x.kind∧x.kind≤16)∨(5≤x.kind∧x.kind < 14)∨(17≤x.kind):=by omega
   rcases cls with h' | h' | h' | h' | h' | h' | h'
   ·rw [h'] at e1
    have f1:(x.kind == 2 || x.kind == 3 || x.kind == 4)=false:=by simp [h']
    have f2:(x.kind == 1 || x.kind == 14 || x.kind == 15 || x.kind == 16)=true:=by simp [h']
    rw [f1,f2]
    cases hN:lM x.name false
    ·rcases hc with hc | ⟨hc,hc'⟩
     ·simp -implicitDefEqProofs [Ci,l9,e1,e2,e3,e4,hc,hN,h',kS]
     ·simp -implicitDefEqProofs [Ci,l9,e1,e2,e3,e4,hc,hc',hN,h',kS]
    ·cases hU:lF x.num true
     ·rcases hc with hc | ⟨hc,hc'⟩
      ·simp -implicitDefEqProofs [Ci,l9,e1,e2,e3,e4,hc,hN,hU,h',kS]
      ·simp -implicitDefEqProofs [Ci,l9,e1,e2,e3,e4,hc,hc',hN,hU,h',kS]
     ·rcases hc with hc | ⟨hc,hc'⟩
      ·simp -implicitDefEqProofs [Ci,l9,e1,e2,e3,e4,hc,hN,hU,h',kS]
      ·simp -implicitDefEqProofs [Ci,l9,e1,e2,e3,e4,hc,hc',hN,hU,h',kS]
   ·rw [h'] at e1
    have f1:(x.kind == 2 || x.kind == 3 || x.kind == 4)=true:=by simp [h']
    have f2:(x.kind == 1 || x.kind == 14 || x.kind == 15 || x.kind == 16)=false:=by simp [h']
    rw [f1,f2]
    cases hN:lM x.name true
    ·rcases hc with hc | ⟨hc,hc'⟩
     ·simp -implicitDefEqProofs [Ci,l9,e1,e2,e3,e4,hc,hN,h',kS]
     ·simp -implicitDefEqProofs [Ci,l9,e1,e2,e3,e4,hc,hc',hN,h',kS]
    ·cases hU:lF x.num false
     ·rcases hc with hc | ⟨hc,hc'⟩
      ·simp -implicitDefEqProofs [Ci,l9,e1,e2,e3,e4,hc,hN,hU,h',kS]
      ·simp -implicitDefEqProofs [Ci,l9,e1,e2,e3,e4,hc,hc',hN,hU,h',kS]
     ·rcases hc with hc | ⟨hc,hc'⟩
      ·simp -implicitDefEqProofs [Ci,l9,e1,e2,e3,e4,hc,hN,hU,h',kS]
      ·simp -implicitDefEqProofs [Ci,l9,e1,e2,e3,e4,hc,hc',hN,hU,h',kS]
   ·rw [h'] at e1
    have f1:(x.kind == 2 || x.kind == 3 || x.kind == 4)=true:=by simp [h']
    have f2:(x.kind == 1 || x.kind == 14 || x.kind == 15 || x.kind == 16)=false:=by simp [h']
    rw [f1,f2]
    cases hN:lM x.name true
    ·rcases hc with hc | ⟨hc,hc'⟩
     ·simp -implicitDefEqProofs [Ci,l9,e1,e2,e3,e4,hc,hN,h',kS]
     ·simp -implicitDefEqProofs [Ci,l9,e1,e2,e3,e4,hc,hc',hN,h',kS]
    ·cases hU:lF x.num false
     ·rcases hc with hc | ⟨hc,hc'⟩
      ·simp -implicitDefEqProofs [Ci,l9,e1,e2,e3,e4,hc,hN,hU,h',kS]
      ·simp -implicitDefEqProofs [Ci,l9,e1,e2,e3,e4,hc,hc',hN,hU,h',kS]
     ·rcases hc with hc | ⟨hc,hc'⟩
      ·simp -implicitDefEqProofs [Ci,l9,e1,e2,e3,e4,hc,hN,hU,h',kS]
      ·simp -implicitDefEqProofs [Ci,l9,e1,e2,e3,e4,hc,hc',hN,hU,h',kS]
   ·rw [h'] at e1
    have f1:(x.kind == 2 || x.kind == 3 || x.kind == 4)=true:=by simp [h']
    have f2:(x.kind == 1 || x.kind == 14 || x.kind == 15 || x.kind == 16)=false:=by simp [h']
    rw [f1,f2]
    cases hN:lM x.name true
    ·rcases hc with hc | ⟨hc,hc'⟩
     ·simp -implicitDefEqProofs [Ci,l9,e1,e2,e3,e4,hc,hN,h',kS]
     ·simp -implicitDefEqProofs [Ci,l9,e1,e2,e3,e4,hc,hc',hN,h',kS]
    ·cases hU:lF x.num false
     ·rcases hc with hc | ⟨hc,hc'⟩
      ·simp -implicitDefEqProofs [Ci,l9,e1,e2,e3,e4,hc,hN,hU,h',kS]
      ·simp -implicitDefEqProofs [Ci,l9,e1,e2,e3,e4,hc,hc',hN,hU,h',kS]
     ·rcases hc with hc | ⟨hc,hc'⟩
      ·simp -implicitDefEqProofs [Ci,l9,e1,e2,e3,e4,hc,hN,hU,h',kS]
      ·simp -implicitDefEqProofs [Ci,l9,e1,e2,e3,e4,hc,hc',hN,hU,h',kS]
   ·have n1:¬x.kind=1:=by omega
    have n2:¬x.kind=2:=by omega
    have n3:¬x.kind=3:=by omega
    have n4:¬x.kind=4:=by omega
    obtain⟨g1,g2⟩:=h'
    have n5:x.kind=14∨x.kind=15∨x.kind=16:=by omega
    have f1:(x.kind == 2 || x.kind == 3 || x.kind == 4)=false:=by simp; omega
    have f2:(x.kind == 1 || x.kind == 14 || x.kind == 15 || x.kind == 16)=true:=by simp; omega
    rw [f1,f2]
    cases hN:lM x.name false
    ·rcases hc with hc | ⟨hc,hc'⟩
     ·simp -implicitDefEqProofs [Ci,l9,e1,e2,e3,e4,hc,hN,n1,n2,n3,n4,g1,g2,kS]
     ·simp -implicitDefEqProofs [Ci,l9,e1,e2,e3,e4,hc,hc',hN,n1,n2,n3,n4,g1,g2,kS]
    ·cases hU:lF x.num true
     ·rcases hc with hc | ⟨hc,hc'⟩
      ·simp -implicitDefEqProofs [Ci,l9,e1,e2,e3,e4,hc,hN,hU,n1,n2,n3,n4,g1,g2,kS]
      ·simp -implicitDefEqProofs [Ci,l9,e1,e2,e3,e4,hc,hc',hN,hU,n1,n2,n3,n4,g1,g2,kS]
     ·rcases hc with hc | ⟨hc,hc'⟩
      ·simp -implicitDefEqProofs [Ci,l9,e1,e2,e3,e4,hc,hN,hU,n1,n2,n3,n4,g1,g2,kS]
      ·simp -implicitDefEqProofs [Ci,l9,e1,e2,e3,e4,hc,hc',hN,hU,n1,n2,n3,n4,g1,g2,kS]
   ·have n1:¬x.kind=1:=by omega
    have n2:¬x.kind=2:=by omega
    have n3:¬x.kind=3:=by omega
    have n4:¬x.kind=4:=by omega
    have g1:¬14≤x.kind:=by omega
    have f1:(x.kind == 2 || x.kind == 3 || x.kind == 4)=false:=by simp; omega
    have f2:(x.kind == 1 || x.kind == 14 || x.kind == 15 || x.kind == 16)=false:=by simp; omega
    rw [f1,f2]
    cases hN:lM x.name false
    ·rcases hc with hc | ⟨hc,hc'⟩
     ·simp -implicitDefEqProofs [Ci,l9,e1,e2,e3,e4,hc,hN,n1,n2,n3,n4,g1,kS]
     ·simp -implicitDefEqProofs [Ci,l9,e1,e2,e3,e4,hc,hc',hN,n1,n2,n3,n4,g1,kS]
    ·cases hU:lF x.num false
     ·rcases hc with hc | ⟨hc,hc'⟩
      ·simp -implicitDefEqProofs [Ci,l9,e1,e2,e3,e4,hc,hN,hU,n1,n2,n3,n4,g1,kS]
      ·simp -implicitDefEqProofs [Ci,l9,e1,e2,e3,e4,hc,hc',hN,hU,n1,n2,n3,n4,g1,kS]
     ·rcases hc with hc | ⟨hc,hc'⟩
      ·simp -implicitDefEqProofs [Ci,l9,e1,e2,e3,e4,hc,hN,hU,n1,n2,n3,n4,g1,kS]
      ·simp -implicitDefEqProofs [Ci,l9,e1,e2,e3,e4,hc,hc',hN,hU,n1,n2,n3,n4,g1,kS]
   ·have n1:¬x.kind=1:=by omega
    have n2:¬x.kind=2:=by omega
    have n3:¬x.kind=3:=by omega
    have n4:¬x.kind=4:=by omega
    have g1:14≤x.kind:=by omega
    have g2:¬x.kind≤16:=by omega
    have f1:(x.kind == 2 || x.kind == 3 || x.kind == 4)=false:=by simp; omega
    have f2:(x.kind == 1 || x.kind == 14 || x.kind == 15 || x.kind == 16)=false:=by simp; omega
    rw [f1,f2]
    cases hN:lM x.name false
    ·rcases hc with hc | ⟨hc,hc'⟩
     ·simp -implicitDefEqProofs [Ci,l9,e1,e2,e3,e4,hc,hN,n1,n2,n3,n4,g1,g2,kS]
     ·simp -implicitDefEqProofs [Ci,l9,e1,e2,e3,e4,hc,hc',hN,n1,n2,n3,n4,g1,g2,kS]
    ·cases hU:lF x.num false
     ·rcases hc with hc | ⟨hc,hc'⟩
      ·simp -implicitDefEqProofs [Ci,l9,e1,e2,e3,e4,hc,hN,hU,n1,n2,n3,n4,g1,g2,kS]
      ·simp -implicitDefEqProofs [Ci,l9,e1,e2,e3,e4,hc,hc',hN,hU,n1,n2,n3,n4,g1,g2,kS]
     ·rcases hc with hc | ⟨hc,hc'⟩
      ·simp -implicitDefEqProofs [Ci,l9,e1,e2,e3,e4,hc,hN,hU,n1,n2,n3,n4,g1,g2,kS]
      ·simp -implicitDefEqProofs [Ci,l9,e1,e2,e3,e4,hc,hc',hN,hU,n1,n2,n3,n4,g1,g2,kS]
  ·have hf:(m == -1 || m == (x.args.length:Int))=false:=by simpa using har
   rw [hf]
   simp only [Bool.or_eq_false_iff,beq_eq_false_iff_ne] at hf
   have h0:0≤m:=by omega
   have h1:¬(x.args.length:Int)=m:=fun e=>hf.2 e.symm
   simp -implicitDefEqProofs [Ci,l9,e1,kS,h0,h1]
end
section
open Go Hk
theorem c36:∀(n:Nat) (x:GE),x.size≤n→n≤4611686018427387904→Tf x:=by
 intro n
 induction n with
 | zero=>intro x hn; cases x; simp [GE.size] at hn
 | succ n ih =>
  intro x hn hb
  have key:∀l:List GE,l.length≤GE.pD l:=by
   intro l
   induction l with
   | nil=>simp
   | cons y r ih=>cases y; simp only [GE.pD,GE.size,am1]; omega
  refine ZQ x (fun a ha=>?_) ?_
  ·cases x
   simp only [GE.size,GE.args] at hn ha
   have:=GE.qQ ha
   exact ih a (by omega) (by omega)
  ·cases x
   simp only [GE.size,GE.args] at hn ⊢
   have:=key (by assumption:List GE)
   omega
theorem IN (l:List GE):l.length≤GE.pD l:=by
 induction l with
 | nil=>simp
 | cons y r ih=>cases y; simp only [GE.pD,GE.size,am1]; omega
theorem Rk (l:List GE) (hs:GE.pD l≤4611686018427387904) (h:kT):KK 81 [.slice (l.map GE.cells) .no] h=some (.ret (.bool (mZ l)),h) :=
 c81 l (fun x hx=>c36 _ x (GE.qQ hx) hs) (by have:=IN l; omega) h
theorem tY {t:GT}{h:kT}:lZ 3 h (.agg t.cells)=some (.ptr h.length 0,h++[.cells t.cells]):=by
 simp [lZ,GT.cells,lL]
theorem GT.shut (t:GT):([kP.agg t.cells].all (kP.oZ 0))=true:=by simp [GT.cells,kP.oZ,kP.rL,sV]
theorem ZR (t:GT) (h:kT):KK 67 [.agg t.cells] h=some (.ret (.bool (rV t)),h):=by
 refine lK rfl t.shut (lJ (as9 _ _ _) ?_)
 have e1:=c80 t.len true
 have g0:∀h:0 < t.cells.length,t.cells[0]'h=.int .i64 t.elem:=fun _=>rfl
 have g1:∀h:1 < t.cells.length,t.cells[1]'h=.int .i64 t.len:=fun _=>rfl
 have g2:∀h:2 < t.cells.length,t.cells[2]'h=.int .i64 t.label:=fun _=>rfl
 have gl:t.cells.length=3:=rfl
 have hn:lF t.len true=vB t.len:=rfl
 rw [hn] at e1
 have hl:t.label=0∨t.label=1∨(¬t.label=0∧¬t.label=1):=by omega
 unfold rV
 rcases hl with h1 | h1 | ⟨h1,h2⟩
 ·cases hN:vB t.len
  ·simp -implicitDefEqProofs [YT,tY,e1,g0,g1,g2,gl,h1,hN,kS]
  ·have hp:=(vP.1 hN).1
   by_cases e1':t.elem=1
   ·simp -implicitDefEqProofs [YT,tY,e1,g0,g1,g2,gl,h1,hN,e1',kS]
    by_cases h0:t.len=0 <;> simp [h0]
   ·by_cases e0:t.elem=0
    ·simp -implicitDefEqProofs [YT,tY,e1,g0,g1,g2,gl,h1,hN,e0,kS]
    ·by_cases e2:t.elem=2
     ·have:(0 < t.len)↔¬t.len=0:=by omega
      simp -implicitDefEqProofs [YT,tY,e1,g0,g1,g2,gl,h1,hN,e2,this,kS]
      by_cases h0:t.len=0 <;> simp [h0]
     ·simp -implicitDefEqProofs [YT,tY,e1,g0,g1,g2,gl,h1,hN,e0,e1',e2,kS]
 ·cases hN:vB t.len
  ·simp -implicitDefEqProofs [YT,tY,e1,g0,g1,g2,gl,h1,hN,kS]
  ·have hp:=(vP.1 hN).1
   by_cases e1':t.elem=1
   ·simp -implicitDefEqProofs [YT,tY,e1,g0,g1,g2,gl,h1,hN,e1',kS]
    by_cases h0:t.len=0 <;> simp [h0]
   ·by_cases e0:t.elem=0
    ·simp -implicitDefEqProofs [YT,tY,e1,g0,g1,g2,gl,h1,hN,e0,kS]
    ·by_cases e2:t.elem=2
     ·have:(0 < t.len)↔¬t.len=0:=by omega
      simp -implicitDefEqProofs [YT,tY,e1,g0,g1,g2,gl,h1,hN,e2,this,kS]
      by_cases h0:t.len=0 <;> simp [h0]
     ·simp -implicitDefEqProofs [YT,tY,e1,g0,g1,g2,gl,h1,hN,e0,e1',e2,kS]
 ·simp -implicitDefEqProofs [YT,tY,g0,g1,g2,gl,h1,h2,kS]
def mL (n k:Bool) (a:Int) (m b o:Bool):kP:=.agg [.bool n,.bool k,.int .i64 a,.bool m,.bool b,.bool o]
theorem aqA (h:kT):KK 160 [.int .i64 1] h=some (.ret (.tuple [mL true false 1 false false false,.bool true]),h):=by
 refine lK rfl rfl (lJ (BD _ _ _) ?_)
 simp -implicitDefEqProofs [Nu,lZ,lL,l_,putCells,lA,mI,kS,mL,lN]
theorem aqB (h:kT):KK 160 [.int .i64 2] h=some (.ret (.tuple [mL true true 0 false false false,.bool true]),h):=by
 refine lK rfl rfl (lJ (BD _ _ _) ?_)
 simp -implicitDefEqProofs [Nu,lZ,lL,l_,putCells,lA,mI,kS,mL,lN]
theorem aqC (h:kT):KK 160 [.int .i64 3] h=some (.ret (.tuple [mL true false 1 false false false,.bool true]),h):=by
 refine lK rfl rfl (lJ (BD _ _ _) ?_)
 simp -implicitDefEqProofs [Nu,lZ,lL,l_,putCells,lA,mI,kS,mL,lN]
theorem aqD (h:kT):KK 160 [.int .i64 4] h=some (.ret (.tuple [mL true false 2 false false false,.bool true]),h):=by
 refine lK rfl rfl (lJ (BD _ _ _) ?_)
 simp -implicitDefEqProofs [Nu,lZ,lL,l_,putCells,lA,mI,kS,mL,lN]
theorem aqE (h:kT):KK 160 [.int .i64 5] h=some (.ret (.tuple [mL false false 1 false true true,.bool true]),h):=by
 refine lK rfl rfl (lJ (BD _ _ _) ?_)
 simp -implicitDefEqProofs [Nu,lZ,lL,l_,putCells,lA,mI,kS,mL,lN]
theorem aqF (h:kT):KK 160 [.int .i64 6] h=some (.ret (.tuple [mL true false 1 true true false,.bool true]),h):=by
 refine lK rfl rfl (lJ (BD _ _ _) ?_)
 simp -implicitDefEqProofs [Nu,lZ,lL,l_,putCells,lA,mI,kS,mL,lN]
theorem aqG (h:kT):KK 160 [.int .i64 7] h=some (.ret (.tuple [mL false false 1 false false false,.bool true]),h):=by
 refine lK rfl rfl (lJ (BD _ _ _) ?_)
 simp -implicitDefEqProofs [Nu,lZ,lL,l_,putCells,lA,mI,kS,mL,lN]
theorem aqH (h:kT):KK 160 [.int .i64 8] h=some (.ret (.tuple [mL false false 1 false false false,.bool true]),h):=by
 refine lK rfl rfl (lJ (BD _ _ _) ?_)
 simp -implicitDefEqProofs [Nu,lZ,lL,l_,putCells,lA,mI,kS,mL,lN]
theorem ap9 (k:Int) (hk:¬(1≤k∧k≤8)) (h:kT):KK 160 [.int .i64 k] h=some (.ret (.tuple [mL false false 0 false false false,.bool false]),h):=by
 refine lK rfl rfl (lJ (BD _ _ _) ?_)
 have n1:¬k=1:=by omega
 have n2:¬k=2:=by omega
 have n3:¬k=3:=by omega
 have n4:¬k=4:=by omega
 have n5:¬k=5:=by omega
 have n6:¬k=6:=by omega
 have n7:¬k=7:=by omega
 have n8:¬k=8:=by omega
 simp -implicitDefEqProofs [Nu,n1,n2,n3,n4,n5,n6,n7,n8,lZ,lL,l_,putCells,lA,mI,kS,mL,lN]
theorem lQ {x:GS}{h:kT}:lZ 11 h (.agg x.cells)=some (.ptr h.length 0,h++[.cells x.cells]):=by
 simp [lZ,x.tok,x.Rq]
theorem GS.shut (x:GS):([kP.agg x.cells].all (kP.oZ 0))=true:=by cases x; simp [GS.cells,kP.oZ,kP.rL,sV]
theorem mU {h:kT}:lZ 6 h (.agg [.bool false,.bool false,.int .i64 0,.bool false,.bool false,.bool false])=some (.ptr h.length 0,h++[.cells [.bool false,.bool false,.int .i64 0,.bool false,.bool false,.bool false]]):=by
 simp [lZ,lL]
theorem Ph {t:GT}:tX [.i,.i,.i] (.agg t.cells) (.agg [.int .i64 0,.int .i64 0,.int .i64 0])=some (decide (t=GT.zero)):=by
 obtain⟨a,b,c⟩:=t
 simp only [GT.cells,GT.zero,GT.mk.injEq]
 by_cases h1:a=0 <;> by_cases h2:b=0 <;> by_cases h3:c=0 <;> simp [tX,rX,Gx,beq_false_of_ne,h1,h2,h3]
def Gt (x:GS):Prop:=∀h,KK 123 [.agg x.cells] h=some (.ret (.bool (pQ x)),h)
def zS (l:List GS):Prop:=∀h,KK 66 [.slice (l.map GS.cells) .no] h=some (.ret (.bool (oI l)),h)
theorem sJ (x:GS):pQ x=(lW x.kind x.sE x.name x.ty x.args x.body.length x.els.length x.has && oI x.body && oI x.els):=by cases x; simp only [pQ]; rfl
theorem p7:l_ [.int .i64 0,.int .i64 0,.int .i64 0] [(0,1),(1,1),(2,1)] []=some (.agg [.int .i64 0,.int .i64 0,.int .i64 0]):=rfl
theorem mT (t:GT):(t == GT.zero)=decide (t=GT.zero):=by by_cases h:t=GT.zero <;> simp [h]
end
section
open Go Hk
set_option maxHeartbeats 40000000 in
set_option maxRecDepth 100000 in
theorem auT (x:GS) (hk:x.kind=1) (hs:GE.pD x.args≤4611686018427387904) (hb:zS x.body) (he:zS x.els):Gt x:=by
 intro h
 refine lK rfl x.shut (lJ (By _ _ _) ?_)
 have e0:=aqA
 have e1:=c79 x.name
 have e2:=c80 x.sE
 have e3:=Rk x.args hs
 have e4:=ZR x.ty
 have eb:=hb
 have ee:=he
 unfold zS at eb ee
 rw [sJ]
 cases hN:lM x.name true
 ·
  simp -implicitDefEqProofs [pZ,lQ,mU,e0,e1,e2,e3,e4,eb,ee,mL,hk,putCells,kS,lW,lO,mT,p7,hN]
 ·
  cases hU:lF x.sE false
  ·
   simp -implicitDefEqProofs [pZ,lQ,mU,e0,e1,e2,e3,e4,eb,ee,mL,hk,putCells,kS,lW,lO,mT,p7,hN,hU]
  ·
   by_cases hL:x.args.length=1
   ·
    have hL':(x.args.length:Int)=1:=by omega
    cases hE:mZ x.args
    ·
     simp -implicitDefEqProofs [pZ,lQ,mU,e0,e1,e2,e3,e4,eb,ee,mL,hk,putCells,kS,lW,lO,mT,p7,hN,hU,hL,hL',hE]
    ·
     have eq:=Ph (t:=x.ty)
     by_cases hT:x.ty=GT.zero
     ·
      rw [decide_eq_true hT,hT] at eq
      by_cases hB:x.body.length=0
      ·
       cases hH:x.has
       ·
        by_cases hZ:x.els.length=0
        ·
         cases hP:oI x.body
         ·
          simp -implicitDefEqProofs [pZ,lQ,mU,e0,e1,e2,e3,e4,eb,ee,mL,hk,putCells,kS,lW,lO,mT,p7,hN,hU,hL,hL',hE,eq,hT,hB,hH,hZ,hP]
         ·
          simp -implicitDefEqProofs [pZ,lQ,mU,e0,e1,e2,e3,e4,eb,ee,mL,hk,putCells,kS,lW,lO,mT,p7,hN,hU,hL,hL',hE,eq,hT,hB,hH,hZ,hP]
        ·
         have hZ':0 < x.els.length:=by omega
         simp -implicitDefEqProofs [pZ,lQ,mU,e0,e1,e2,e3,e4,eb,ee,mL,hk,putCells,kS,lW,lO,mT,p7,hN,hU,hL,hL',hE,eq,hT,hB,hH,hZ,hZ']
       ·
        simp -implicitDefEqProofs [pZ,lQ,mU,e0,e1,e2,e3,e4,eb,ee,mL,hk,putCells,kS,lW,lO,mT,p7,hN,hU,hL,hL',hE,eq,hT,hB,hH]
      ·
       have hB':0 < x.body.length:=by omega
       simp -implicitDefEqProofs [pZ,lQ,mU,e0,e1,e2,e3,e4,eb,ee,mL,hk,putCells,kS,lW,lO,mT,p7,hN,hU,hL,hL',hE,eq,hT,hB,hB']
     ·
      rw [decide_eq_false hT] at eq
      simp -implicitDefEqProofs [pZ,lQ,mU,e0,e1,e2,e3,e4,eb,ee,mL,hk,putCells,kS,lW,lO,mT,p7,hN,hU,hL,hL',hE,eq,hT]
   ·
    have hL':¬(x.args.length:Int)=1:=by omega
    simp -implicitDefEqProofs [pZ,lQ,mU,e0,e1,e2,e3,e4,eb,ee,mL,hk,putCells,kS,lW,lO,mT,p7,hN,hU,hL,hL']
set_option maxHeartbeats 40000000 in
set_option maxRecDepth 100000 in
theorem auU (x:GS) (hk:x.kind=2) (hs:GE.pD x.args≤4611686018427387904) (hb:zS x.body) (he:zS x.els):Gt x:=by
 intro h
 refine lK rfl x.shut (lJ (By _ _ _) ?_)
 have e0:=aqB
 have e1:=c79 x.name
 have e2:=c80 x.sE
 have e3:=Rk x.args hs
 have e4:=ZR x.ty
 have eb:=hb
 have ee:=he
 unfold zS at eb ee
 rw [sJ]
 cases hN:lM x.name true
 ·
  simp -implicitDefEqProofs [pZ,lQ,mU,e0,e1,e2,e3,e4,eb,ee,mL,hk,putCells,kS,lW,lO,mT,p7,hN]
 ·
  cases hU:lF x.sE false
  ·
   simp -implicitDefEqProofs [pZ,lQ,mU,e0,e1,e2,e3,e4,eb,ee,mL,hk,putCells,kS,lW,lO,mT,p7,hN,hU]
  ·
   by_cases hL:x.args.length=0
   ·
    have hL':(x.args.length:Int)=0:=by omega
    cases hE:mZ x.args
    ·
     simp -implicitDefEqProofs [pZ,lQ,mU,e0,e1,e2,e3,e4,eb,ee,mL,hk,putCells,kS,lW,lO,mT,p7,hN,hU,hL,hL',hE]
    ·
     cases hT:rV x.ty
     ·
      simp -implicitDefEqProofs [pZ,lQ,mU,e0,e1,e2,e3,e4,eb,ee,mL,hk,putCells,kS,lW,lO,mT,p7,hN,hU,hL,hL',hE,hT]
     ·
      by_cases hB:x.body.length=0
      ·
       cases hH:x.has
       ·
        by_cases hZ:x.els.length=0
        ·
         cases hP:oI x.body
         ·
          simp -implicitDefEqProofs [pZ,lQ,mU,e0,e1,e2,e3,e4,eb,ee,mL,hk,putCells,kS,lW,lO,mT,p7,hN,hU,hL,hL',hE,hT,hB,hH,hZ,hP]
         ·
          simp -implicitDefEqProofs [pZ,lQ,mU,e0,e1,e2,e3,e4,eb,ee,mL,hk,putCells,kS,lW,lO,mT,p7,hN,hU,hL,hL',hE,hT,hB,hH,hZ,hP]
        ·
         have hZ':0 < x.els.length:=by omega
         simp -implicitDefEqProofs [pZ,lQ,mU,e0,e1,e2,e3,e4,eb,ee,mL,hk,putCells,kS,lW,lO,mT,p7,hN,hU,hL,hL',hE,hT,hB,hH,hZ,hZ']
       ·
        simp -implicitDefEqProofs [pZ,lQ,mU,e0,e1,e2,e3,e4,eb,ee,mL,hk,putCells,kS,lW,lO,mT,p7,hN,hU,hL,hL',hE,hT,hB,hH]
      ·
       have hB':0 < x.body.length:=by omega
       simp -implicitDefEqProofs [pZ,lQ,mU,e0,e1,e2,e3,e4,eb,ee,mL,hk,putCells,kS,lW,lO,mT,p7,hN,hU,hL,hL',hE,hT,hB,hB']
   ·
    have hL':¬(x.args.length:Int)=0:=by omega
    simp -implicitDefEqProofs [pZ,lQ,mU,e0,e1,e2,e3,e4,eb,ee,mL,hk,putCells,kS,lW,lO,mT,p7,hN,hU,hL,hL']
end
section
open Go Hk
set_option maxHeartbeats 40000000 in
set_option maxRecDepth 100000 in
theorem auV (x:GS) (hk:x.kind=3) (hs:GE.pD x.args≤4611686018427387904) (hb:zS x.body) (he:zS x.els):Gt x:=by
 intro h
 refine lK rfl x.shut (lJ (By _ _ _) ?_)
 have e0:=aqC
 have e1:=c79 x.name
 have e2:=c80 x.sE
 have e3:=Rk x.args hs
 have e4:=ZR x.ty
 have eb:=hb
 have ee:=he
 unfold zS at eb ee
 rw [sJ]
 cases hN:lM x.name true
 ·
  simp -implicitDefEqProofs [pZ,lQ,mU,e0,e1,e2,e3,e4,eb,ee,mL,hk,putCells,kS,lW,lO,mT,p7,hN]
 ·
  cases hU:lF x.sE false
  ·
   simp -implicitDefEqProofs [pZ,lQ,mU,e0,e1,e2,e3,e4,eb,ee,mL,hk,putCells,kS,lW,lO,mT,p7,hN,hU]
  ·
   by_cases hL:x.args.length=1
   ·
    have hL':(x.args.length:Int)=1:=by omega
    cases hE:mZ x.args
    ·
     simp -implicitDefEqProofs [pZ,lQ,mU,e0,e1,e2,e3,e4,eb,ee,mL,hk,putCells,kS,lW,lO,mT,p7,hN,hU,hL,hL',hE]
    ·
     have eq:=Ph (t:=x.ty)
     by_cases hT:x.ty=GT.zero
     ·
      rw [decide_eq_true hT,hT] at eq
      by_cases hB:x.body.length=0
      ·
       cases hH:x.has
       ·
        by_cases hZ:x.els.length=0
        ·
         cases hP:oI x.body
         ·
          simp -implicitDefEqProofs [pZ,lQ,mU,e0,e1,e2,e3,e4,eb,ee,mL,hk,putCells,kS,lW,lO,mT,p7,hN,hU,hL,hL',hE,eq,hT,hB,hH,hZ,hP]
         ·
          simp -implicitDefEqProofs [pZ,lQ,mU,e0,e1,e2,e3,e4,eb,ee,mL,hk,putCells,kS,lW,lO,mT,p7,hN,hU,hL,hL',hE,eq,hT,hB,hH,hZ,hP]
        ·
         have hZ':0 < x.els.length:=by omega
         simp -implicitDefEqProofs [pZ,lQ,mU,e0,e1,e2,e3,e4,eb,ee,mL,hk,putCells,kS,lW,lO,mT,p7,hN,hU,hL,hL',hE,eq,hT,hB,hH,hZ,hZ']
       ·
        simp -implicitDefEqProofs [pZ,lQ,mU,e0,e1,e2,e3,e4,eb,ee,mL,hk,putCells,kS,lW,lO,mT,p7,hN,hU,hL,hL',hE,eq,hT,hB,hH]
      ·
       have hB':0 < x.body.length:=by omega
       simp -implicitDefEqProofs [pZ,lQ,mU,e0,e1,e2,e3,e4,eb,ee,mL,hk,putCells,kS,lW,lO,mT,p7,hN,hU,hL,hL',hE,eq,hT,hB,hB']
     ·
      rw [decide_eq_false hT] at eq
      simp -implicitDefEqProofs [pZ,lQ,mU,e0,e1,e2,e3,e4,eb,ee,mL,hk,putCells,kS,lW,lO,mT,p7,hN,hU,hL,hL',hE,eq,hT]
   ·
    have hL':¬(x.args.length:Int)=1:=by omega
    simp -implicitDefEqProofs [pZ,lQ,mU,e0,e1,e2,e3,e4,eb,ee,mL,hk,putCells,kS,lW,lO,mT,p7,hN,hU,hL,hL']
set_option maxHeartbeats 40000000 in
set_option maxRecDepth 100000 in
theorem auW (x:GS) (hk:x.kind=4) (hs:GE.pD x.args≤4611686018427387904) (hb:zS x.body) (he:zS x.els):Gt x:=by
 intro h
 refine lK rfl x.shut (lJ (By _ _ _) ?_)
 have e0:=aqD
 have e1:=c79 x.name
 have e2:=c80 x.sE
 have e3:=Rk x.args hs
 have e4:=ZR x.ty
 have eb:=hb
 have ee:=he
 unfold zS at eb ee
 rw [sJ]
 cases hN:lM x.name true
 ·
  simp -implicitDefEqProofs [pZ,lQ,mU,e0,e1,e2,e3,e4,eb,ee,mL,hk,putCells,kS,lW,lO,mT,p7,hN]
 ·
  cases hU:lF x.sE false
  ·
   simp -implicitDefEqProofs [pZ,lQ,mU,e0,e1,e2,e3,e4,eb,ee,mL,hk,putCells,kS,lW,lO,mT,p7,hN,hU]
  ·
   by_cases hL:x.args.length=2
   ·
    have hL':(x.args.length:Int)=2:=by omega
    cases hE:mZ x.args
    ·
     simp -implicitDefEqProofs [pZ,lQ,mU,e0,e1,e2,e3,e4,eb,ee,mL,hk,putCells,kS,lW,lO,mT,p7,hN,hU,hL,hL',hE]
    ·
     have eq:=Ph (t:=x.ty)
     by_cases hT:x.ty=GT.zero
     ·
      rw [decide_eq_true hT,hT] at eq
      by_cases hB:x.body.length=0
      ·
       cases hH:x.has
       ·
        by_cases hZ:x.els.length=0
        ·
         cases hP:oI x.body
         ·
          simp -implicitDefEqProofs [pZ,lQ,mU,e0,e1,e2,e3,e4,eb,ee,mL,hk,putCells,kS,lW,lO,mT,p7,hN,hU,hL,hL',hE,eq,hT,hB,hH,hZ,hP]
         ·
          simp -implicitDefEqProofs [pZ,lQ,mU,e0,e1,e2,e3,e4,eb,ee,mL,hk,putCells,kS,lW,lO,mT,p7,hN,hU,hL,hL',hE,eq,hT,hB,hH,hZ,hP]
        ·
         have hZ':0 < x.els.length:=by omega
         simp -implicitDefEqProofs [pZ,lQ,mU,e0,e1,e2,e3,e4,eb,ee,mL,hk,putCells,kS,lW,lO,mT,p7,hN,hU,hL,hL',hE,eq,hT,hB,hH,hZ,hZ']
       ·
        simp -implicitDefEqProofs [pZ,lQ,mU,e0,e1,e2,e3,e4,eb,ee,mL,hk,putCells,kS,lW,lO,mT,p7,hN,hU,hL,hL',hE,eq,hT,hB,hH]
      ·
       have hB':0 < x.body.length:=by omega
       simp -implicitDefEqProofs [pZ,lQ,mU,e0,e1,e2,e3,e4,eb,ee,mL,hk,putCells,kS,lW,lO,mT,p7,hN,hU,hL,hL',hE,eq,hT,hB,hB']
     ·
      rw [decide_eq_false hT] at eq
      simp -implicitDefEqProofs [pZ,lQ,mU,e0,e1,e2,e3,e4,eb,ee,mL,hk,putCells,kS,lW,lO,mT,p7,hN,hU,hL,hL',hE,eq,hT]
   ·
    have hL':¬(x.args.length:Int)=2:=by omega
    simp -implicitDefEqProofs [pZ,lQ,mU,e0,e1,e2,e3,e4,eb,ee,mL,hk,putCells,kS,lW,lO,mT,p7,hN,hU,hL,hL']
end
section
open Go Hk
set_option maxHeartbeats 40000000 in
set_option maxRecDepth 100000 in
theorem auX (x:GS) (hk:x.kind=5) (hs:GE.pD x.args≤4611686018427387904) (hb:zS x.body) (he:zS x.els):Gt x:=by
 intro h
 refine lK rfl x.shut (lJ (By _ _ _) ?_)
 have e0:=aqE
 have e1:=c79 x.name
 have e2:=c80 x.sE
 have e3:=Rk x.args hs
 have e4:=ZR x.ty
 have eb:=hb
 have ee:=he
 unfold zS at eb ee
 rw [sJ]
 cases hN:lM x.name false
 ·
  simp -implicitDefEqProofs [pZ,lQ,mU,e0,e1,e2,e3,e4,eb,ee,mL,hk,putCells,kS,lW,lO,mT,p7,hN]
 ·
  cases hU:lF x.sE false
  ·
   simp -implicitDefEqProofs [pZ,lQ,mU,e0,e1,e2,e3,e4,eb,ee,mL,hk,putCells,kS,lW,lO,mT,p7,hN,hU]
  ·
   by_cases hL:x.args.length=1
   ·
    have hL':(x.args.length:Int)=1:=by omega
    cases hE:mZ x.args
    ·
     simp -implicitDefEqProofs [pZ,lQ,mU,e0,e1,e2,e3,e4,eb,ee,mL,hk,putCells,kS,lW,lO,mT,p7,hN,hU,hL,hL',hE]
    ·
     have eq:=Ph (t:=x.ty)
     by_cases hT:x.ty=GT.zero
     ·
      rw [decide_eq_true hT,hT] at eq
      cases hH:x.has
      ·
       by_cases hZ:x.els.length=0
       ·
        cases hP:oI x.body
        ·
         simp -implicitDefEqProofs [pZ,lQ,mU,e0,e1,e2,e3,e4,eb,ee,mL,hk,putCells,kS,lW,lO,mT,p7,hN,hU,hL,hL',hE,eq,hT,hH,hZ,hP]
        ·
         simp -implicitDefEqProofs [pZ,lQ,mU,e0,e1,e2,e3,e4,eb,ee,mL,hk,putCells,kS,lW,lO,mT,p7,hN,hU,hL,hL',hE,eq,hT,hH,hZ,hP]
       ·
        have hZ':0 < x.els.length:=by omega
        simp -implicitDefEqProofs [pZ,lQ,mU,e0,e1,e2,e3,e4,eb,ee,mL,hk,putCells,kS,lW,lO,mT,p7,hN,hU,hL,hL',hE,eq,hT,hH,hZ,hZ']
      ·
       cases hP:oI x.body
       ·
        simp -implicitDefEqProofs [pZ,lQ,mU,e0,e1,e2,e3,e4,eb,ee,mL,hk,putCells,kS,lW,lO,mT,p7,hN,hU,hL,hL',hE,eq,hT,hH,hP]
       ·
        simp -implicitDefEqProofs [pZ,lQ,mU,e0,e1,e2,e3,e4,eb,ee,mL,hk,putCells,kS,lW,lO,mT,p7,hN,hU,hL,hL',hE,eq,hT,hH,hP]
     ·
      rw [decide_eq_false hT] at eq
      simp -implicitDefEqProofs [pZ,lQ,mU,e0,e1,e2,e3,e4,eb,ee,mL,hk,putCells,kS,lW,lO,mT,p7,hN,hU,hL,hL',hE,eq,hT]
   ·
    have hL':¬(x.args.length:Int)=1:=by omega
    simp -implicitDefEqProofs [pZ,lQ,mU,e0,e1,e2,e3,e4,eb,ee,mL,hk,putCells,kS,lW,lO,mT,p7,hN,hU,hL,hL']
set_option maxHeartbeats 40000000 in
set_option maxRecDepth 100000 in
theorem auY (x:GS) (hk:x.kind=6) (hs:GE.pD x.args≤4611686018427387904) (hb:zS x.body) (he:zS x.els):Gt x:=by
 intro h
 refine lK rfl x.shut (lJ (By _ _ _) ?_)
 have e0:=aqF
 have e1:=c79 x.name
 have e2:=c80 x.sE
 have e3:=Rk x.args hs
 have e4:=ZR x.ty
 have eb:=hb
 have ee:=he
 unfold zS at eb ee
 rw [sJ]
 cases hN:lM x.name true
 ·
  simp -implicitDefEqProofs [pZ,lQ,mU,e0,e1,e2,e3,e4,eb,ee,mL,hk,putCells,kS,lW,lO,mT,p7,hN]
 ·
  cases hU:lF x.sE true
  ·
   simp -implicitDefEqProofs [pZ,lQ,mU,e0,e1,e2,e3,e4,eb,ee,mL,hk,putCells,kS,lW,lO,mT,p7,hN,hU]
  ·
   by_cases hL:x.args.length=1
   ·
    have hL':(x.args.length:Int)=1:=by omega
    cases hE:mZ x.args
    ·
     simp -implicitDefEqProofs [pZ,lQ,mU,e0,e1,e2,e3,e4,eb,ee,mL,hk,putCells,kS,lW,lO,mT,p7,hN,hU,hL,hL',hE]
    ·
     have eq:=Ph (t:=x.ty)
     by_cases hT:x.ty=GT.zero
     ·
      rw [decide_eq_true hT,hT] at eq
      cases hH:x.has
      ·
       by_cases hZ:x.els.length=0
       ·
        cases hP:oI x.body
        ·
         simp -implicitDefEqProofs [pZ,lQ,mU,e0,e1,e2,e3,e4,eb,ee,mL,hk,putCells,kS,lW,lO,mT,p7,hN,hU,hL,hL',hE,eq,hT,hH,hZ,hP]
        ·
         simp -implicitDefEqProofs [pZ,lQ,mU,e0,e1,e2,e3,e4,eb,ee,mL,hk,putCells,kS,lW,lO,mT,p7,hN,hU,hL,hL',hE,eq,hT,hH,hZ,hP]
       ·
        have hZ':0 < x.els.length:=by omega
        simp -implicitDefEqProofs [pZ,lQ,mU,e0,e1,e2,e3,e4,eb,ee,mL,hk,putCells,kS,lW,lO,mT,p7,hN,hU,hL,hL',hE,eq,hT,hH,hZ,hZ']
      ·
       simp -implicitDefEqProofs [pZ,lQ,mU,e0,e1,e2,e3,e4,eb,ee,mL,hk,putCells,kS,lW,lO,mT,p7,hN,hU,hL,hL',hE,eq,hT,hH]
     ·
      rw [decide_eq_false hT] at eq
      simp -implicitDefEqProofs [pZ,lQ,mU,e0,e1,e2,e3,e4,eb,ee,mL,hk,putCells,kS,lW,lO,mT,p7,hN,hU,hL,hL',hE,eq,hT]
   ·
    have hL':¬(x.args.length:Int)=1:=by omega
    simp -implicitDefEqProofs [pZ,lQ,mU,e0,e1,e2,e3,e4,eb,ee,mL,hk,putCells,kS,lW,lO,mT,p7,hN,hU,hL,hL']
end
section
open Go Hk
set_option maxHeartbeats 40000000 in
set_option maxRecDepth 100000 in
theorem auZ (x:GS) (hk:x.kind=7) (hs:GE.pD x.args≤4611686018427387904) (hb:zS x.body) (he:zS x.els):Gt x:=by
 intro h
 refine lK rfl x.shut (lJ (By _ _ _) ?_)
 have e0:=aqG
 have e1:=c79 x.name
 have e2:=c80 x.sE
 have e3:=Rk x.args hs
 have e4:=ZR x.ty
 have eb:=hb
 have ee:=he
 unfold zS at eb ee
 rw [sJ]
 cases hN:lM x.name false
 ·
  simp -implicitDefEqProofs [pZ,lQ,mU,e0,e1,e2,e3,e4,eb,ee,mL,hk,putCells,kS,lW,lO,mT,p7,hN]
 ·
  cases hU:lF x.sE false
  ·
   simp -implicitDefEqProofs [pZ,lQ,mU,e0,e1,e2,e3,e4,eb,ee,mL,hk,putCells,kS,lW,lO,mT,p7,hN,hU]
  ·
   by_cases hL:x.args.length=1
   ·
    have hL':(x.args.length:Int)=1:=by omega
    cases hE:mZ x.args
    ·
     simp -implicitDefEqProofs [pZ,lQ,mU,e0,e1,e2,e3,e4,eb,ee,mL,hk,putCells,kS,lW,lO,mT,p7,hN,hU,hL,hL',hE]
    ·
     have eq:=Ph (t:=x.ty)
     by_cases hT:x.ty=GT.zero
     ·
      rw [decide_eq_true hT,hT] at eq
      obtain⟨a,ha⟩:=Ch hL
      have i0:=UW ha
      have hM:Rm x.args=(a.kind == 4):=by rw [ha]; rfl
      by_cases hA:a.kind=4
      ·
       by_cases hB:x.body.length=0
       ·
        cases hH:x.has
        ·
         by_cases hZ:x.els.length=0
         ·
          cases hP:oI x.body
          ·
           simp -implicitDefEqProofs [pZ,lQ,mU,e0,e1,e2,e3,e4,eb,ee,mL,hk,putCells,kS,lW,lO,mT,p7,hN,hU,hL,hL',hE,eq,hT,i0,hM,hA,hB,hH,hZ,hP]
          ·
           simp -implicitDefEqProofs [pZ,lQ,mU,e0,e1,e2,e3,e4,eb,ee,mL,hk,putCells,kS,lW,lO,mT,p7,hN,hU,hL,hL',hE,eq,hT,i0,hM,hA,hB,hH,hZ,hP]
         ·
          have hZ':0 < x.els.length:=by omega
          simp -implicitDefEqProofs [pZ,lQ,mU,e0,e1,e2,e3,e4,eb,ee,mL,hk,putCells,kS,lW,lO,mT,p7,hN,hU,hL,hL',hE,eq,hT,i0,hM,hA,hB,hH,hZ,hZ']
        ·
         simp -implicitDefEqProofs [pZ,lQ,mU,e0,e1,e2,e3,e4,eb,ee,mL,hk,putCells,kS,lW,lO,mT,p7,hN,hU,hL,hL',hE,eq,hT,i0,hM,hA,hB,hH]
       ·
        have hB':0 < x.body.length:=by omega
        simp -implicitDefEqProofs [pZ,lQ,mU,e0,e1,e2,e3,e4,eb,ee,mL,hk,putCells,kS,lW,lO,mT,p7,hN,hU,hL,hL',hE,eq,hT,i0,hM,hA,hB,hB']
      ·
       simp -implicitDefEqProofs [pZ,lQ,mU,e0,e1,e2,e3,e4,eb,ee,mL,hk,putCells,kS,lW,lO,mT,p7,hN,hU,hL,hL',hE,eq,hT,i0,hM,hA]
     ·
      rw [decide_eq_false hT] at eq
      simp -implicitDefEqProofs [pZ,lQ,mU,e0,e1,e2,e3,e4,eb,ee,mL,hk,putCells,kS,lW,lO,mT,p7,hN,hU,hL,hL',hE,eq,hT]
   ·
    have hL':¬(x.args.length:Int)=1:=by omega
    simp -implicitDefEqProofs [pZ,lQ,mU,e0,e1,e2,e3,e4,eb,ee,mL,hk,putCells,kS,lW,lO,mT,p7,hN,hU,hL,hL']
set_option maxHeartbeats 40000000 in
set_option maxRecDepth 100000 in
theorem au0 (x:GS) (hk:x.kind=8) (hs:GE.pD x.args≤4611686018427387904) (hb:zS x.body) (he:zS x.els):Gt x:=by
 intro h
 refine lK rfl x.shut (lJ (By _ _ _) ?_)
 have e0:=aqH
 have e1:=c79 x.name
 have e2:=c80 x.sE
 have e3:=Rk x.args hs
 have e4:=ZR x.ty
 have eb:=hb
 have ee:=he
 unfold zS at eb ee
 rw [sJ]
 cases hN:lM x.name false
 ·
  simp -implicitDefEqProofs [pZ,lQ,mU,e0,e1,e2,e3,e4,eb,ee,mL,hk,putCells,kS,lW,lO,mT,p7,hN]
 ·
  cases hU:lF x.sE false
  ·
   simp -implicitDefEqProofs [pZ,lQ,mU,e0,e1,e2,e3,e4,eb,ee,mL,hk,putCells,kS,lW,lO,mT,p7,hN,hU]
  ·
   by_cases hL:x.args.length=1
   ·
    have hL':(x.args.length:Int)=1:=by omega
    cases hE:mZ x.args
    ·
     simp -implicitDefEqProofs [pZ,lQ,mU,e0,e1,e2,e3,e4,eb,ee,mL,hk,putCells,kS,lW,lO,mT,p7,hN,hU,hL,hL',hE]
    ·
     have eq:=Ph (t:=x.ty)
     by_cases hT:x.ty=GT.zero
     ·
      rw [decide_eq_true hT,hT] at eq
      by_cases hB:x.body.length=0
      ·
       cases hH:x.has
       ·
        by_cases hZ:x.els.length=0
        ·
         cases hP:oI x.body
         ·
          simp -implicitDefEqProofs [pZ,lQ,mU,e0,e1,e2,e3,e4,eb,ee,mL,hk,putCells,kS,lW,lO,mT,p7,hN,hU,hL,hL',hE,eq,hT,hB,hH,hZ,hP]
         ·
          simp -implicitDefEqProofs [pZ,lQ,mU,e0,e1,e2,e3,e4,eb,ee,mL,hk,putCells,kS,lW,lO,mT,p7,hN,hU,hL,hL',hE,eq,hT,hB,hH,hZ,hP]
        ·
         have hZ':0 < x.els.length:=by omega
         simp -implicitDefEqProofs [pZ,lQ,mU,e0,e1,e2,e3,e4,eb,ee,mL,hk,putCells,kS,lW,lO,mT,p7,hN,hU,hL,hL',hE,eq,hT,hB,hH,hZ,hZ']
       ·
        simp -implicitDefEqProofs [pZ,lQ,mU,e0,e1,e2,e3,e4,eb,ee,mL,hk,putCells,kS,lW,lO,mT,p7,hN,hU,hL,hL',hE,eq,hT,hB,hH]
      ·
       have hB':0 < x.body.length:=by omega
       simp -implicitDefEqProofs [pZ,lQ,mU,e0,e1,e2,e3,e4,eb,ee,mL,hk,putCells,kS,lW,lO,mT,p7,hN,hU,hL,hL',hE,eq,hT,hB,hB']
     ·
      rw [decide_eq_false hT] at eq
      simp -implicitDefEqProofs [pZ,lQ,mU,e0,e1,e2,e3,e4,eb,ee,mL,hk,putCells,kS,lW,lO,mT,p7,hN,hU,hL,hL',hE,eq,hT]
   ·
    have hL':¬(x.args.length:Int)=1:=by omega
    simp -implicitDefEqProofs [pZ,lQ,mU,e0,e1,e2,e3,e4,eb,ee,mL,hk,putCells,kS,lW,lO,mT,p7,hN,hU,hL,hL']
end
section
open Go Hk
theorem U_ {h:kT}:lZ 11 h (.agg [.int .i64 0,.int .i64 0,.int .i64 0,.str [],.int .i64 0,.int .i64 0,.int .i64 0,.slice [] .nil,.slice [] .nil,.slice [] .nil,.bool false]) =
  some (.ptr h.length 0,h++[.cells [.int .i64 0,.int .i64 0,.int .i64 0,.str [],.int .i64 0,.int .i64 0,.int .i64 0,.slice [] (.own (h.length+1)),.slice [] (.own (h.length+2)),.slice [] (.own (h.length+3)),.bool false],.front 0 0,.front 0 0,.front 0 0]):=by
 simp [lZ,lL]
theorem Vt {x:GS}{h:kT}{os:List kP}:p9 h os x.cells=x.cells:=rC (by cases x; simp [GS.cells,kP.isNil])
theorem aaK {l:List GS}{i:Nat}{x:GS}(h:l[i]?=some x):∀hh:i < l.length,l[i]'hh=x:=fun hh=>by rw [ac1 hh] at h; exact Option.some.inj h
theorem aoB {x:GS}{cs:List kP}(h:cs.length=11):putCells cs 0 x.cells=x.cells:=by simp [putCells,h]
theorem aaN {x:GS}:(∀c,c∈x.cells→c.mH=true)=True:=eq_true (by have:=x.Rq; rwa [ag3] at this)
theorem acH (l:List GS) (hok:∀x∈l,Gt x) (hl:l.length≤4611686018427387904) :
  (l.all pQ=true→mQ (F_ KK 0) ([.bool false,.slice (l.map GS.cells) .no,.int .i64 (l.length:Int),.int .i64 0],[]) =
   some (.exit 0,[.bool false,.slice (l.map GS.cells) .no,.int .i64 (l.length:Int),.int .i64 (l.length:Int)],[])) ∧
  (l.all pQ=false→∃i:Nat,mQ (F_ KK 0) ([.bool false,.slice (l.map GS.cells) .no,.int .i64 (l.length:Int),.int .i64 0],[]) =
   some (.ret,[.bool false,.slice (l.map GS.cells) .no,.int .i64 (l.length:Int),.int .i64 (i:Int)],[])):=by
 have main:=Ac (F:=F_ KK 0) l pQ (fun i=>([.bool false,.slice (l.map GS.cells) .no,.int .i64 (l.length:Int),.int .i64 (i:Int)],[]))
  (fun i=>(.ret,[.bool false,.slice (l.map GS.cells) .no,.int .i64 (l.length:Int),.int .i64 (i:Int)],[])) (.exit 0,[.bool false,.slice (l.map GS.cells) .no,.int .i64 (l.length:Int),.int .i64 (l.length:Int)],[]) ?_ ?_ (fun _=>by simp) ?_ (by simp)
 ·exact main
 ·intro i x hx hw
  have h:i < l.length:=(ab2.1 hx).1
  have w1:=rY (a:=i) (by omega)
  have hc:=hok x (am4 hx)
  unfold Gt at hc
  simp -implicitDefEqProofs [F_,h,aaK hx,U_,Vt,aoB,aaN,hc,hw,w1,nV,-ag9]
 ·intro i x hx hw
  have h:i < l.length:=(ab2.1 hx).1
  have hc:=hok x (am4 hx)
  unfold Gt at hc
  simp -implicitDefEqProofs [F_,h,aaK hx,U_,Vt,aoB,aaN,hc,hw,nV]
 ·simp -implicitDefEqProofs [F_,nV]
theorem c66 (l:List GS) (hok:∀x∈l,Gt x) (hl:l.length≤4611686018427387904):zS l:=by
 intro h
 refine lK rfl (by simp [kP.oZ,kP.rL,sV]) (lJ (as8 _ _ _) ?_)
 obtain⟨h1,h2⟩:=acH l hok hl
 rw [xK]
 cases hw:l.all pQ with
 | true=>simp -implicitDefEqProofs [m66,h1 hw,kS]
 | false =>
  obtain⟨i,hi⟩:=h2 hw
  simp -implicitDefEqProofs [m66,hi,kS]
theorem AL (l:List GS):l.length≤GS.pD l:=by
 induction l with
 | nil=>simp
 | cons y r ih=>cases y; simp only [GS.pD,GS.size,am1]; omega
theorem GS.size_eq (x:GS):x.size=1+GE.pD x.args+GS.pD x.body+GS.pD x.els:=by cases x; simp only [GS.size]; rfl
set_option maxRecDepth 100000 in
theorem W2 (x:GS) (hk:¬(1≤x.kind∧x.kind≤8)):Gt x:=by
 intro h
 refine lK rfl x.shut (lJ (By _ _ _) ?_)
 have e0:=ap9 x.kind hk
 have hw:pQ x=false:=by
  rw [sJ]
  have:lW x.kind x.sE x.name x.ty x.args x.body.length x.els.length x.has=false:=by
   cases hn:lW x.kind x.sE x.name x.ty x.args x.body.length x.els.length x.has with
   | false=>rfl
   | true=>exact absurd (B4 hn) hk
  rw [this]; rfl
 rw [hw]
 simp -implicitDefEqProofs [pZ,lQ,mU,e0,mL,putCells,kS]
theorem aDt:∀(n:Nat) (x:GS),x.size≤n→n≤4611686018427387904→Gt x:=by
 intro n
 induction n with
 | zero=>intro x hn; cases x; simp [GS.size] at hn
 | succ n ih =>
  intro x hn hb
  rw [GS.size_eq] at hn
  have h1:=AL x.body
  have h2:=AL x.els
  have hB:zS x.body:=c66 _ (fun y hy=>ih y (by have:=GS.qQ hy; omega) (by omega)) (by omega)
  have hE:zS x.els:=c66 _ (fun y hy=>ih y (by have:=GS.qQ hy; omega) (by omega)) (by omega)
  have ha:GE.pD x.args≤4611686018427387904:=by omega
  by_cases hk:1≤x.kind∧x.kind≤8
  ·rcases Pa hk with h | h | h | h | h | h | h | h
   ·exact auT x h ha hB hE
   ·exact auU x h ha hB hE
   ·exact auV x h ha hB hE
   ·exact auW x h ha hB hE
   ·exact auX x h ha hB hE
   ·exact auY x h ha hB hE
   ·exact auZ x h ha hB hE
   ·exact au0 x h ha hB hE
  ·exact W2 x hk
theorem aDO (l:List GS) (hs:GS.pD l≤4611686018427387904):zS l:=c66 l (fun x hx=>aDt _ x (GS.qQ hx) hs) (by have:=AL l; omega)
def GF.size (f:GF):Nat:=1+f.params.length+GS.pD f.body
theorem wV {x:GF}{h:kT}:lZ 8 h (.agg x.cells)=some (.ptr h.length 0,h++[.cells x.cells]):=by
 simp [lZ,x.tok,x.Rq]
theorem O7 {h:kT}:lZ 6 h (.agg [.int .i64 0,.str [],.int .i64 0,.int .i64 0,.int .i64 0,.bool false])=some (.ptr h.length 0,h++[.cells [.int .i64 0,.str [],.int .i64 0,.int .i64 0,.int .i64 0,.bool false]]):=by
 simp [lZ,lL]
theorem GF.shut (x:GF):([kP.agg x.cells].all (kP.oZ 0))=true:=by simp [GF.cells,kP.oZ,kP.rL,sV]
theorem Np {l:List GP}{i:Nat}{x:GP}(h:l[i]?=some x):∀hh:i < l.length,l[i]'hh=x:=fun hh=>by rw [ac1 hh] at h; exact Option.some.inj h
theorem Px {x:GP}{h:kT}{os:List kP}:p9 h os x.cells=x.cells:=rC (by simp [GP.cells,kP.isNil])
theorem auA {x:GP}{cs:List kP}(h:cs.length=6):putCells cs 0 x.cells=x.cells:=by simp [putCells,h]
theorem TL {x:GP}:(∀c,c∈x.cells→c.mH=true)=True:=eq_true (by have:=x.Rq; rwa [ag3] at this)
@[simp] theorem GP.aGp (x:GP):x.cells.take 6=x.cells:=rfl
theorem UD {f:GF}{C:List lR}:mI 1 (.cells f.cells::C)=some [.cells f.cells]:=by simp [mI,f.still]
theorem ab4 (f:GF) (l:List GP) (hl:l.length≤4611686018427387904) :
  (l.all uF=true→mQ (Ez KK 1) ([.ptr 0 0,.bool false,.slice (l.map GP.cells) .no,.int .i64 (l.length:Int),.int .i64 0],[.cells f.cells]) =
   some (.exit 0,[.ptr 0 0,.bool false,.slice (l.map GP.cells) .no,.int .i64 (l.length:Int),.int .i64 (l.length:Int)],[.cells f.cells])) ∧
  (l.all uF=false→∃i:Nat,mQ (Ez KK 1) ([.ptr 0 0,.bool false,.slice (l.map GP.cells) .no,.int .i64 (l.length:Int),.int .i64 0],[.cells f.cells]) =
   some (.ret,[.ptr 0 0,.bool false,.slice (l.map GP.cells) .no,.int .i64 (l.length:Int),.int .i64 (i:Int)],[.cells f.cells])):=by
 have q0:∀h o,kP.m_ 1 h (.ptr 0 o)=.ptr 0 o:=fun h o=>lN (by omega)
 have main:=Ac (F:=Ez KK 1) l uF (fun i=>([.ptr 0 0,.bool false,.slice (l.map GP.cells) .no,.int .i64 (l.length:Int),.int .i64 (i:Int)],[.cells f.cells]))
  (fun i=>(.ret,[.ptr 0 0,.bool false,.slice (l.map GP.cells) .no,.int .i64 (l.length:Int),.int .i64 (i:Int)],[.cells f.cells])) (.exit 0,[.ptr 0 0,.bool false,.slice (l.map GP.cells) .no,.int .i64 (l.length:Int),.int .i64 (l.length:Int)],[.cells f.cells]) ?_ ?_ (fun _=>by simp) ?_ (by simp)
 ·exact main
 ·intro i x hx hw
  have h:i < l.length:=(ab2.1 hx).1
  have w1:=rY (a:=i) (by omega)
  have e1:=c65 x.name
  have e2:=ZR x.ty
  simp only [uF,am2] at hw
  simp -implicitDefEqProofs [Ez,h,Np hx,O7,Px,auA,TL,e1,e2,hw.1,hw.2,w1,lA,UD,q0,-ag9]
 ·intro i x hx hw
  have h:i < l.length:=(ab2.1 hx).1
  have e1:=c65 x.name
  have e2:=ZR x.ty
  simp only [uF] at hw
  cases hn:pH x.name with
  | false=>simp -implicitDefEqProofs [Ez,h,Np hx,O7,Px,auA,TL,e1,e2,hn,lA,UD,q0]
  | true =>
   rw [hn,Bool.true_and] at hw
   simp -implicitDefEqProofs [Ez,h,Np hx,O7,Px,auA,TL,e1,e2,hn,hw,lA,UD,q0]
 ·simp -implicitDefEqProofs [Ez,lA,UD,q0]
theorem c31 (f:GF) (hs:f.size≤4611686018427387904) (h:kT):KK 31 [.agg f.cells] h=some (.ret (.bool (qE f)),h):=by
 refine lK rfl f.shut (lJ (asP _ _ _) ?_)
 unfold GF.size at hs
 have e1:=c65 f.name
 have e2:=aDO f.body (by omega)
 unfold zS at e2
 have e3:=ZR f.result
 have eq:=Ph (t:=f.result)
 obtain⟨h1,h2⟩:=ab4 f f.params (by omega)
 have g0:∀h:4 < f.cells.length,f.cells[4]'h=.int .i64 f.result.elem:=fun _=>rfl
 have g1:∀h:5 < f.cells.length,f.cells[5]'h=.int .i64 f.result.len:=fun _=>rfl
 unfold qE
 cases hN:pH f.name with
 | false=>simp -implicitDefEqProofs [m31,wV,e1,hN,kS]
 | true =>
  cases hS:oI f.body with
  | false=>simp -implicitDefEqProofs [m31,wV,e1,e2,hN,hS,kS]
  | true =>
   cases hP:f.params.all uF with
   | false =>
    obtain⟨i,hi⟩:=h2 hP
    simp -implicitDefEqProofs [m31,wV,e1,e2,hN,hS,hi,kS]
   | true =>
    have hi:=h1 hP
    cases hH:f.has with
    | false =>
     simp -implicitDefEqProofs [m31,wV,e1,e2,hN,hS,hi,hH,p7,eq,kS,mT]
    | true =>
     cases hT:rV f.result with
     | false=>simp -implicitDefEqProofs [m31,wV,e1,e2,e3,hN,hS,hi,hH,hT,kS]
     | true =>
      by_cases hL:f.result.len=0
      ·by_cases hE:f.result.elem=2
       ·simp -implicitDefEqProofs [m31,wV,e1,e2,e3,hN,hS,hi,hH,hT,hL,hE,g0,g1,kS]
       ·simp -implicitDefEqProofs [m31,wV,e1,e2,e3,hN,hS,hi,hH,hT,hL,hE,g0,g1,kS]
      ·simp -implicitDefEqProofs [m31,wV,e1,e2,e3,hN,hS,hi,hH,hT,hL,g0,g1,kS]
end
section
open Go Hk
def o8 (l:List GF):List kP:=[.slice (l.map GF.cells) .no]
theorem yW (l:List GF) (m:Nat) (h:kT):nK m h (o8 l)=some (o8 l):=by simp [o8]
theorem U9 {h:kT}:lZ 8 h (.agg [.int .i64 0,.str [],.slice [] .nil,.bool false,.int .i64 0,.int .i64 0,.int .i64 0,.slice [] .nil]) =
  some (.ptr h.length 0,h++[.cells [.int .i64 0,.str [],.slice [] (.own (h.length+1)),.bool false,.int .i64 0,.int .i64 0,.int .i64 0,.slice [] (.own (h.length+2))],.front 0 0,.front 0 0]):=by
 simp [lZ,lL]
theorem Xl {l:List GF}{i:Nat}{x:GF}(h:l[i]?=some x):∀hh:i < l.length,l[i]'hh=x:=fun hh=>by rw [ac1 hh] at h; exact Option.some.inj h
theorem Pw {x:GF}{h:kT}{os:List kP}:p9 h os x.cells=x.cells:=rC (by simp [GF.cells,kP.isNil])
theorem auB {x:GF}{cs:List kP}(h:cs.length=8):putCells cs 0 x.cells=x.cells:=by simp [putCells,h]
theorem aaL {x:GF}:(∀c,c∈x.cells→c.mH=true)=True:=eq_true (by have:=x.Rq; rwa [ag3] at this)
@[simp] theorem GF.aGq (x:GF):x.cells.take 8=x.cells:=rfl
theorem trG {l:List GF}{C:List lR}:mI 1 (.cells (o8 l)::C)=some [.cells (o8 l)]:=by simp [mI,yW]
theorem arU {x:GF}{h:kT}:mA true 8 h (.pptr x.cells)=some (.agg x.cells):=by simp [mA]
theorem XM (l:List GF) (hs:∀f∈l,f.size≤4611686018427387904) (hl:l.length≤4611686018427387904) :
  (l.all qE=true→mQ (F3 KK 1) ([.ptr 0 0,.str [],.int .i64 0,.slice (l.map GF.cells) .no,.int .i64 (l.length:Int),.int .i64 0],[.cells (o8 l)]) =
   some (.exit 0,[.ptr 0 0,.str [],.int .i64 0,.slice (l.map GF.cells) .no,.int .i64 (l.length:Int),.int .i64 (l.length:Int)],[.cells (o8 l)])) ∧
  (l.all qE=false→∃i:Nat,mQ (F3 KK 1) ([.ptr 0 0,.str [],.int .i64 0,.slice (l.map GF.cells) .no,.int .i64 (l.length:Int),.int .i64 0],[.cells (o8 l)]) =
   some (.ret,[.ptr 0 0,.str [],.int .i64 2,.slice (l.map GF.cells) .no,.int .i64 (l.length:Int),.int .i64 (i:Int)],[.cells (o8 l)])):=by
 have q0:∀h o,kP.m_ 1 h (.ptr 0 o)=.ptr 0 o:=fun h o=>lN (by omega)
 have main:=Ac (F:=F3 KK 1) l qE (fun i=>([.ptr 0 0,.str [],.int .i64 0,.slice (l.map GF.cells) .no,.int .i64 (l.length:Int),.int .i64 (i:Int)],[.cells (o8 l)]))
  (fun i=>(.ret,[.ptr 0 0,.str [],.int .i64 2,.slice (l.map GF.cells) .no,.int .i64 (l.length:Int),.int .i64 (i:Int)],[.cells (o8 l)])) (.exit 0,[.ptr 0 0,.str [],.int .i64 0,.slice (l.map GF.cells) .no,.int .i64 (l.length:Int),.int .i64 (l.length:Int)],[.cells (o8 l)]) ?_ ?_ (fun _=>by simp) ?_ (by simp)
 ·exact main
 ·intro i x hx hw
  have h:i < l.length:=(ab2.1 hx).1
  have w1:=rY (a:=i) (by omega)
  have e1:=c31 x (hs x (am4 hx))
  have st:∀cs C,ab7 cs=8→p8 8 (.cells (o8 l)::.cells cs::C) (.ptr 1 0) (.agg x.cells)=some (.cells (o8 l)::.cells x.cells::C):=fun cs C hc=>by
   simp [p8,Bw,Pw,auB hc,aaL,hc]
  have ld:∀C,mA true 8 (.cells (o8 l)::.cells x.cells::C) (.ptr 1 0)=some (.agg x.cells):=fun C=>by simp [mA,Bw]
  simp -implicitDefEqProofs [F3,h,Xl hx,arU,U9,st,ld,e1,hw,w1,lA,trG,q0,-ag9]
 ·intro i x hx hw
  have h:i < l.length:=(ab2.1 hx).1
  have e1:=c31 x (hs x (am4 hx))
  have st:∀cs C,ab7 cs=8→p8 8 (.cells (o8 l)::.cells cs::C) (.ptr 1 0) (.agg x.cells)=some (.cells (o8 l)::.cells x.cells::C):=fun cs C hc=>by
   simp [p8,Bw,Pw,auB hc,aaL,hc]
  have ld:∀C,mA true 8 (.cells (o8 l)::.cells x.cells::C) (.ptr 1 0)=some (.agg x.cells):=fun C=>by simp [mA,Bw]
  simp -implicitDefEqProofs [F3,h,Xl hx,arU,U9,st,ld,e1,hw,lA,trG,q0]
 ·simp -implicitDefEqProofs [F3,lA,trG,q0]
def uO (l:List GF) (i:Nat):List UInt8:=((l.take i).map qI).flatten
def uD (l:List GF) (i:Nat):Nat:=pV ((l.take i).map wD)
theorem L4 {l:List GF}{i:Nat}{x:GF}(h:l[i]?=some x):uO l (i+1)=uO l i++qI x:=by simp [uO,tL h]
theorem L3 {l:List GF}{i:Nat}{x:GF}(h:l[i]?=some x):uD l (i+1)=max (uD l i) (wD x):=by simp [uD,tL h,Iw]
theorem Sq (l:List GF) (i:Nat):(uO l i).length≤(uO l l.length).length:=by
 have:uO l l.length=uO l i++((l.drop i).map qI).flatten:=by
  unfold uO
  rw [←List.flatten_append,←List.map_append,List.take_append_drop,List.take_length]
 rw [this]; simp
theorem adE (l:List GF) (i:Nat):uD l i≤uD l l.length:=by
 have:uD l l.length=pV ((l.take i).map wD++(l.drop i).map wD):=by
  unfold uD
  rw [←List.map_append,List.take_append_drop,List.take_length]
 rw [this]
 exact LM _ _
def yF (w:WS) (l:List GF):Nat→WS
 | 0=>w
 | i+1=>w.st (uO l (i+1)) (uD l (i+1)) 0
theorem apU {w:WS}{B:List lR}:lZ 8 (WH w B) (.agg [.int .i64 0,.str [],.slice [] .nil,.bool false,.int .i64 0,.int .i64 0,.int .i64 0,.slice [] .nil]) =
  some (.ptr (B.length+3) 0,WH w (B++[.cells [.int .i64 0,.str [],.slice [] (.own (B.length+4)),.bool false,.int .i64 0,.int .i64 0,.int .i64 0,.slice [] (.own (B.length+5))],.front 0 0,.front 0 0])):=by
 simp [lZ,lL,nF,pJ]
theorem stF {w:WS}{B C:List lR}{cs:List kP}{x:GF}(hc:cs.length=8):p8 8 (WH w (B++.cells cs::C)) (.ptr (B.length+3) 0) (.agg x.cells)=some (WH w (B++.cells x.cells::C)):=by
 have e:=TK (w:=w) (B:=B) (C:=C) (cs:=cs)
 simp only [p8,Bw,e,Dx,oM,an3,E5,GF.rA,hc]
 rw [if_pos ⟨trivial,by omega,x.Rq⟩,Pw,auB hc,ad8]
theorem XN {w:WS}(l:List GF) (hw:l.all qE=true) (h0:w.ln=0) (hl:l.length≤4611686018427387904) (hb:w.bs.length+(uO l l.length).length≤1099511627776) (hn:w.now+uD l l.length≤1000000000000000):∀i,i≤l.length →
  mQ (PX KK 3) ([.str [],.int .i64 0,.ptr 1 0,.slice (l.map GF.cells) .no,.int .i64 (l.length:Int),.int .i64 (i:Int)],WH (yF w l i) []) =
   some (.exit 2,[.str [],.int .i64 0,.ptr 1 0,.slice (l.map GF.cells) .no,.int .i64 (l.length:Int),.int .i64 (l.length:Int)],WH (yF w l l.length) []):=by
 refine tN (fun i:Nat=>([.str [],.int .i64 0,.ptr 1 0,.slice (l.map GF.cells) .no,.int .i64 (l.length:Int),.int .i64 (i:Int)],WH (yF w l i) [])) (fun i=>i≤l.length) (fun i=>l.length - i) _ fun i hi=>?_
 have htr:=fun w C=>oG (w:=w) (B:=[]) (C:=C) oF
 simp only [an4,am3,al7] at htr
 have q0:∀h o,kP.m_ 3 h (.ptr 1 o)=.ptr 1 o:=fun h o=>lN (by omega)
 by_cases h:i < l.length
 ·left
  refine⟨i+1,?_,h,by omega,rfl⟩
  obtain⟨x,hx⟩:∃x,l[i]?=some x:=⟨l[i],ac1 h⟩
  have w1:=rY (a:=i) (by omega)
  have t1:=L4 hx
  have t2:=L3 hx
  have t3:=Sq l (i+1)
  have t4:=adE l (i+1)
  rw [t1,ac6] at t3
  rw [t2] at t4
  have hx1:qE x=true:=ag3.1 hw x (am4 hx)
  have s2:Still [.cells x.cells,.front 0 0,.front 0 0]:=ET (mP (mP oF))
  have hz:=apU (w:=yF w l i) (B:=[])
  have hst:=fun C cs (hc:ab7 cs=8)=>stF (w:=yF w l i) (B:=[]) (C:=C) (x:=x) hc
  have hld:=fun C=>aEe (w:=yF w l i) (B:=[]) (C:=C) (cs:=x.cells) (n:=8) (i:=0)
  have hbs:(yF w l i).bs=w.bs++uO l i:=by cases i <;> simp [yF,uO]
  have hnow:(yF w l i).now=w.now:=by cases i <;> simp [yF]
  have hln:(yF w l i).ln=0:=by cases i <;> simp [yF,h0]
  have e1:=c32 (w:=yF w l i) x hx1 hln s2 (by rw [hbs,ac6]; omega) (by rw [hnow]; omega)
  have hres:(yF w l i).st (qI x) (wD x) 0=yF w l (i+1):=by
   cases i with
   | zero =>
    have a1:uO l 0=[]:=rfl
    have a2:uD l 0=0:=rfl
    simp only [yF,t1,t2,a1,a2,an4]
    exact WS.Bm rfl (by omega) rfl
   | succ j =>
    simp only [yF,WS.aeH,t1,t2]
    exact WS.Bm rfl (by simp) rfl
  rw [hres] at e1
  simp only [an4,am3,al7] at hz hst hld
  simp -implicitDefEqProofs [PX,h,Xl hx,arU,hz,hst,hld,e1,w1,lA,htr,q0,-ag9]
 ·right
  have:i=l.length:=by omega
  subst this
  have htr0:=fun w=>s_ (w:=w) (B:=[]) oF
  simp only [am3,al7] at htr0
  constructor
  ·simp -implicitDefEqProofs [PX,lA,htr0,q0]
  ·simp
theorem c14 (l:List GF) (hs:∀f∈l,f.size≤4611686018427387904) (hl:l.length≤4611686018427387904) (hb:l.all qE=true→(uO l l.length).length≤1099511627776) (hn:l.all qE=true→uD l l.length≤1000000000000000) (h:kT) :
  KK 14 [.agg (o8 l)] h=some (.ret (.tuple [.str (xQ l).1,.int .i64 (xQ l).2]),h):=by
 refine lK rfl (by simp [o8,kP.oZ,kP.rL,sV]) (lJ (asB _ _ _) ?_)
 have hnew:∀h,lZ 1 h (.agg (o8 l))=some (.ptr h.length 0,h++[.cells (o8 l)]):=fun h=>by
  have:lL (h.length+1) (o8 l)=(o8 l,[]):=uQ (by simp [o8,kP.isNil])
  simp [lZ,this]; simp [o8,kP.mH]
 have ld:mA false 1 [.cells (o8 l)] (.ptr 0 0)=some (.slice (l.map GF.cells) .no):=rfl
 obtain⟨h1,h2⟩:=XM l hs hl
 unfold xQ
 have ht:((l.map qI).flatten)=uO l l.length:=by simp [uO]
 have hnn:pV (l.map wD)=uD l l.length:=by simp [uD]
 rw [ht,hnn]
 cases hw:l.all qE with
 | false =>
  obtain⟨i,hi⟩:=h2 hw
  simp -implicitDefEqProofs [m14,hnew,ld,hi,kS]
 | true =>
  have hi:=h1 hw
  have e1:=XN (w:=WS.new (o8 l) (yW l)) l hw rfl hl (by simpa using hb hw) (by simpa using hn hw) 0 (ak5 _)
  obtain⟨H,e3⟩:=c33 (w:=yF (WS.new (o8 l) (yW l)) l l.length) (B:=[]) oF
  have ld2:mA false 1 (WH (WS.new (o8 l) (yW l)) []) (.ptr 0 0)=some (.slice (l.map GF.cells) .no):=rfl
  have hov:(yF (WS.new (o8 l) (yW l)) l l.length).over=decide (64 < uD l l.length):=by
   cases hll:l.length with
   | zero=>rfl
   | succ j=>simp only [yF]; exact Sh _ _ _ _ _
  have hbs:(yF (WS.new (o8 l) (yW l)) l l.length).bs=uO l l.length:=by
   cases hll:l.length with
   | zero=>rfl
   | succ j=>simp [yF]
  have hp0:yF (WS.new (o8 l) (yW l)) l 0=WS.new (o8 l) (yW l):=rfl
  rw [hp0] at e1
  rw [hov,hbs] at e3
  simp only [ae8] at e1
  by_cases hd:64 < uD l l.length
  ·rw [decide_eq_true hd] at e3
   simp -implicitDefEqProofs at e3
   simp -implicitDefEqProofs [m14,hnew,ld,hi,akS,akT (o8 l) (yW l),ld2,nF,e1,e3,hd,kS]
  ·rw [decide_eq_false hd] at e3
   simp -implicitDefEqProofs at e3
   simp -implicitDefEqProofs [m14,hnew,ld,hi,akS,akT (o8 l) (yW l),ld2,nF,e1,e3,hd,kS]
end
section
open Go Hk

end
section
open Go Hk

end
section
open Go Hk

end
section
open Go Hk

end
section
open Go Hk

end
section
open Go Hk

end
section
open Go Hk

end
section
open Go Hk

end
section
open Go Hk

end
section
open Go Hk

end
section
open Go Hk

end
section
open Go Hk

end
section
open Go Hk
mutual
def wE:GE→Nat
 | .mk _ _ _ name args=>name.length+60+Fm args
def Fm:List GE→Nat
 | []=>0
 | x::r=>wE x+4+Fm r
end
mutual
def wS:GS→Nat
 | .mk _ _ _ name _ args body els _=>name.length+120+Fm args+Gq body+Gq els
def Gq:List GS→Nat
 | []=>0
 | x::r=>wS x+4+Gq r
end
mutual
def dS:GS→Nat
 | .mk _ _ _ _ _ _ body els _=>1+max (GH body) (GH els)
def GH:List GS→Nat
 | []=>0
 | x::r=>max (dS x) (GH r)
end
def wP (p:GP):Nat:=p.name.length+60
def Wj:List GP→Nat
 | []=>0
 | p::r=>wP p+4+Wj r
def wF (f:GF):Nat:=f.name.length+120+Wj f.params+Gq f.body
def MT:List GF→Nat
 | []=>0
 | f::r=>wF f+MT r
theorem Yu (k:Int):(nS k).length≤6:=by
 unfold nS
 cases h:(([[],[],[],[],[],[126],[45],[33],[43],[45],[42],[38],[124],[94],[60,60],[62,62],[114,111,114],[61,61],[33,61],[60],[60,61],[62],[62,61],
 [109,117,108,104,105],[99,97,114,114,121],[115,101,108,101,99,116],[119,111,114,100]]:List (List UInt8))[k.toNat]?) with
 | none=>simp
 | some s =>
  have hm:=am4 h
  have key:∀s∈([[],[],[],[],[],[126],[45],[33],[43],[45],[42],[38],[124],[94],[60,60],[62,62],[114,111,114],[61,61],[33,61],[60],[60,61],[62],[62,61],
   [109,117,108,104,105],[99,97,114,114,121],[115,101,108,101,99,116],[119,111,114,100]]:List (List UInt8)),s.length≤6:=by decide
  exact key s hm
def pw (l:List Part):Nat:=match l with
 | []=>0
 | p::r=>p.2.1.length+4+pw r
def pd (l:List Part):Nat:=match l with
 | []=>0
 | p::r=>p.2.2+4+pd r
theorem ad7:∀l:List Part,(vC l).length≤pw l
 | []=>by simp [vC,pw]
 | [p]=>by simp only [vC,pw]; omega
 | p::q::r=>by
  have:=ad7 (q::r)
  simp only [vC,ac6,am1,pw] at this ⊢
  omega
theorem acQ:∀l:List Part,uR l≤pd l
 | []=>by simp [uR,pd]
 | p::r=>by
  have:=acQ r
  simp only [uR,pd]
  omega
theorem J4 (b:Bool) (p:Part):(tI b p).length≤p.2.1.length+2:=by
 cases b <;> simp [tI]
theorem J3 (b:Bool) (p:Part):qP b p≤p.2.2+1:=by
 cases b <;> simp [qP]
theorem akW (k n:Int) (name:List UInt8) (l:List Part) (hn:n < 9223372036854775808):(tO k n name l).length≤name.length+60+pw l:=by
 have h1:=Yu k
 have h2:=Dj hn
 have h3:=ad7 l
 unfold tO
 split
 ·match l with
  | []=>simp
  | [a] =>
   have:=J4 (mK (lD k) a.1) a
   simp only [ac6,am1,pw]
   omega
  | a::b::r =>
   have:=J4 (mK (lD k) a.1) a
   have:=J4 (decide (lD k < lD b.1)) b
   simp only [ac6,am1,pw]
   omega
 ·split
  ·omega
  ·split
   ·omega
   ·split
    ·match l with
     | []=>simp
     | a::r=>simp only [ac6,am1,am3,pw]; omega
    ·split
     ·match l with
      | []=>simp
      | a::r =>
       have:=J4 (decide (lD a.1=8)) a
       simp only [ac6,pw]
       omega
     ·split <;> simp only [ac6,am1,am3] <;> omega
theorem akV (k:Int) (l:List Part):wG k l≤60+pd l:=by
 have h3:=acQ l
 unfold wG
 split
 ·match l with
  | []=>simp
  | [a] =>
   have:=J3 (mK (lD k) a.1) a
   simp only [pd]
   omega
  | a::b::r =>
   have:=J3 (mK (lD k) a.1) a
   have:=J3 (decide (lD k < lD b.1)) b
   simp only [pd]
   omega
 ·split
  ·omega
  ·split
   ·match l with
    | []=>simp
    | a::r=>simp only [pd]; omega
   ·split
    ·match l with
     | []=>simp
     | a::r =>
      have:=J3 (decide (lD a.1=8)) a
      simp only [pd]
      omega
    ·omega
mutual
theorem J_:∀x:GE,mY x=true→(lU x).2.1.length≤wE x∧(lU x).2.2≤wE x
 | .mk k p n name args,h=>by
  simp only [mY,am2] at h
  have hn:n < 9223372036854775808:=by
   have h1:=h.1
   unfold rK at h1
   split at h1
   ·cases h1
   ·simp only [am2] at h1
    have h2:=h1.2
    unfold lF at h2
    split at h2
    ·have:=vP.1 h2; omega
    ·have:n=0:=by simpa using h2
     omega
  obtain⟨h1,h2⟩:=SV args h.2
  have h3:=akW k n name (rP args) hn
  have h4:=akV k (rP args)
  simp only [lU,wE]
  exact⟨by omega,by omega⟩
theorem SV:∀l:List GE,mZ l=true→pw (rP l)≤Fm l∧pd (rP l)≤Fm l
 | [],_=>by simp [rP,pw,pd,Fm]
 | x::r,h=>by
  simp only [mZ,am2] at h
  obtain⟨h1,h2⟩:=J_ x h.1
  obtain⟨h3,h4⟩:=SV r h.2
  simp only [rP,pw,pd,Fm]
  exact⟨by omega,by omega⟩
end
theorem QB {x:GE}:∀{l:List GE},x∈l→wE x≤Fm l
 | y::r,h=>by
  simp only [Fm]
  cases h with
  | head=>omega
  | tail _ h=>have:=QB h; omega
theorem Il {t:GT}(h:rV t=true):(vO t).length≤26:=by
 have hlen:0≤t.len∧t.len≤4294967295:=by
  simp only [rV,am2] at h
  exact vP.1 h.1.2
 have:=Dj (n:=t.len) (by omega)
 unfold vO
 rw [ac6]
 have a:(if t.elem=1 then [109,97,115,107] else if t.elem=2 then [117,56] else [117,51,50]:List UInt8).length≤4:=by
  split
  ·simp
  ·split <;> simp
 have b:(if 0 < t.len then 91::(uK t.len++[93]) else []:List UInt8).length≤22:=by
  split
  ·simp; omega
  ·simp
 omega
def tw (l:List (List UInt8)):Nat:=match l with
 | []=>0
 | p::r=>p.length+tw r
theorem KR (n:Nat) (l:List (List UInt8)):(nQ n l).length=4+n+(tw l+l.length * (n+2)):=by
  unfold nQ
  simp only [am1,ac6,am3,tC]
  have key:∀l:List (List UInt8),((l.map fun t=>qA (n+1)++t++[10]).flatten).length=tw l+l.length * (n+2):=by
   intro l
   induction l with
   | nil=>simp [tw]
   | cons x r ih =>
    simp only [ak9,List.flatten_cons,ac6,am1,am3,tC,ih,tw,ak3]
    omega
  have:=key l
  omega
theorem Tr {args:List GE}{i:Nat}(h:mZ args=true):(((args.map mB)[i]?).getD []).length≤Fm args∧((args.map lS)[i]?).getD 0≤Fm args:=by
 rw [ag6,ag6]
 cases hi:args[i]? with
 | none=>simp
 | some a =>
  have hm:=am4 hi
  have hw:mY a=true:=by
   rw [wL,ag3] at h
   exact h a hm
  have h1:=J_ a hw
  have h2:=QB hm
  simp only [Option.map_some,Option.getD_some]
  exact⟨by show(lU a).2.1.length≤_; omega,by show(lU a).2.2≤_; omega⟩
theorem Vd {args:List GE}(h:mZ args=true):(((args.map mB)[0]?).getD []).length+(((args.map mB)[1]?).getD []).length≤Fm args∧((args.map lS)[0]?).getD 0≤Fm args∧((args.map lS)[1]?).getD 0≤Fm args:=by
 refine⟨?_,(Tr h).2,(Tr h).2⟩
 match args with
 | []=>simp
 | [a]=>exact(Tr (i:=0) h).1
 | a::b::r =>
  simp only [mZ,am2] at h
  have h1:=J_ a h.1
  have h2:=J_ b h.2.1
  simp only [ak9,List.getElem?_cons_zero,List.getElem?_cons_succ,Option.getD_some,Fm]
  show(lU a).2.1.length+(lU b).2.1.length≤_
  omega
theorem alU {k m:Int}{name:List UInt8}{ty:GT}{args:List GE}{body els:List UInt8}{has:Bool}{nb ne:Nat}(hn:lW k m name ty args nb ne has=true) :
  (xC k m name ty (args.map mB) body els has).length≤name.length+110+Fm args+body.length+els.length:=by
 have hk:=B4 hn
 unfold lW at hn
 split at hn
 ·cases hn
 ·simp only [am2] at hn
  have hwe:mZ args=true:=by simp_all
  obtain⟨a1,a2,a3⟩:=Vd hwe
  have hm:(uK m).length≤20:=by
   have hm:lF m (k == 6)=true:=by simp_all
   refine Dj ?_
   unfold lF at hm
   split at hm
   ·have:=vP.1 hm; omega
   ·have:m=0:=by simpa using hm
    omega
  have hl:(oO ty.label).length=4:=by unfold oO; split <;> rfl
  unfold xC
  generalize ((args.map mB)[0]?).getD []=A at a1 ⊢
  generalize ((args.map mB)[1]?).getD []=D at a1 ⊢
  split
  ·simp only [ac6,am1,am3]; omega
  ·split
   ·rename_i h2
    have ht:rV ty=true:=by
     have h3:(if (k == 2)=true then rV ty else ty == GT.zero)=true:=by simp_all
     rw [if_pos (by simpa using h2)] at h3
     exact h3
    have:=Il ht
    simp only [ac6,am1,am3,hl]; omega
   ·split
    ·simp only [ac6,am1,am3]; omega
    ·split
     ·simp only [ac6,am1,am3]; omega
     ·split
      ·have:(if has=true then [32,101,108,115,101]++els else []:List UInt8).length≤5+els.length:=by
        split
        ·simp; omega
        ·simp
       simp only [ac6,am1,am3]; omega
      ·split
       ·simp only [ac6,am1,am3]; omega
       ·split
        ·simp only [ac6,am1,am3]; omega
        ·simp only [ac6,am1,am3]; omega
theorem alT {k:Int}{args:List GE}{b e:Nat}{has:Bool}(hwe:mZ args=true):We k (args.map lS) b e has≤1+Fm args+b+e:=by
 obtain⟨a1,a2,a3⟩:=Vd hwe
 unfold We
 dsimp only
 generalize ((args.map lS)[0]?).getD 0=A at a2 ⊢
 generalize ((args.map lS)[1]?).getD 0=D at a3 ⊢
 split
 ·omega
 ·split
  ·omega
  ·split
   ·split <;> omega
   ·split <;> omega
theorem Gm (n:Nat):∀l:List GS,(n9 n l).length=l.length
 | []=>rfl
 | x::r=>by simp [n9,Gm n r]
mutual
theorem al1:∀(x:GS) (n T:Nat),pQ x=true→n+dS x≤T→(p_ n x).length≤wS x * (T+1)
 | .mk k p m name ty args body els has,n,T,h,hd=>by
  simp only [pQ,am2] at h
  simp only [dS] at hd
  have h1:=alU (body:=nQ n (n9 (n+1) body)) (els:=nQ n (n9 (n+1) els)) h.1.1
  have h2:=HA body (n+1) T h.1.2 (by omega)
  have h3:=HA els (n+1) T h.2 (by omega)
  have e1:=KR n (n9 (n+1) body)
  have e2:=KR n (n9 (n+1) els)
  rw [Gm] at e1 e2
  have m1:body.length * (n+2)≤body.length * (T+1):=Nat.mul_le_mul_left _ (by omega)
  have m2:els.length * (n+2)≤els.length * (T+1):=Nat.mul_le_mul_left _ (by omega)
  have b1:(nQ n (n9 (n+1) body)).length≤4+n+Gq body * (T+1):=by omega
  have b2:(nQ n (n9 (n+1) els)).length≤4+n+Gq els * (T+1):=by omega
  simp only [p_,wS]
  have hT:name.length+110+Fm args≤(name.length+110+Fm args) * (T+1):=Nat.le_mul_of_pos_right _ (by omega)
  have h10:8+2 * n≤10 * (T+1):=by omega
  have:(name.length+120+Fm args+Gq body+Gq els) * (T+1)=(name.length+110+Fm args) * (T+1)+10 * (T+1)+Gq body * (T+1)+Gq els * (T+1):=by
   simp only [ak3]; omega
  rw [this]
  omega
theorem HA:∀(l:List GS) (n T:Nat),oI l=true→n+GH l≤T→tw (n9 n l)+l.length * (T+1)≤Gq l * (T+1)
 | [],_,_,_,_=>by simp [n9,tw,Gq]
 | x::r,n,T,h,hd=>by
  simp only [oI,am2] at h
  simp only [GH] at hd
  have h1:=al1 x n T h.1 (by omega)
  have h2:=HA r n T h.2 (by omega)
  simp only [n9,tw,Gq,am1,ak3] at h2 ⊢
  omega
end
mutual
theorem akR:∀(x:GS),pQ x=true→qN x≤wS x
 | .mk k p m name ty args body els has,h=>by
  simp only [pQ,am2] at h
  have hwe:mZ args=true:=by
   have hn:=h.1.1
   unfold lW at hn
   split at hn
   ·cases hn
   ·simp_all
  have h1:=alT (k:=k) (b:=pV (nZ body)+1) (e:=pV (nZ els)+1) (has:=has) hwe
  have h2:=Hf body h.1.2
  have h3:=Hf els h.2
  simp only [qN,wS]
  omega
theorem Hf:∀(l:List GS),oI l=true→pV (nZ l)≤Gq l
 | [],_=>by simp [nZ,pV]
 | x::r,h=>by
  simp only [oI,am2] at h
  have h1:=akR x h.1
  have h2:=Hf r h.2
  simp only [nZ,pV,Gq]
  omega
end
theorem Sl {p:GP}(h:uF p=true):(pP p).length≤wP p:=by
 simp only [uF,am2] at h
 have h1:=Il h.2
 have hl:(oO p.ty.label).length=4:=by unfold oO; split <;> rfl
 have ho:(if p.out=true then [111,117,116,32] else []:List UInt8).length≤4:=by split <;> simp
 simp only [pP,ac6,am1,am3,hl,wP]
 omega
theorem ad6:∀{l:List GP},l.all uF=true→(wO (l.map pP)).length≤Wj l
 | [],_=>by simp [wO]
 | [p],h=>by
  simp only [List.all_cons,List.all_nil,Bool.and_true] at h
  have:=Sl h
  simp only [ak9,List.map_nil,wO,Wj]
  omega
 | p::q::r,h=>by
  have hp:uF p=true:=by simp_all
  have hr:(q::r).all uF=true:=by simp_all
  have h1:=Sl hp
  have h2:=ad6 hr
  simp only [ak9,wO,ac6,am1,Wj] at h2 ⊢
  omega
theorem al0 {f:GF}{T:Nat}(h:qE f=true) (hd:1+GH f.body≤T):(qI f).length≤wF f * (T+1)∧wD f≤wF f:=by
 simp only [qE,am2] at h
 obtain⟨⟨⟨_,hb⟩,hp⟩,hr⟩:=h
 have h1:=ad6 hp
 have h2:=HA f.body 1 T hb hd
 have h3:=KR 0 (n9 1 f.body)
 have h4:=Hf f.body hb
 rw [Gm] at h3
 have m1:f.body.length * (0+2)≤f.body.length * (T+1):=Nat.mul_le_mul_left _ (by omega)
 have hl:(oO f.result.label).length=4:=by unfold oO; split <;> rfl
 have hres:(if f.has=true then [58,32]++oO f.result.label++vO f.result else []:List UInt8).length≤40:=by
  split
  ·rename_i hh
   rw [if_pos hh] at hr
   simp only [am2] at hr
   have:=Il hr.1.1
   simp only [ac6,am1,am3,hl]
   omega
  ·simp
 refine⟨?_,by simp only [wD,wF]; omega⟩
 have e:(qI f).length≤f.name.length+70+Wj f.params+(nQ 0 (n9 1 f.body)).length:=by
  simp only [qI,ac6,am1,am3]
  omega
 have hT:f.name.length+120+Wj f.params≤(f.name.length+120+Wj f.params) * (T+1):=Nat.le_mul_of_pos_right _ (by omega)
 have:wF f * (T+1)=(f.name.length+120+Wj f.params) * (T+1)+Gq f.body * (T+1):=by simp only [wF,ak3]
 omega
end
section
open Go Hk
structure wM where
 at_:Int
 field:Int
 num:Int
 name:List UInt8
def wM.cells (c:wM):List kP:=[.int .i64 c.at_,.int .i64 c.field,.int .i64 c.num,.str c.name]
end
end Go.Proofs.YtlddmnojanpdoaaGreatDoor
