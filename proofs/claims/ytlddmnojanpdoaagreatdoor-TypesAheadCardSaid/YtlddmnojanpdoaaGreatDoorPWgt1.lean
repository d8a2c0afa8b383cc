/-
  The texts WG.JA, WG.JP, one behind another. No conditions.
-/
import Derived.Test.YtlddmnojanpdoaaGreatDoorPWg1
set_option linter.unusedVariables false
set_option linter.unusedSimpArgs false
set_option linter.all false
namespace Go.Proofs.YtlddmnojanpdoaaGreatDoor
section
open Go Hk
structure mS where
 ty:GT
 fixed:Bool
inductive TR (α:Type) where
 | ok (v:α)
 | bad (e p:Int)
def TR.bind {α β:Type}(x:TR α) (f:α→TR β):TR β:=match x with
 | .ok v=>f v
 | .bad e p=>.bad e p
abbrev Nm (α:Type):=List (List UInt8×α)
def look {α:Type}:Nm α→List UInt8→Option α
 | [],_=>none
 | (k,v)::r,s=>if k=s then some v else look r s
def Dx {α:Type}:Nm α→List UInt8→Nm α
 | [],_=>[]
 | (k,v)::r,s=>if k=s then r else(k,v)::Dx r s
abbrev Kn:=Nm (GF×Int)
def GE.pos:GE→Int | .mk _ p _ _ _=>p
def GS.pos:GS→Int | .mk _ p _ _ _ _ _ _ _=>p
def rG (b:Bool) (e p:Int):TR Unit:=if b then .ok () else .bad e p
def vX (N:Nm mS) (s:List UInt8) (p:Int):TR mS:=match look N s with
 | some t=>.ok t
 | none=>.bad 12 p
def q9 (a b:Int):Bool:=a == 0 || b == 1
def Sr:List GT→Int→Int
 | [],m=>m
 | t::r,m=>Sr r (max m t.label)
def QC (k:Int) (l:List Int):Int×Bool :=
 let w:=l.all (· == 0)
 let a:=(l[0]?).getD 0
 let b:=(l[1]?).getD 0
 let c:=(l[2]?).getD 0
 if k=7 then(1,a == 1) else if k=26 then(0,a == 1) else if k=11∨k=12∨k=13 then(a,a == b)
 else if k=25 then(b,a == 1 && b == c) else if 17≤k∧k≤22 then(1,w) else(0,w)
section
variable (F:Kn) (N:Nm mS)
def MB (q:GP) (k p:Int) (name:List UInt8):TR Unit:=(rG (k == 2) 14 p).bind fun _=>(vX N name p).bind fun t =>
 (rG (t.ty.elem == q.ty.elem && t.ty.len == q.ty.len && !(q.out && t.fixed)) 14 p).bind fun _=>rG (q9 t.ty.label q.ty.label && (!q.out || t.ty.label == q.ty.label)) 15 p
mutual
def xD:GE→TR GT
 | .mk k p n name args =>
  if k=1 then .ok GT.zero
  else if k=2 then(vX N name p).bind fun t=>(rG (t.ty.len == 0) 14 p).bind fun _=>.ok t.ty
  else if k=3 then(CM 0 args).bind fun _=>(vX N name p).bind fun t=>(rG (decide (0 < t.ty.len)) 14 p).bind fun _=>.ok ⟨0,0,t.ty.label⟩
  else if k=4 then(match look F name with
   | none=>.bad 12 p
   | some (f,_)=>(rG (f.params.length == args.length) 16 p).bind fun _=>(rU f.params args).bind fun _=>(rG f.has 14 p).bind fun _=>.ok f.result)
  else(wO args).bind fun l=>(rG (QC k (l.map GT.elem)).2 14 p).bind fun _=>(rG (decide (n < 32)) 18 p).bind fun _=>.ok ⟨(QC k (l.map GT.elem)).1,0,Sr l 0⟩
def wO:List GE→TR (List GT)
 | []=>.ok []
 | x::r=>(xD x).bind fun t=>(wO r).bind fun l=>.ok (t::l)
def CM (elem:Int):List GE→TR Unit
 | []=>.ok ()
 | x::_=>(xD x).bind fun t=>(rG (t.elem == elem) 14 x.pos).bind fun _=>rG (t.label == 0) 15 x.pos
def rU:List GP→List GE→TR Unit
 | [],_=>.ok ()
 | _::_,[]=>.ok ()
 | q::ps,x::r=>(if q.ty.len=0 then(xD x).bind fun t=>(rG (t.elem == q.ty.elem) 14 x.pos).bind fun _=>rG (q9 t.label q.ty.label) 15 x.pos else MB N q x.kind x.pos x.name).bind fun _=>rU ps r
end
def Ci (x:GE):TR GF:=match look F x.name with
 | none=>.bad 12 x.pos
 | some (f,_)=>(rG (f.params.length == x.args.length) 16 x.pos).bind fun _=>(rU F N f.params x.args).bind fun _=>.ok f
def Gk:List GE→TR GT
 | []=>.ok GT.zero
 | x::_=>xD F N x
end
def As (N:Nm mS) (s:List UInt8) (t:mS) (p:Int):TR (Nm mS):=match look N s with
 | none=>.ok (N++[(s,t)])
 | some _=>.bad 13 p
def zP:List GS→Nm mS→Nm mS
 | [],N=>N
 | .mk k _ _ name _ _ _ _ _::r,N=>zP r (if k=1∨k=2 then Dx N name else N)
section
variable (F:Kn) (f:GF)
mutual
def y6 (last:Bool) (N:Nm mS):GS→TR (Nm mS)
 | .mk k p m name ty args body els _ =>
  if k=1 then(Gk F N args).bind fun t=>As N name ⟨t,true⟩ p
  else if k=2 then(As N name ⟨ty,false⟩ p).bind fun N'=>(rG (decide (ty.len≤16384)) 18 p).bind fun _=>.ok N'
  else if k=3 then(Gk F N args).bind fun v=>(vX N name p).bind fun t=>(rG (t.ty.len == 0 && !t.fixed && t.ty.elem == v.elem) 14 p).bind fun _=>(rG (q9 v.label t.ty.label) 15 p).bind fun _=>.ok N
  else if k=4 then(CM F N 0 args).bind fun _=>(Gk F N args.tail).bind fun v=>(vX N name p).bind fun t=>(rG (decide (0 < t.ty.len) && !t.fixed && v.elem == 0) 14 p).bind fun _=>(rG (q9 v.label t.ty.label) 15 p).bind fun _=>.ok N
  else if k=5 then(CM F N 1 args).bind fun _=>(tH N body).bind fun N1=>(tH (zP body N1) els).bind fun N2=>.ok (zP els N2)
  else if k=6 then(CM F N 0 args).bind fun _=>(As N name ⟨GT.zero,true⟩ p).bind fun N1=>(rG (decide (m≤65536)) 18 p).bind fun _=>(tH N1 body).bind fun N2=>.ok (Dx (zP body N2) name)
  else if k=7 then(match args with
   | x::_=>(Ci F N x).bind fun _=>.ok N
   | []=>.ok N)
  else if k=8 then(Gk F N args).bind fun v=>(rG (last && f.has && v.elem == f.result.elem) 14 p).bind fun _=>(rG (q9 v.label f.result.label) 15 p).bind fun _=>.ok N
  else .ok N
def tH (N:Nm mS):List GS→TR (Nm mS)
 | []=>.ok N
 | x::r=>(y6 false N x).bind fun N'=>tH N' r
end
def yL (N:Nm mS):List GS→TR (Nm mS)
 | []=>.ok N
 | x::r=>(y6 F f r.isEmpty N x).bind fun N'=>yL N' r
end
def vE (N:Nm mS):List GP→TR (Nm mS)
 | []=>.ok N
 | q::r=>(As N q.name ⟨q.ty,!q.out⟩ q.pos).bind fun N'=>(rG (!q.out || decide (0 < q.ty.len)) 14 q.pos).bind fun _=>(rG (decide (q.ty.len≤16384)) 18 q.pos).bind fun _=>vE N' r
def D_ (n:Int):Int:=min n 65537
section
variable (F:Kn)
mutual
def Al:GE→Int
 | .mk k _ _ name args=>1+oX args 0+(if k=4 then(match look F name with | some (_,c)=>c | none=>0) else 0)
def oX:List GE→Int→Int
 | [],n=>n
 | x::r,n=>oX r (D_ (n+Al x))
end
mutual
def Bm:GS→Int
 | .mk k _ m _ ty args body els _=>(1+oX F args 0+ty.len)+(if k=6 then(m+1) * (1+oY body 0) else oY body 0)+oY els 0
def oY:List GS→Int→Int
 | [],n=>n
 | x::r,n=>oY r (D_ (n+Bm x))
end
end
def tV:List GS→Bool→Bool
 | [],b=>b
 | .mk k _ _ _ _ _ _ _ _::r,_=>tV r (k == 8)
def AH (F:Kn) (f:GF):TR Kn:=match look F f.name with
 | some _=>.bad 13 f.pos
 | none=>(vE [] f.params).bind fun N=>(yL F f N f.body).bind fun _=>(rG (!f.has || tV f.body false) 14 f.pos).bind fun _=>.ok (F++[(f.name,(f,D_ (1+oY F f.body 0)))])
def uG (F:Kn):List GF→TR Kn
 | []=>.ok F
 | f::r=>(AH F f).bind fun F'=>uG F' r
def Br (t:GT):Int:=if t.len=0 then 4 else if t.elem=2 then Int.tdiv (t.len+3) 4 * 4 else 4 * t.len
def EZ:List GP→Int→Int→TR (Int×Int)
 | [],i,o=>.ok (i,o)
 | q::r,i,o=>(rG (q.ty.elem != 1) 17 q.pos).bind fun _=>if q.out then EZ r i (min (o+Br q.ty) 65537) else EZ r (min (i+Br q.ty) 65537) o
def Bi:List UInt8:=[109,97,105,110]
def DJ (l:List GF):TR Unit:=match l.getLast? with
 | none=>.bad 17 0
 | some f=>(rG (f.name == Bi) 17 0).bind fun _=>(rG (!f.has) 17 f.pos).bind fun _=>(EZ f.params 0 0).bind fun io=>rG (decide (io.1≤65536) && decide (io.2≤65536)) 18 f.pos
def Bh (l:List GF):TR (Int×Int):=if (qE l).2≠0 then .bad (qE l).2 0 else
 (uG [] l).bind fun F=>(DJ l).bind fun _=>.ok ((match look F Bi with | some (_,c)=>c | none=>0),(match l.getLast? with | some f=>f.pos | none=>0))
def rD (l:List GF):Int×Int:=match Bh l with
 | .bad e p=>(e,p)
 | .ok (c,pos)=>if 65536 < c then(18,pos) else(0,0)
def Bx (l:List GF):Int:=match Bh l with
 | .bad _ _=>0
 | .ok (c,_)=>c
end
section
open Go Hk
def GT.op (t:GT):GT:={ t with label:=0 }
def GP.op (q:GP):GP:={ q with ty:=q.ty.op }
mutual
def GS.op:GS→GS
 | .mk k p m name ty args body els has=>.mk k p m name ty.op args (GS.ops body) (GS.ops els) has
def GS.ops:List GS→List GS
 | []=>[]
 | x::r=>x.op::GS.ops r
end
def GF.op (f:GF):GF:=⟨f.pos,f.name,f.params.map GP.op,f.has,f.result.op,GS.ops f.body⟩
def mS.op (t:mS):mS:=⟨t.ty.op,t.fixed⟩
section
variable {α β γ δ:Type}{g:α→β}{k:γ→δ}
end
section
variable {F:Kn}{N:Nm mS}
end
section
variable {F:Kn}{f:GF}
end
section
variable {F:Kn}
end
end
end Go.Proofs.YtlddmnojanpdoaaGreatDoor
