/-
  The texts WG.BB, WG.BC, WG.CB, WG.CC, WG.CD, WG.L11, WG.CE, WG.W3, one behind another. No conditions.
-/
import Derived.Test.YtlddmnojanpdoaaGreatDoorWg2
import Derived.Test.YtlddmnojanpdoaaGreatDoorSg1
import Derived.Test.YtlddmnojanpdoaaGreatDoorVt1
import Derived.Test.YtlddmnojanpdoaaGreatDoorRg1
import Derived.Test.YtlddmnojanpdoaaGreatDoorWgu1
set_option linter.unusedVariables false
set_option linter.unusedSimpArgs false
set_option linter.all false
open Bool renaming and_eq_true → ad0
open List renaming cons_append → ae8, length_cons → ab0, length_nil → ab3, map_cons → af7
open Nat renaming add_zero → al5, le_refl → ac8
namespace Go.Proofs.YtlddmnojanpdoaaGreatDoor
section
open Go Hk
def Ty.CG (t:Ty):GT:=⟨t.elem,t.len,t.label⟩
mutual
def XE.CG:XE→GE
 | .mk k p n name args=>.mk k p n name (XE.yO args)
def XE.yO:List XE→List GE
 | []=>[]
 | x::r=>x.CG::XE.yO r
end
mutual
def XS.CG:XS→GS
 | .mk k p m name ty args body els has=>.mk k p m name ty.CG (XE.yO args) (XS.yO body) (XS.yO els) has
def XS.yO:List XS→List GS
 | []=>[]
 | x::r=>x.CG::XS.yO r
end
def XP.CG (p:XP):GP:=⟨p.pos,p.name,p.ty.CG,p.out⟩
def XF.CG (f:XF):GF:=⟨f.pos,f.name,f.params.map XP.CG,f.has,f.result.CG,XS.yO f.body⟩
def eW (x:XE):Nat:=wE x.CG+4
def sW (x:XS):Nat:=wS x.CG+4
def pW (p:XP):Nat:=wP p.CG+4
def fW (f:XF):Nat:=wF f.CG
def lw {α:Type}(w:α→Nat):List α→Nat
 | []=>0
 | x::r=>w x+lw w r
theorem Ds {α:Type}{w:α→Nat}:∀{l:List α}{x:α},lw w (l++[x])=lw w l+w x
 | [],x=>by simp [lw]
 | y::r,x=>by simp only [ae8,lw,Ds (l:=r)]; omega
theorem V3 {α:Type}{w:α→Nat}:∀{l m:List α},lw w (l++m)=lw w l+lw w m
 | [],m=>by simp [lw]
 | y::r,m=>by simp only [ae8,lw,V3 (l:=r)]; omega
theorem QI:∀l:List XE,Dg (XE.yO l)=lw eW l
 | []=>rfl
 | x::r=>by simp only [XE.yO,Dg,lw,eW,QI r]
theorem QJ:∀l:List XS,DV (XS.yO l)=lw sW l
 | []=>rfl
 | x::r=>by simp only [XS.yO,DV,lw,sW,QJ r]
theorem XD:∀l:List XP,R1 (l.map XP.CG)=lw pW l
 | []=>rfl
 | x::r=>by simp only [af7,R1,lw,pW,XD r]
theorem XC:∀l:List XF,HD (l.map XF.CG)=lw fW l
 | []=>rfl
 | x::r=>by simp only [af7,HD,lw,fW,XC r]
theorem DN {k p n:Nat}{name:List UInt8}{args:List XE}:eW (.mk k p n name args)=name.length+64+lw eW args:=by
 simp only [eW,XE.CG,wE,QI]; omega
theorem Fg {k p m:Nat}{name:List UInt8}{ty:Ty}{args:List XE}{b e:List XS}{has:Bool}:sW (.mk k p m name ty args b e has)=name.length+124+lw eW args+lw sW b+lw sW e:=by
 simp only [sW,XS.CG,wS,QI,QJ]; omega
section
variable (L:List Token)
def F6:Nat→Nat
 | 0=>0
 | a+1=>F6 a+(tk L a).text.length+200
def PA {α:Type}(x:PM α) (a c:Nat) (w:α→Nat):Prop:=∀d v a' d',x a d=.ok v a' d'→F6 L a+w v≤F6 L a'+c
def vT {α:Type}(x:PM α) (w:α→Nat):Prop:=∀a c,PA L x a c (fun v=>c+w v)
variable {L} {α β:Type}
theorem PA.bind {x:PM α}{f:α→PM β}{a c:Nat}{wx:α→Nat}{w:β→Nat}(hx:PA L x a c wx) (hf:∀v a1,PA L (f v) a1 (wx v) w):PA L (x >>= f) a c w:=by
 intro d v a' d' h
 simp only [mD,PM.bind] at h
 cases h1:x a d with
 | ok u a1 d1 =>
  rw [h1] at h
  have e1:=hx d u a1 d1 h1
  have e2:=hf u a1 d1 v a' d' h
  omega
 | bad e p a1 d1=>rw [h1] at h; cases h
theorem PA.pure {v:α}{a c:Nat}{w:α→Nat}(h:w v≤c):PA L (Pure.pure v:PM α) a c w:=by
 intro d u a' d' e
 simp only [wZ,Out.ok.injEq] at e
 obtain⟨rfl,rfl,_⟩:=e
 omega
theorem PA.fail {e a c:Nat}{w:α→Nat}:PA L (wB L e:PM α) a c w:=by intro d u a' d' h; cases h
theorem PA.ite {p:Prop} [Decidable p] {x y:PM α}{a c:Nat}{w:α→Nat}(hx:PA L x a c w) (hy:PA L y a c w):PA L (if p then x else y) a c w:=by
 split
 ·exact hx
 ·exact hy
theorem PA.here {f:Token→PM α}{a c:Nat}{w:α→Nat}(h:PA L (f (tk L a)) a c w):PA L (oF L >>= f) a c w:=fun d=>h d
theorem PA.next {f:Unit→PM α}{a c:Nat}{w:α→Nat}(h:PA L (f ()) (a+1) (c+(tk L a).text.length+200) w):PA L (wC >>= f) a c w:=by
 intro d v a' d' e
 have:=h d v a' d' e
 simp only [F6] at this
 omega
theorem PA.kind {k:Nat}{f:Token→PM α}{a c:Nat}{w:α→Nat}(h:PA L (f (tk L a)) (a+1) (c+(tk L a).text.length+200) w):PA L (qH L k >>= f) a c w:=by
 intro d v a' d' e
 simp only [mD,PM.bind,qH] at e
 split at e
 ·rename_i h1
  split at h1
  ·cases h1
   have:=h _ v a' d' e
   simp only [F6] at this
   omega
  ·cases h1
 ·cases e
theorem PA.le {x:PM α}{a c c':Nat}{w w':α→Nat}(h:PA L x a c w) (hc:c≤c') (hw:∀v,w' v≤w v):PA L x a c' w':=by
 intro d v a' d' e
 have:=h d v a' d' e
 have:=hw v
 omega
theorem O8 {s:List UInt8}:vT L (Eu L s) (fun _=>0):=by
 intro a c d v a' d' e; dsimp only; simp only [Eu,Out.ok.injEq] at e; obtain⟨_,rfl,_⟩:=e; omega
theorem au8:vT L pUp (fun _=>0):=by
 intro a c d v a' d' e; dsimp only; simp only [pUp,Out.ok.injEq] at e; obtain⟨_,rfl,_⟩:=e; omega
theorem AI {a:Nat}:F6 L a+200≤F6 L (a+1):=by simp only [F6]; omega
theorem y_ {s:List UInt8}:vT L (oW L s) (fun b=>if b then 200 else 0):=by
 intro a c d v a' d' e; dsimp only
 simp only [oW,Out.ok.injEq] at e
 obtain⟨rfl,rfl,_⟩:=e
 split
 ·have:=AI (L:=L) (a:=a); omega
 ·omega
theorem vU {s:List UInt8}:vT L (oA L s) (fun _=>200):=by
 intro a c d v a' d' e; dsimp only
 simp only [oA] at e
 split at e
 ·cases e; have:=AI (L:=L) (a:=a); omega
 ·cases e
theorem BU {k:Nat}:vT L (qH L k) (fun t=>t.text.length+200):=by
 intro a c d v a' d' e; dsimp only
 simp only [qH] at e
 split at e
 ·cases e; simp only [F6]; omega
 ·cases e
theorem Fv {s:List UInt8}:vT L (tH L s) (fun _=>200):=by
 intro a c d v a' d' e; dsimp only
 simp only [tH] at e
 split at e
 ·split at e
  ·cases e
  ·cases e; have:=AI (L:=L) (a:=a); omega
 ·cases e
theorem Fw {s:List UInt8}:vT L (tI L s) (fun _=>200):=by
 intro a c d v a' d' e; dsimp only
 simp only [tI] at e
 split at e
 ·cases e; have:=AI (L:=L) (a:=a); omega
 ·cases e
theorem Ls:vT L (rV L) (fun _=>200):=by
 intro a c d v a' d' e; dsimp only
 simp only [rV] at e
 split at e
 ·cases e; have:=AI (L:=L) (a:=a); omega
 ·split at e
  ·cases e; have:=AI (L:=L) (a:=a); omega
  ·cases e
theorem Nl {l:Nat}:vT L (qG L l) (fun _=>0):=by
 intro a c d v a' d' e; dsimp only
 simp only [qG] at e
 have:=AI (L:=L) (a:=a)
 split at e
 ·cases e; omega
 ·split at e
  ·cases e; omega
  ·cases e
theorem UA:vT L (xM L) (fun _=>0):=fun a c =>
 (vU a c).bind fun _ a1=>PA.here (PA.ite PA.fail ((BU a1 _).bind fun _ a2=>(vU a2 _).bind fun _ a3=>PA.pure (by(try dsimp only); omega)))
theorem QV {l:Nat}:vT L (uP L l) (fun _=>0):=fun a c =>
 (y_ a c).bind fun b a1=>PA.ite ((UA a1 _).bind fun _ a2=>PA.pure (by(try dsimp only); omega)) ((Nl a1 _).bind fun t a2=>PA.ite ((O8 a2 _).bind fun _ a3=>PA.ite ((UA a3 _).bind fun _ a4=>PA.pure (by(try dsimp only); omega)) (PA.pure (by(try dsimp only); omega))) (PA.pure (by(try dsimp only); omega)))
theorem YL:vT L (uE L) pW:=fun a c =>
 (y_ a c).bind fun _ a1=>(Ls a1 _).bind fun _ a2=>(BU a2 _).bind fun t a3=>(vU a3 _).bind fun _ a4=>(QV a4 _).bind fun _ a5=>PA.pure (by(try dsimp only); simp only [pW,wP,XP.CG]; omega)
theorem UB {one:PM α}{w:α→Nat}(h:vT L one w):∀(n:Nat) (l:List α) (a c:Nat),PA L (wJ L one n l) a (c+lw w l) (fun l'=>c+lw w l')
 | 0,_,_,_=>PA.fail
 | n+1,l,a,c=>(h a _).bind fun x a1=>(y_ a1 _).bind fun b a2=>PA.ite
   (by
    have:=UB h n (l++[x]) a2 c
    refine this.le ?_ fun _=>ac8 _
    rw [Ds]; omega)
   (PA.pure (by(try dsimp only); rw [Ds]; omega))
theorem Uz {one:PM α}{w:α→Nat}{s:List UInt8}(h:vT L one w):vT L (xL L s one) (lw w):=fun a c =>
 (O8 a c).bind fun _ a1=>PA.ite (PA.pure (by(try dsimp only); simp only [lw]; omega)) (by
  have:=UB h 131073 [] a1 c
  simp only [lw,al5] at this
  exact this.le (by(try dsimp only); omega) fun _=>ac8 _)
section
variable {ex un:PM XE}(he:vT L ex eW)
include he
theorem QU:vT L (uD L ex) (lw eW):=fun a c =>
 (Fv a c).bind fun _ a1=>(he a1 _).bind fun x a2=>(Fw a2 _).bind fun _ a3=>PA.pure (by(try dsimp only); simp only [lw]; omega)
theorem Uw {t:Token}{a c:Nat}:PA L (zN L ex t) a (c+t.text.length) (fun x=>c+eW x) :=
 (Fv a _).bind fun _ a1=>(Uz he a1 _).bind fun l a2=>(Fw a2 _).bind fun _ a3=>PA.pure (by(try dsimp only); rw [DN]; omega)
theorem Uv:∀(n:Nat) (b:Bool) (l:List XE) (a c:Nat),PA L (tG L ex n b l) a (c+lw eW l) (fun l'=>c+lw eW l')
 | 0,_,_,_,_=>PA.pure (ac8 _)
 | n+1,b,l,a,c=>by
  have h1:∀(u:Unit) (a1:Nat) (c1:Nat),c+lw eW l≤c1→PA L (do let x ←ex; tG L ex n false (l++[x]):PM (List XE)) a1 c1 (fun l'=>c+lw eW l'):=fun _ a1 c1 hc=>by
   have h2:PA L (do let x ←ex; tG L ex n false (l++[x]):PM (List XE)) a1 (c+lw eW l) (fun l'=>c+lw eW l'):=(he a1 _).bind fun x a2=>by
    have:=Uv n false (l++[x]) a2 c
    refine this.le ?_ fun _=>ac8 _
    rw [Ds]; omega
   exact h2.le hc fun _=>ac8 _
  cases b
  ·exact(vU a _).bind fun u a1=>h1 u a1 _ (by(try dsimp only); omega)
  ·exact PA.bind (x:=(Pure.pure PUnit.unit:PM PUnit)) (wx:=fun _=>c+lw eW l) (PA.pure (ac8 _)) fun u a1=>h1 u a1 _ (ac8 _)
theorem H0 {kind many:Nat}{number:Bool}:vT L (vQ L ex kind many number) eW:=fun a c =>
 PA.here (PA.next ((Fv _ _).bind fun _ a1=>by
  have h:=Uv he many true [] a1 (c+200)
  simp only [lw,al5] at h
  refine PA.bind (h.le (by(try dsimp only); omega) fun _=>ac8 _) fun l a2=>PA.ite
   ((vU a2 _).bind fun _ a3=>(BU a3 _).bind fun _ a4=>(Fw a4 _).bind fun _ a5=>PA.pure (by(try dsimp only); rw [DN]; simp; omega))
   ((Fw a2 _).bind fun _ a3=>PA.pure (by(try dsimp only); rw [DN]; simp; omega))))
theorem Si:vT L (qE L ex) eW:=fun a c =>
 PA.here (PA.ite (PA.next (PA.pure (by(try dsimp only); rw [DN]; simp [lw]; omega)))
  (PA.ite ((Fv a c).bind fun _ a1=>(he a1 _).bind fun x a2=>(Fw a2 _).bind fun _ a3=>PA.pure (by(try dsimp only); omega))
  (PA.ite (H0 he a c) (PA.ite (H0 he a c) (PA.ite (H0 he a c) (PA.ite (H0 he a c) (PA.ite (H0 he a c)
  (PA.kind ((O8 _ _).bind fun _ a1=>PA.ite
   ((Uw he (c:=c)).le (by(try dsimp only); omega) fun _=>ac8 _)
   ((O8 a1 _).bind fun _ a2=>PA.ite ((QU he a2 _).bind fun l a3=>PA.pure (by(try dsimp only); rw [DN]; omega)) (PA.pure (by(try dsimp only); rw [DN]; simp only [lw]; omega))))))))))))
variable (hu:vT L un eW)
include hu
theorem YM:vT L (yG L ex un) eW:=by
 have hs:∀kind a c,PA L (AG L un kind) a c (fun x=>c+eW x):=fun kind a c=>PA.here ((Fv a c).bind fun _ a1=>(hu a1 _).bind fun x a2=>(au8 a2 _).bind fun _ a3=>PA.pure (by(try dsimp only); rw [DN]; simp only [lw,ab3]; omega))
 exact fun a c=>PA.here (PA.ite (hs _ a c) (PA.ite (hs _ a c) (PA.ite (hs _ a c) (Si he a c))))
end
theorem O9 {next:PM XE}(hn:vT L next eW) (k:Nat):∀(n:Nat) (x:XE) (a c:Nat),PA L (sQ L next k n x) a (c+eW x) (fun y=>c+eW y)
 | 0,_,_,_=>PA.fail
 | n+1,x,a,c=>PA.here (by
   cases h:pM (tk L a) k with
   | none=>exact PA.pure (ac8 _)
   | some kind =>
    refine PA.next (PA.ite ((BU _ _).bind fun t a1=>?_) ((hn _ _).bind fun y a1=>?_))
    ·exact(O9 hn k n _ a1 c).le (by(try dsimp only); rw [DN]; simp only [lw,ab3]; omega) fun _=>ac8 _
    ·exact(O9 hn k n _ a1 c).le (by(try dsimp only); rw [DN]; simp only [lw,ab3]; omega) fun _=>ac8 _)
theorem He {un:PM XE}(hu:vT L un eW):∀j,vT L (oP L un j) eW
 | 0=>hu
 | j+1=>fun a c=>(He hu j a c).bind fun x a1=>O9 (He hu j) (6 - j) 131073 x a1 c
theorem Uy {un:PM XE}(hu:vT L un eW):vT L (A9 L un) eW:=fun a c =>
 (He hu 6 a c).bind fun x a1=>PA.here (by
  cases h:pM (tk L a1) 0 with
  | none=>exact PA.pure (ac8 _)
  | some kind=>exact PA.next ((He hu 6 _ _).bind fun y a2=>PA.pure (by(try dsimp only); rw [DN]; simp only [lw,ab3]; omega)))
theorem afW:∀n,vT L (Dz L n) eW
 | 0=>fun _ _=>PA.fail
 | n+1=>YM (Uy (afW n)) (afW n)
theorem Ux (n:Nat):vT L (AF L n) eW:=Uy (afW n)
theorem QS (n:Nat):vT L (AU L n) (lw eW):=fun a c=>(Ux n a c).bind fun x a1=>(vU a1 _).bind fun _ a2=>PA.pure (by(try dsimp only); simp only [lw]; omega)
theorem YK (n pos:Nat):vT L (o_ L n pos) sW:=fun a c =>
 PA.kind ((O8 _ _).bind fun _ a1=>PA.ite
  (((Uw (Ux (n - 1)) (c:=c+200)).le (by(try dsimp only); omega) fun _=>ac8 _).bind fun x a2=>(vU a2 _).bind fun _ a3=>PA.pure (by(try dsimp only); rw [Fg]; simp only [lw,ab3]; omega))
  ((O8 a1 _).bind fun _ a2=>PA.ite
   ((QU (Ux (n - 1)) a2 _).bind fun i a3=>(vU a3 _).bind fun _ a4=>(QS n a4 _).bind fun l a5=>PA.pure (by(try dsimp only); rw [Fg,V3]; simp only [lw]; omega))
   ((vU a2 _).bind fun _ a3=>(QS n a3 _).bind fun l a4=>PA.pure (by(try dsimp only); rw [Fg]; simp only [lw]; omega))))
theorem afV {block:PM (List XS)}(hb:vT L block (lw sW)) (n:Nat):vT L (tS L block n) sW:=fun a c =>
 PA.here ((y_ a c).bind fun _ a1=>PA.ite
  ((BU a1 _).bind fun t a2=>(vU a2 _).bind fun _ a3=>(QS n a3 _).bind fun l a4=>PA.pure (by(try dsimp only); rw [Fg]; simp only [lw]; omega))
  ((y_ a1 _).bind fun _ a2=>PA.ite
   ((Ls a2 _).bind fun _ a3=>(BU a3 _).bind fun t a4=>(vU a4 _).bind fun _ a5=>(QV a5 _).bind fun ty a6=>(vU a6 _).bind fun _ a7=>PA.pure (by(try dsimp only); rw [Fg]; simp only [lw]; omega))
   ((y_ a2 _).bind fun b a3=>by
    cases b
    ·exact(y_ a3 _).bind fun _ a4=>PA.ite
      ((BU a4 _).bind fun t a5=>(vU a5 _).bind fun _ a6=>(Ux n a6 _).bind fun x a7=>(vU a7 _).bind fun _ a8=>(BU a8 _).bind fun m a9=>(hb a9 _).bind fun bl a10=>PA.pure (by(try dsimp only); rw [Fg]; simp only [lw]; omega))
      ((y_ a4 _).bind fun b a5=>by
       cases b
       ·exact(YK n _ a5 c).le (by(try dsimp only); omega) fun _=>ac8 _
       ·exact(QS n a5 _).bind fun l a6=>PA.pure (by(try dsimp only); rw [Fg]; simp only [lw,ab3,if_true]; omega))
    ·exact(Ux n a3 _).bind fun x a4=>(hb a4 _).bind fun bl a5=>(y_ a5 _).bind fun _ a6=>PA.ite
      ((hb a6 _).bind fun e a7=>PA.pure (by(try dsimp only); rw [Fg]; simp only [lw,ab3,if_true]; omega))
      (PA.pure (by(try dsimp only); rw [Fg]; simp only [lw,ab3,if_true]; omega)))))
theorem QW {stmt:PM XS}(hs:vT L stmt sW):∀(m:Nat) (l:List XS) (a c:Nat),PA L (vK L stmt m l) a (c+lw sW l) (fun l'=>c+lw sW l')
 | 0,_,_,_=>PA.fail
 | m+1,l,a,c=>(O8 a _).bind fun _ a1=>PA.ite (PA.pure (by(try dsimp only); omega)) ((hs a1 _).bind fun x a2=>(QW hs m (l++[x]) a2 c).le (by(try dsimp only); rw [Ds]; omega) fun _=>ac8 _)
theorem Lr:∀n,vT L (rN L n) (lw sW)
 | 0=>fun _ _=>PA.fail
 | n+1=>fun a c=>(Fv a c).bind fun _ a1=>by
   have h:=QW (afV (Lr n) n) 131073 [] a1 c
   simp only [lw,al5] at h
   exact(h.le (by(try dsimp only); omega) fun _=>ac8 _).bind fun l a2=>(Fw a2 _).bind fun _ a3=>PA.pure (by(try dsimp only); omega)
theorem ad7 {p:Nat}{name:List UInt8}{ps:List XP}{has:Bool}{ty:Ty}{b:List XS}:fW ⟨p,name,ps,has,ty,b⟩=name.length+120+lw pW ps+lw sW b:=by
 simp only [fW,XF.CG,wF,XD,QJ]
theorem afU:vT L (wI L) fW:=fun a c =>
 (vU a c).bind fun _ a1=>(BU a1 _).bind fun t a2=>(vU a2 _).bind fun _ a3=>(Uz YL a3 _).bind fun ps a4=>(vU a4 _).bind fun _ a5=>(y_ a5 _).bind fun _ a6=>PA.ite
  ((Ls a6 _).bind fun _ a7=>(Nl a7 _).bind fun ty a8=>(Lr 65 a8 _).bind fun b a9=>PA.pure (by(try dsimp only); rw [ad7]; omega))
  ((Lr 65 a6 _).bind fun b a7=>PA.pure (by(try dsimp only); rw [ad7]; omega))
theorem QT:∀(m:Nat) (l:List XF) (a c:Nat),PA L (pI L m l) a (c+lw fW l) (fun l'=>c+lw fW l')
 | 0,_,_,_=>PA.fail
 | m+1,l,a,c=>PA.here (PA.ite (PA.pure (ac8 _)) ((afU a _).bind fun f a1=>(QT m (l++[f]) a1 c).le (by(try dsimp only); rw [Ds]; omega) fun _=>ac8 _))
end
end
section
open Go Hk
section
variable {L:List Token}{α β:Type}
def PR (x:PM α) (Q:α→Prop):Prop:=∀a d v a' d',x a d=.ok v a' d'→Q v
theorem PR.bind {x:PM α}{f:α→PM β}{Q:α→Prop}{S:β→Prop}(hx:PR x Q) (hf:∀v,Q v→PR (f v) S):PR (x >>= f) S:=by
 intro a d v a' d' h
 simp only [mD,PM.bind] at h
 cases h1:x a d with
 | ok u a1 d1 =>
  rw [h1] at h
  exact hf u (hx a d u a1 d1 h1) a1 d1 v a' d' h
 | bad e p a1 d1=>rw [h1] at h; cases h
theorem PR.any {x:PM α}{f:α→PM β}{S:β→Prop}(hf:∀v,PR (f v) S):PR (x >>= f) S:=PR.bind (Q:=fun _=>True) (fun _ _ _ _ _ _=>trivial) fun v _=>hf v
theorem PR.pure {v:α}{Q:α→Prop}(h:Q v):PR (Pure.pure v:PM α) Q:=by
 intro a d u a' d' e
 simp only [wZ,Out.ok.injEq] at e
 obtain⟨rfl,_,_⟩:=e
 exact h
theorem PR.fail {e:Nat}{Q:α→Prop}:PR (wB L e:PM α) Q:=by intro a d u a' d' h; cases h
theorem PR.ite {p:Prop} [Decidable p] {x y:PM α}{Q:α→Prop}(hx:PR x Q) (hy:PR y Q):PR (if p then x else y) Q:=by
 split
 ·exact hx
 ·exact hy
theorem Q5:∀{l m:List GS},EL (l++m)=max (EL l) (EL m)
 | [],m=>by simp [EL]
 | x::r,m=>by simp only [ae8,EL,Q5 (l:=r)]; omega
theorem OX:∀{l m:List XS},XS.yO (l++m)=XS.yO l++XS.yO m
 | [],m=>rfl
 | x::r,m=>by simp only [ae8,XS.yO,OX (l:=r)]
def DB (n:Nat) (l:List XS):Prop:=EL (XS.yO l)≤n
def DS (n:Nat) (x:XS):Prop:=dS x.CG≤n+1
theorem LQ {n k p m:Nat}{name:List UInt8}{ty:Ty}{args:List XE}{b e:List XS}{has:Bool}(h1:DB n b) (h2:DB n e):DS n (.mk k p m name ty args b e has):=by
 unfold DS DB at *
 simp only [XS.CG,dS]
 omega
theorem Ay {n:Nat}:DB n []:=by simp [DB,XS.yO,EL]
theorem ahD {block:PM (List XS)}{n:Nat}(hb:PR block (DB n)) (k:Nat):PR (tS L block k) (DS n):=by
 have nn:PR (o_ L k 0) (DS n)∧∀p,PR (o_ L k p) (DS n):=by
  have:∀p,PR (o_ L k p) (DS n):=fun p=>PR.any fun _=>PR.any fun _=>PR.ite (PR.any fun _=>PR.any fun _=>PR.pure (LQ Ay Ay)) (PR.any fun _=>PR.ite (PR.any fun _=>PR.any fun _=>PR.any fun _=>PR.pure (LQ Ay Ay)) (PR.any fun _=>PR.any fun _=>PR.pure (LQ Ay Ay)))
  exact⟨this 0,this⟩
 exact PR.any fun t=>PR.any fun _=>PR.ite
  (PR.any fun _=>PR.any fun _=>PR.any fun _=>PR.pure (LQ Ay Ay))
  (PR.any fun _=>PR.ite
   (PR.any fun _=>PR.any fun _=>PR.any fun _=>PR.any fun _=>PR.any fun _=>PR.pure (LQ Ay Ay))
   (PR.any fun _=>PR.ite
    (PR.any fun _=>hb.bind fun b h1=>PR.any fun _=>PR.ite (hb.bind fun e h2=>PR.pure (LQ h1 h2)) (PR.pure (LQ h1 Ay)))
    (PR.any fun _=>PR.ite
     (PR.any fun _=>PR.any fun _=>PR.any fun _=>PR.any fun _=>PR.any fun _=>hb.bind fun b h1=>PR.pure (LQ h1 Ay))
     (PR.any fun _=>PR.ite (PR.any fun _=>PR.pure (LQ Ay Ay)) (nn.2 _)))))
theorem Q8 {stmt:PM XS}{n:Nat}(hs:PR stmt (DS n)):∀(m:Nat) (l:List XS),DB (n+1) l→PR (vK L stmt m l) (DB (n+1))
 | 0,_,_=>PR.fail
 | m+1,l,hl=>PR.any fun _=>PR.ite (PR.pure hl) (hs.bind fun x hx=>Q8 hs m _ (by
   unfold DB DS at *
   rw [OX,Q5]
   simp only [XS.yO,EL]
   omega))
theorem LP:∀n,PR (rN L n) (DB n)
 | 0=>PR.fail
 | n+1=>PR.any fun _=>(Q8 (ahD (LP n) n) 131073 [] Ay).bind fun l hl=>PR.any fun _=>PR.pure hl
theorem ahC:PR (wI L) (fun f=>DB 65 f.body) :=
 PR.any fun _=>PR.any fun _=>PR.any fun _=>PR.any fun _=>PR.any fun _=>PR.any fun _=>PR.ite
  (PR.any fun _=>PR.any fun _=>(LP 65).bind fun b hb=>PR.pure hb)
  ((LP 65).bind fun b hb=>PR.pure hb)
theorem Q7:∀(m:Nat) (l:List XF),(∀f∈l,DB 65 f.body)→PR (pI L m l) (fun l'=>∀f∈l',DB 65 f.body)
 | 0,_,_=>PR.fail
 | m+1,l,hl=>PR.any fun _=>PR.ite (PR.pure hl) (ahC.bind fun f hf=>Q7 m _ (by
   intro g hg
   rcases List.mem_append.1 hg with h | h
   ·exact hl g h
   ·simp at h; subst h; exact hf))
end
theorem WX {L:List Token}(h:∀x∈L,x.text.length≤65536):∀a,F6 L a≤a * 65736
 | 0=>by simp [F6]
 | a+1=>by
  have:=WX h a
  have h1:(tk L a).text.length≤65536:=by
   unfold tk
   cases hl:L[a]? with
   | none=>simp
   | some x=>exact h x (List.mem_of_getElem? hl)
  simp only [F6]
  omega
theorem Ot (s:List UInt8):HD ((oQ s).1.map XF.CG)≤4308140232∧∀f∈(oQ s).1,DB 65 f.body:=by
 by_cases he:(oQ s).2.1=0
 ·have hr:oQ s=((oQ s).1,0,(oQ s).2.2):=by rw [←he]
  obtain⟨l,h1,h2,a,d,h3⟩:=Jc hr
  have hlex:(oL s).2.1=0:=by rw [h1]
  have hlen:=CX s
  rw [h1] at hlen
  have hin:=Ma (L:=l++[⟨0,s.length,0,[]⟩]) BP 131073 [] 0 (by simp) 0
  rw [h3] at hin
  simp only [Out.idx] at hin
  have hpay:=QT (L:=l++[⟨0,s.length,0,[]⟩]) 131073 [] 0 0 0 _ a d h3
  have hx:∀x∈l++[(⟨0,s.length,0,[]⟩:Token)],x.text.length≤65536:=by
   intro x hx
   rcases List.mem_append.1 hx with h | h
   ·obtain⟨l',e1,e2,_⟩:=Dr hlex
    rw [h1] at e1
    simp only [Prod.mk.injEq,and_true] at e1
    have:l=l':=by
     have:=congrArg List.dropLast e1
     simpa using this
    subst this
    exact(e2 x h).2.1.2.2.1
   ·simp at h; subst h; simp
  have hle:=WX hx a
  rw [XC]
  simp only [lw,F6,Nat.zero_add,al5] at hpay
  refine⟨by simp only at hlen; omega,?_⟩
  exact Q7 131073 [] (by simp) 0 0 _ a d h3
 ·rw [TH s he]
  simp [HD]
end
section
open Go Hk
section loop
variable {R:List (List kH)}{c:sI}{f:GF}
end loop
section mid
variable {R:List (List kH)}{c:sI}{f:GF}
end mid
end
section
open Go Hk
mutual
theorem XE.FI:∀x:XE,x.cells=x.CG.cells
 | .mk k p n name args=>by simp only [XE.cells,XE.CG,GE.cells,XE.GV args]
theorem XE.GV:∀l:List XE,XE.rows l=GE.rows (XE.yO l)
 | []=>rfl
 | x::r=>by simp only [XE.rows,XE.yO,GE.rows,XE.FI x,XE.GV r]
end
theorem XE.WC (l:List XE):l.map XE.cells=(XE.yO l).map GE.cells:=by rw [←XE.oK,←GE.oK,XE.GV]
mutual
theorem XS.FI:∀x:XS,x.cells=x.CG.cells
 | .mk k p m name ty args body els has=>by simp only [XS.cells,XS.CG,GS.cells,XS.GV body,XS.GV els,XE.WC args,Ty.CG]
theorem XS.GV:∀l:List XS,XS.rows l=GS.rows (XS.yO l)
 | []=>rfl
 | x::r=>by simp only [XS.rows,XS.yO,GS.rows,XS.FI x,XS.GV r]
end
theorem XS.WC (l:List XS):l.map XS.cells=(XS.yO l).map GS.cells:=by rw [←XS.oK,←GS.oK,XS.GV]
theorem XF.FI (f:XF):f.cells=f.CG.cells:=by
 simp only [XF.cells,XF.CG,GF.cells,XS.WC,List.map_map,Ty.CG]
 rfl
theorem XF.WC (l:List XF):l.map XF.cells=(l.map XF.CG).map GF.cells:=by
 rw [List.map_map]; exact List.map_congr_left fun f _=>XF.FI f
mutual
theorem RV:∀x:GE,x.size≤wE x
 | .mk _ _ _ name args=>by have:=Jv args; simp only [GE.size,wE]; omega
theorem Jv:∀l:List GE,GE.oC l≤Dg l
 | []=>by simp [GE.oC,Dg]
 | x::r=>by have:=RV x; have:=Jv r; simp only [GE.oC,Dg]; omega
end
mutual
theorem acK:∀x:GS,x.size≤wS x
 | .mk _ _ _ name _ args body els _=>by have:=Jv args; have:=Da body; have:=Da els; simp only [GS.size,wS]; omega
theorem Da:∀l:List GS,GS.oC l≤DV l
 | []=>by simp [GS.oC,DV]
 | x::r=>by have:=acK x; have:=Da r; simp only [GS.oC,DV]; omega
end
theorem HC:∀l:List GE,l.length * 64≤Dg l
 | []=>by simp
 | x::r=>by
  have:=HC r
  have:60≤wE x:=by cases x; simp only [wE]; omega
  simp only [Dg,ab0]; omega
theorem HH:∀l:List GP,l.length * 64≤R1 l
 | []=>by simp
 | x::r=>by
  have:=HH r
  have:60≤wP x:=by simp only [wP]; omega
  simp only [R1,ab0]; omega
theorem HF:∀l:List GF,l.length * 120≤HD l
 | []=>by simp
 | x::r=>by
  have:=HF r
  have:120≤wF x:=by simp only [wF]; omega
  simp only [HD,ab0]; omega
theorem HG {f:GF}:∀{l:List GF},f∈l→wF f≤HD l
 | y::r,h=>by
  simp only [HD]
  cases h with
  | head=>omega
  | tail _ h=>have:=HG h; omega
theorem U1 (x:GE) (c:sI):wE (G_ x c)≤wE x+c.name.length+64:=by
 obtain⟨k,p,n,name,args⟩:=x
 simp only [G_]
 split
 ·simp only [wE]; omega
 split
 ·simp only [wE]; omega
 split
 ·simp only [wE]; omega
 split
 ·simp only [wE,Dg,MA,ab3]; omega
 split
 ·simp only [wE,Dg]; omega
 ·simp only [wE]; omega
theorem Ek {s:List UInt8}(h:65536 < s.length):rP s=false:=by
 unfold rP oL
 rw [if_pos h]
theorem GM {s:List UInt8}(h:65536 < s.length) (b:Bool):lG s b=false:=by
 unfold lG
 cases b with
 | true=>simp [Ek h]
 | false =>
  have:s≠[]:=by rintro rfl; simp at h
  simpa using this
def sI.short (c:sI):sI:={ c with name:=[] }
theorem qP (c:sI):c.short.field=c.field:=(rfl)
theorem sU (c:sI):c.short.num=c.num:=(rfl)
theorem uG (c:sI):c.short.at_=c.at_:=(rfl)
theorem NI {x:GE}{c:sI}(h:65536 < c.name.length) (hw:nZ (G_ x c)=true):G_ x c=G_ x c.short:=by
 obtain⟨k,p,n,name,args⟩:=x
 by_cases h2:c.field=2
 ·have e:G_ (.mk k p n name args) c=.mk k p n c.name args:=by simp [G_,h2]
  rw [e] at hw
  simp only [nZ,zX,ad0] at hw
  have hn:=hw.1
  split at hn
  ·cases hn
  ·simp [GM h] at hn
 ·simp [G_,qP,sU,uG,h2]
theorem NJ (a:GE) (c:sI):(G_ a c).size≤a.size+1:=by
 obtain⟨k,p,n,name,args⟩:=a
 simp only [G_]
 split
 ·simp only [GE.size]; omega
 split
 ·simp only [GE.size]; omega
 split
 ·simp only [GE.size]; omega
 split
 ·simp only [GE.size,GE.oC,MA]; omega
 split
 ·simp only [GE.size,GE.oC]; omega
 ·simp only [GE.size]; omega
theorem ag9 (a:GE) (c:sI) (hw:nZ (G_ a c)=true):wE (G_ a c)≤wE a+65600:=by
 by_cases h:65536 < c.name.length
 ·rw [NI h hw]
  have:=U1 a c.short
  have e:c.short.name.length=0:=rfl
  omega
 ·have:=U1 a c
  omega
theorem ME {T:Nat}:∀{l:List GF},l.all q8=true→(∀f∈l,1+EL f.body≤T)→((l.map wX).flatten).length≤HD l * (T+1)∧qU (l.map yD)≤HD l
 | [],_,_=>by simp [qU]
 | f::r,h,hd=>by
  simp only [List.all_cons,ad0] at h
  have h1:=acR h.1 (hd f (by simp))
  have h2:=ME h.2 (fun g hg=>hd g (by simp [hg]))
  simp only [af7,List.flatten_cons,List.length_append,HD,qU,Nat.add_mul]
  omega
theorem Qi {l:List GF}(hw:HD l≤4400000000) (hd:∀f∈l,EL f.body≤67):(∀f∈l,f.size≤4611686018427387904)∧l.length≤4611686018427387904∧(l.all q8=true→(tC l l.length).length≤1099511627776)∧(l.all q8=true→sJ l l.length≤1000000000000000):=by
 have h0:=HF l
 refine⟨fun f hf=>?_,by omega,fun h=>?_,fun h=>?_⟩
 ·have h1:=HG hf
  have h2:=HH f.params
  have h3:=Da f.body
  unfold wF at h1
  unfold GF.size
  omega
 ·have:=(ME (T:=68) h (fun f hf=>by have:=hd f hf; omega)).1
  simp only [tC,List.take_length]
  omega
 ·have:=(ME (T:=68) h (fun f hf=>by have:=hd f hf; omega)).2
  simp only [sJ,List.take_length]
  omega
theorem Ap (s:List UInt8):HD ((oQ s).1.map XF.CG)≤4308140232∧∀f∈(oQ s).1.map XF.CG,EL f.body≤65:=by
 have h:=Ot s
 refine⟨h.1,fun f hf=>?_⟩
 obtain⟨x,hx,rfl⟩:=List.mem_map.1 hf
 exact h.2 x hx
def pG (s:List UInt8):List GF:=(oQ s).1.map XF.CG
theorem agQ (s:List UInt8) (h:kL):KK 12 [.str s] h=some (.ret (.tuple [.agg (nX (pG s)),.agg [.int .i64 ((oQ s).2.1:Int),.int .i64 ((oQ s).2.2:Int)]]),h):=by
 rw [c12,XF.WC]; rfl
theorem avV (s:List UInt8) (h:kL):KK 14 [.agg (nX (pG s))] h=some (.ret (.tuple [.str (y4 (pG s)).1,.int .i64 (y4 (pG s)).2]),h):=by
 obtain⟨h1,h2,h3,h4⟩:=Qi (l:=pG s) (by have:=(Ap s).1; unfold pG; omega) (fun f hf=>by have:=(Ap s).2 f hf; omega)
 exact c14 _ h1 h2 h3 h4 h
end
section
open Go Hk
theorem sI.ae1 (s:List UInt8) (c:sI):([kH.str s,.agg c.cells].all (kH.nO 0))=true:=by simp [sI.cells,kH.nO,kH.pT,qO]
end
section
open Go Hk
def Zi:List UInt8:=[102,110,32,102,40,41,123,120,61,40,49,43,40,50,42,121,41,41,59,125]
def ad4:List UInt8:=[102,110,32,102,40,41,32,123,10,32,120,32,61,32,49,32,43,32,50,32,42,32,121,59,10,125,10]
theorem ahK:y4 (pG Zi)=(ad4,0):=by kernel_rfl
theorem c11 (h:kL):KK 11 [] h=some (.ret (.bool true),h):=by
 refine lB rfl rfl (lA (aiI _ _) ?_)
 have e12:=agQ Zi
 have e14:=avV Zi
 rw [ahK] at e14
 simp only [nX,Zi,ad4] at e12 e14
 simp -implicitDefEqProofs [m11,lO,lC,e12,e14,putCells,kK]
end
section
open Go Hk
def MD:List UInt8:=[102,110,32,102,40,41,32,123,32,120,32,61,32]
def TW:List UInt8:=[59,32,125]
theorem c4 (s:List UInt8) (c:sI) (hs:s.length≤140737488355328) (h:kL):KK 4 [.str s,.agg c.cells] h=some (.ret (.bool true),h):=by
 refine lB rfl (sI.ae1 s c) (lA (aqI _ _ _ _) ?_)
 have e11:=c11
 have e12:=agQ (MD++s++TW)
 have hpo:=(Ap (MD++s++TW)).1
 have hcl:[kH.int .i64 c.at_,.int .i64 c.field,.int .i64 c.num,.str c.name]=c.cells:=rfl
 change HD (pG (MD++s++TW))≤_ at hpo
 have ha1:kR .add (.str [102,110,32,102,40,41,32,123,32,120,32,61,32]) (.str s)=some (.str (MD++s)):=by simp [MD]; omega
 have ha2:kR .add (.str (MD++s)) (.str [59,32,125])=some (.str (MD++s++TW)):=by simp [MD,TW]; omega
 generalize MD++s++TW=t at *
 generalize pG t=l at *
 generalize (oQ t).2.1=er at *
 generalize (oQ t).2.2=po at *
 simp only [nX] at e12
 have zz:∀n:Nat,((n:Int)+1=0)=False:=fun n=>eq_false (by omega)
 have ff:∀(l:List kH) (h:kL),kP (fun v h=>some (.ret,[v],h)) (fun _ _=>none) (.normal,[.bool true],h)=some (.ret,[.bool true],h):=fun _ _=>rfl
 by_cases he:er=0
 ·subst he
  match l,hpo with
  | [],_=>simp -implicitDefEqProofs [m4,lO,lC,sI.cells,ha1,ha2,e11,e12,putCells,kK,kP,kQ]
  | f::r,hpo =>
   obtain⟨fp,fn,fps,fh,fr,fb⟩:=f
   match fb,hpo with
   | [],_=>simp -implicitDefEqProofs [m4,lO,lC,sI.cells,ha1,ha2,e11,e12,putCells,kK,kP,kQ,GF.cells,n_,zz]
   | x::b,hpo =>
    obtain⟨k,p,m,name,ty,args,body,els,has⟩:=x
    match args,hpo with
    | [],_=>simp -implicitDefEqProofs [m4,lO,lC,sI.cells,ha1,ha2,e11,e12,putCells,kK,kP,kQ,GF.cells,GS.cells,n_,zz]
    | a::ar,hpo =>
     have hwa:wE a≤4308140232:=by simp only [HD,wF,DV,wS,Dg] at hpo; omega
     have hla:a.args.length≤1099511627776:=by
      obtain⟨_,_,_,_,as'⟩:=a
      have:=HC as'
      simp only [wE] at hwa
      simp only [GE.args]; omega
     have e16:=c16 a c hla
     have hwy:=ag9 a c
     have hsy:(G_ a c).size≤4611686018427387904:=by have:=RV a; have:=NJ a c; omega
     generalize G_ a c=y at e16 hwy hsy
     have e17:=c17 y hsy (fun h=>by have:=(Bb y h).1; have:=hwy h; unfold lX; omega) (fun h=>by have:=(Bb y h).2; have:=hwy h; unfold l9; omega)
     have e18:=av9 y hsy
     have e19:nZ y=true→Bi y:=fun h=>LL y h (by have:=(Bb y h).1; have:=hwy h; unfold lX; omega) (by have:=(Bb y h).2; have:=hwy h; unfold l9; omega)
     unfold Bi at e19
     unfold MF at e17
     clear hwy
     generalize nZ y=w at *
     generalize lX y=tx at *
     generalize l9 y=nx at *
     obtain⟨k',p',n',name',args'⟩:=a
     obtain⟨yk,yp,yn,ynm,ya⟩:=y
     simp only [GE.pK,sI.cells] at e16 e17 e18 e19
     cases w with
     | false =>
      simp -implicitDefEqProofs [m4,lO,lC,sI.cells,ha1,ha2,e11,e12,e16,e17,e18,putCells,kK,kP,kQ,GF.cells,GS.cells,GE.pK,n_,zz,Ak,w9,wQ,Hc,tP,kH.nO,kH.pT,qO]
     | true =>
      have e19:=e19 rfl
      by_cases hn:64 < nx
      ·have hn':(64:Int) < nx:=by omega
       simp -implicitDefEqProofs [m4,lO,lC,sI.cells,ha1,ha2,e11,e12,e16,e17,e18,e19,hn,hn',putCells,kK,kP,kQ,GF.cells,GS.cells,GE.pK,n_,zz,Ak,w9,wQ,Hc,tP,kH.nO,kH.pT,qO]
      ·have hn':¬(64:Int) < nx:=by omega
       simp -implicitDefEqProofs [m4,lO,lC,sI.cells,ha1,ha2,e11,e12,e16,e17,e18,e19,hn,hn',putCells,kK,kP,kQ,GF.cells,GS.cells,GE.pK,n_,zz,Ak,w9,wQ,Hc,tP,kH.nO,kH.pT,qO]
 ·simp -implicitDefEqProofs [m4,lO,lC,sI.cells,ha1,ha2,he,e11,e12,putCells,kK,kP,kQ]
end
section
open Go Hk
theorem aw2 (s:List UInt8) (c:sI) (hs:s.length≤140737488355328):Iv Tryz.prog mK 4 [.str s,.agg c.cells] []=some (.ret (.bool true),[]):=aeO rfl (c4 s c hs [])
end
end Go.Proofs.YtlddmnojanpdoaaGreatDoor
