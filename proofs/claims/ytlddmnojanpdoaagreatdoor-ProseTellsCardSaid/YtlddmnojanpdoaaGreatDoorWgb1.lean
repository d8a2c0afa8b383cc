/-
  The texts WG.BB, WG.BC, WG.CB, WG.CC, WG.CD, WG.L11, WG.CE, WG.W3, one behind another. No conditions.
-/
import Derived.Test.YtlddmnojanpdoaaGreatDoorWg2
import Derived.Test.YtlddmnojanpdoaaGreatDoorSg1
import Derived.Test.YtlddmnojanpdoaaGreatDoorVt1
import Derived.Test.YtlddmnojanpdoaaGreatDoorRg1
import Derived.Test.YtlddmnojanpdoaaGreatDoorWgu1
set_option linter.unusedVariables false
set_option linter.unusedSimpArgs false
set_option linter.all false
open Bool renaming and_eq_true → ad0
open List renaming cons_append → ae8, getElem?_eq_getElem → ab8, getElem?_eq_some_iff → aa8, length_cons → ab0, length_nil → ab3, length_take → ah6, map_cons → af7, map_nil → al1, mem_of_getElem? → ad2
open Nat renaming add_zero → al5, le_refl → ac8
open Option renaming bind_some → ae3
namespace Go.Proofs.YtlddmnojanpdoaaGreatDoor
section
open Go Hk
def Ty.CG (t:Ty):GT:=⟨t.elem,t.len,t.label⟩
mutual
def XE.CG:XE→GE
 | .mk k p n name args=>.mk k p n name (XE.yO args)
def XE.yO:List XE→List GE
 | []=>[]
 | x::r=>x.CG::XE.yO r
end
mutual
def XS.CG:XS→GS
 | .mk k p m name ty args body els has=>.mk k p m name ty.CG (XE.yO args) (XS.yO body) (XS.yO els) has
def XS.yO:List XS→List GS
 | []=>[]
 | x::r=>x.CG::XS.yO r
end
def XP.CG (p:XP):GP:=⟨p.pos,p.name,p.ty.CG,p.out⟩
def XF.CG (f:XF):GF:=⟨f.pos,f.name,f.params.map XP.CG,f.has,f.result.CG,XS.yO f.body⟩
def eW (x:XE):Nat:=wE x.CG+4
def sW (x:XS):Nat:=wS x.CG+4
def pW (p:XP):Nat:=wP p.CG+4
def fW (f:XF):Nat:=wF f.CG
def lw {α:Type}(w:α→Nat):List α→Nat
 | []=>0
 | x::r=>w x+lw w r
theorem Ds {α:Type}{w:α→Nat}:∀{l:List α}{x:α},lw w (l++[x])=lw w l+w x
 | [],x=>by simp [lw]
 | y::r,x=>by simp only [ae8,lw,Ds (l:=r)]; omega
theorem V3 {α:Type}{w:α→Nat}:∀{l m:List α},lw w (l++m)=lw w l+lw w m
 | [],m=>by simp [lw]
 | y::r,m=>by simp only [ae8,lw,V3 (l:=r)]; omega
theorem QI:∀l:List XE,Dg (XE.yO l)=lw eW l
 | []=>rfl
 | x::r=>by simp only [XE.yO,Dg,lw,eW,QI r]
theorem QJ:∀l:List XS,DV (XS.yO l)=lw sW l
 | []=>rfl
 | x::r=>by simp only [XS.yO,DV,lw,sW,QJ r]
theorem XD:∀l:List XP,R1 (l.map XP.CG)=lw pW l
 | []=>rfl
 | x::r=>by simp only [af7,R1,lw,pW,XD r]
theorem XC:∀l:List XF,HD (l.map XF.CG)=lw fW l
 | []=>rfl
 | x::r=>by simp only [af7,HD,lw,fW,XC r]
theorem DN {k p n:Nat}{name:List UInt8}{args:List XE}:eW (.mk k p n name args)=name.length+64+lw eW args:=by
 simp only [eW,XE.CG,wE,QI]; omega
theorem Fg {k p m:Nat}{name:List UInt8}{ty:Ty}{args:List XE}{b e:List XS}{has:Bool}:sW (.mk k p m name ty args b e has)=name.length+124+lw eW args+lw sW b+lw sW e:=by
 simp only [sW,XS.CG,wS,QI,QJ]; omega
section
variable (L:List Token)
def F6:Nat→Nat
 | 0=>0
 | a+1=>F6 a+(tk L a).text.length+200
def PA {α:Type}(x:PM α) (a c:Nat) (w:α→Nat):Prop:=∀d v a' d',x a d=.ok v a' d'→F6 L a+w v≤F6 L a'+c
def vT {α:Type}(x:PM α) (w:α→Nat):Prop:=∀a c,PA L x a c (fun v=>c+w v)
variable {L} {α β:Type}
theorem PA.bind {x:PM α}{f:α→PM β}{a c:Nat}{wx:α→Nat}{w:β→Nat}(hx:PA L x a c wx) (hf:∀v a1,PA L (f v) a1 (wx v) w):PA L (x >>= f) a c w:=by
 intro d v a' d' h
 simp only [mD,PM.bind] at h
 cases h1:x a d with
 | ok u a1 d1 =>
  rw [h1] at h
  have e1:=hx d u a1 d1 h1
  have e2:=hf u a1 d1 v a' d' h
  omega
 | bad e p a1 d1=>rw [h1] at h; cases h
theorem PA.pure {v:α}{a c:Nat}{w:α→Nat}(h:w v≤c):PA L (Pure.pure v:PM α) a c w:=by
 intro d u a' d' e
 simp only [wZ,Out.ok.injEq] at e
 obtain⟨rfl,rfl,_⟩:=e
 omega
theorem PA.fail {e a c:Nat}{w:α→Nat}:PA L (wB L e:PM α) a c w:=by intro d u a' d' h; cases h
theorem PA.ite {p:Prop} [Decidable p] {x y:PM α}{a c:Nat}{w:α→Nat}(hx:PA L x a c w) (hy:PA L y a c w):PA L (if p then x else y) a c w:=by
 split
 ·exact hx
 ·exact hy
theorem PA.here {f:Token→PM α}{a c:Nat}{w:α→Nat}(h:PA L (f (tk L a)) a c w):PA L (oF L >>= f) a c w:=fun d=>h d
theorem PA.next {f:Unit→PM α}{a c:Nat}{w:α→Nat}(h:PA L (f ()) (a+1) (c+(tk L a).text.length+200) w):PA L (wC >>= f) a c w:=by
 intro d v a' d' e
 have:=h d v a' d' e
 simp only [F6] at this
 omega
theorem PA.kind {k:Nat}{f:Token→PM α}{a c:Nat}{w:α→Nat}(h:PA L (f (tk L a)) (a+1) (c+(tk L a).text.length+200) w):PA L (qH L k >>= f) a c w:=by
 intro d v a' d' e
 simp only [mD,PM.bind,qH] at e
 split at e
 ·rename_i h1
  split at h1
  ·cases h1
   have:=h _ v a' d' e
   simp only [F6] at this
   omega
  ·cases h1
 ·cases e
theorem PA.le {x:PM α}{a c c':Nat}{w w':α→Nat}(h:PA L x a c w) (hc:c≤c') (hw:∀v,w' v≤w v):PA L x a c' w':=by
 intro d v a' d' e
 have:=h d v a' d' e
 have:=hw v
 omega
theorem O8 {s:List UInt8}:vT L (Eu L s) (fun _=>0):=by
 intro a c d v a' d' e; dsimp only; simp only [Eu,Out.ok.injEq] at e; obtain⟨_,rfl,_⟩:=e; omega
theorem au8:vT L pUp (fun _=>0):=by
 intro a c d v a' d' e; dsimp only; simp only [pUp,Out.ok.injEq] at e; obtain⟨_,rfl,_⟩:=e; omega
theorem AI {a:Nat}:F6 L a+200≤F6 L (a+1):=by simp only [F6]; omega
theorem y_ {s:List UInt8}:vT L (oW L s) (fun b=>if b then 200 else 0):=by
 intro a c d v a' d' e; dsimp only
 simp only [oW,Out.ok.injEq] at e
 obtain⟨rfl,rfl,_⟩:=e
 split
 ·have:=AI (L:=L) (a:=a); omega
 ·omega
theorem vU {s:List UInt8}:vT L (oA L s) (fun _=>200):=by
 intro a c d v a' d' e; dsimp only
 simp only [oA] at e
 split at e
 ·cases e; have:=AI (L:=L) (a:=a); omega
 ·cases e
theorem BU {k:Nat}:vT L (qH L k) (fun t=>t.text.length+200):=by
 intro a c d v a' d' e; dsimp only
 simp only [qH] at e
 split at e
 ·cases e; simp only [F6]; omega
 ·cases e
theorem Fv {s:List UInt8}:vT L (tH L s) (fun _=>200):=by
 intro a c d v a' d' e; dsimp only
 simp only [tH] at e
 split at e
 ·split at e
  ·cases e
  ·cases e; have:=AI (L:=L) (a:=a); omega
 ·cases e
theorem Fw {s:List UInt8}:vT L (tI L s) (fun _=>200):=by
 intro a c d v a' d' e; dsimp only
 simp only [tI] at e
 split at e
 ·cases e; have:=AI (L:=L) (a:=a); omega
 ·cases e
theorem Ls:vT L (rV L) (fun _=>200):=by
 intro a c d v a' d' e; dsimp only
 simp only [rV] at e
 split at e
 ·cases e; have:=AI (L:=L) (a:=a); omega
 ·split at e
  ·cases e; have:=AI (L:=L) (a:=a); omega
  ·cases e
theorem Nl {l:Nat}:vT L (qG L l) (fun _=>0):=by
 intro a c d v a' d' e; dsimp only
 simp only [qG] at e
 have:=AI (L:=L) (a:=a)
 split at e
 ·cases e; omega
 ·split at e
  ·cases e; omega
  ·cases e
theorem UA:vT L (xM L) (fun _=>0):=fun a c =>
 (vU a c).bind fun _ a1=>PA.here (PA.ite PA.fail ((BU a1 _).bind fun _ a2=>(vU a2 _).bind fun _ a3=>PA.pure (by(try dsimp only); omega)))
theorem QV {l:Nat}:vT L (uP L l) (fun _=>0):=fun a c =>
 (y_ a c).bind fun b a1=>PA.ite ((UA a1 _).bind fun _ a2=>PA.pure (by(try dsimp only); omega)) ((Nl a1 _).bind fun t a2=>PA.ite ((O8 a2 _).bind fun _ a3=>PA.ite ((UA a3 _).bind fun _ a4=>PA.pure (by(try dsimp only); omega)) (PA.pure (by(try dsimp only); omega))) (PA.pure (by(try dsimp only); omega)))
theorem YL:vT L (uE L) pW:=fun a c =>
 (y_ a c).bind fun _ a1=>(Ls a1 _).bind fun _ a2=>(BU a2 _).bind fun t a3=>(vU a3 _).bind fun _ a4=>(QV a4 _).bind fun _ a5=>PA.pure (by(try dsimp only); simp only [pW,wP,XP.CG]; omega)
theorem UB {one:PM α}{w:α→Nat}(h:vT L one w):∀(n:Nat) (l:List α) (a c:Nat),PA L (wJ L one n l) a (c+lw w l) (fun l'=>c+lw w l')
 | 0,_,_,_=>PA.fail
 | n+1,l,a,c=>(h a _).bind fun x a1=>(y_ a1 _).bind fun b a2=>PA.ite
   (by
    have:=UB h n (l++[x]) a2 c
    refine this.le ?_ fun _=>ac8 _
    rw [Ds]; omega)
   (PA.pure (by(try dsimp only); rw [Ds]; omega))
theorem Uz {one:PM α}{w:α→Nat}{s:List UInt8}(h:vT L one w):vT L (xL L s one) (lw w):=fun a c =>
 (O8 a c).bind fun _ a1=>PA.ite (PA.pure (by(try dsimp only); simp only [lw]; omega)) (by
  have:=UB h 131073 [] a1 c
  simp only [lw,al5] at this
  exact this.le (by(try dsimp only); omega) fun _=>ac8 _)
section
variable {ex un:PM XE}(he:vT L ex eW)
include he
theorem QU:vT L (uD L ex) (lw eW):=fun a c =>
 (Fv a c).bind fun _ a1=>(he a1 _).bind fun x a2=>(Fw a2 _).bind fun _ a3=>PA.pure (by(try dsimp only); simp only [lw]; omega)
theorem Uw {t:Token}{a c:Nat}:PA L (zN L ex t) a (c+t.text.length) (fun x=>c+eW x) :=
 (Fv a _).bind fun _ a1=>(Uz he a1 _).bind fun l a2=>(Fw a2 _).bind fun _ a3=>PA.pure (by(try dsimp only); rw [DN]; omega)
theorem Uv:∀(n:Nat) (b:Bool) (l:List XE) (a c:Nat),PA L (tG L ex n b l) a (c+lw eW l) (fun l'=>c+lw eW l')
 | 0,_,_,_,_=>PA.pure (ac8 _)
 | n+1,b,l,a,c=>by
  have h1:∀(u:Unit) (a1:Nat) (c1:Nat),c+lw eW l≤c1→PA L (do let x ←ex; tG L ex n false (l++[x]):PM (List XE)) a1 c1 (fun l'=>c+lw eW l'):=fun _ a1 c1 hc=>by
   have h2:PA L (do let x ←ex; tG L ex n false (l++[x]):PM (List XE)) a1 (c+lw eW l) (fun l'=>c+lw eW l'):=(he a1 _).bind fun x a2=>by
    have:=Uv n false (l++[x]) a2 c
    refine this.le ?_ fun _=>ac8 _
    rw [Ds]; omega
   exact h2.le hc fun _=>ac8 _
  cases b
  ·exact(vU a _).bind fun u a1=>h1 u a1 _ (by(try dsimp only); omega)
  ·exact PA.bind (x:=(Pure.pure PUnit.unit:PM PUnit)) (wx:=fun _=>c+lw eW l) (PA.pure (ac8 _)) fun u a1=>h1 u a1 _ (ac8 _)
theorem H0 {kind many:Nat}{number:Bool}:vT L (vQ L ex kind many number) eW:=fun a c =>
 PA.here (PA.next ((Fv _ _).bind fun _ a1=>by
  have h:=Uv he many true [] a1 (c+200)
  simp only [lw,al5] at h
  refine PA.bind (h.le (by(try dsimp only); omega) fun _=>ac8 _) fun l a2=>PA.ite
   ((vU a2 _).bind fun _ a3=>(BU a3 _).bind fun _ a4=>(Fw a4 _).bind fun _ a5=>PA.pure (by(try dsimp only); rw [DN]; simp; omega))
   ((Fw a2 _).bind fun _ a3=>PA.pure (by(try dsimp only); rw [DN]; simp; omega))))
theorem Si:vT L (qE L ex) eW:=fun a c =>
 PA.here (PA.ite (PA.next (PA.pure (by(try dsimp only); rw [DN]; simp [lw]; omega)))
  (PA.ite ((Fv a c).bind fun _ a1=>(he a1 _).bind fun x a2=>(Fw a2 _).bind fun _ a3=>PA.pure (by(try dsimp only); omega))
  (PA.ite (H0 he a c) (PA.ite (H0 he a c) (PA.ite (H0 he a c) (PA.ite (H0 he a c) (PA.ite (H0 he a c)
  (PA.kind ((O8 _ _).bind fun _ a1=>PA.ite
   ((Uw he (c:=c)).le (by(try dsimp only); omega) fun _=>ac8 _)
   ((O8 a1 _).bind fun _ a2=>PA.ite ((QU he a2 _).bind fun l a3=>PA.pure (by(try dsimp only); rw [DN]; omega)) (PA.pure (by(try dsimp only); rw [DN]; simp only [lw]; omega))))))))))))
variable (hu:vT L un eW)
include hu
theorem YM:vT L (yG L ex un) eW:=by
 have hs:∀kind a c,PA L (AG L un kind) a c (fun x=>c+eW x):=fun kind a c=>PA.here ((Fv a c).bind fun _ a1=>(hu a1 _).bind fun x a2=>(au8 a2 _).bind fun _ a3=>PA.pure (by(try dsimp only); rw [DN]; simp only [lw,ab3]; omega))
 exact fun a c=>PA.here (PA.ite (hs _ a c) (PA.ite (hs _ a c) (PA.ite (hs _ a c) (Si he a c))))
end
theorem O9 {next:PM XE}(hn:vT L next eW) (k:Nat):∀(n:Nat) (x:XE) (a c:Nat),PA L (sQ L next k n x) a (c+eW x) (fun y=>c+eW y)
 | 0,_,_,_=>PA.fail
 | n+1,x,a,c=>PA.here (by
   cases h:pM (tk L a) k with
   | none=>exact PA.pure (ac8 _)
   | some kind =>
    refine PA.next (PA.ite ((BU _ _).bind fun t a1=>?_) ((hn _ _).bind fun y a1=>?_))
    ·exact(O9 hn k n _ a1 c).le (by(try dsimp only); rw [DN]; simp only [lw,ab3]; omega) fun _=>ac8 _
    ·exact(O9 hn k n _ a1 c).le (by(try dsimp only); rw [DN]; simp only [lw,ab3]; omega) fun _=>ac8 _)
theorem He {un:PM XE}(hu:vT L un eW):∀j,vT L (oP L un j) eW
 | 0=>hu
 | j+1=>fun a c=>(He hu j a c).bind fun x a1=>O9 (He hu j) (6 - j) 131073 x a1 c
theorem Uy {un:PM XE}(hu:vT L un eW):vT L (A9 L un) eW:=fun a c =>
 (He hu 6 a c).bind fun x a1=>PA.here (by
  cases h:pM (tk L a1) 0 with
  | none=>exact PA.pure (ac8 _)
  | some kind=>exact PA.next ((He hu 6 _ _).bind fun y a2=>PA.pure (by(try dsimp only); rw [DN]; simp only [lw,ab3]; omega)))
theorem afW:∀n,vT L (Dz L n) eW
 | 0=>fun _ _=>PA.fail
 | n+1=>YM (Uy (afW n)) (afW n)
theorem Ux (n:Nat):vT L (AF L n) eW:=Uy (afW n)
theorem QS (n:Nat):vT L (AU L n) (lw eW):=fun a c=>(Ux n a c).bind fun x a1=>(vU a1 _).bind fun _ a2=>PA.pure (by(try dsimp only); simp only [lw]; omega)
theorem YK (n pos:Nat):vT L (o_ L n pos) sW:=fun a c =>
 PA.kind ((O8 _ _).bind fun _ a1=>PA.ite
  (((Uw (Ux (n - 1)) (c:=c+200)).le (by(try dsimp only); omega) fun _=>ac8 _).bind fun x a2=>(vU a2 _).bind fun _ a3=>PA.pure (by(try dsimp only); rw [Fg]; simp only [lw,ab3]; omega))
  ((O8 a1 _).bind fun _ a2=>PA.ite
   ((QU (Ux (n - 1)) a2 _).bind fun i a3=>(vU a3 _).bind fun _ a4=>(QS n a4 _).bind fun l a5=>PA.pure (by(try dsimp only); rw [Fg,V3]; simp only [lw]; omega))
   ((vU a2 _).bind fun _ a3=>(QS n a3 _).bind fun l a4=>PA.pure (by(try dsimp only); rw [Fg]; simp only [lw]; omega))))
theorem afV {block:PM (List XS)}(hb:vT L block (lw sW)) (n:Nat):vT L (tS L block n) sW:=fun a c =>
 PA.here ((y_ a c).bind fun _ a1=>PA.ite
  ((BU a1 _).bind fun t a2=>(vU a2 _).bind fun _ a3=>(QS n a3 _).bind fun l a4=>PA.pure (by(try dsimp only); rw [Fg]; simp only [lw]; omega))
  ((y_ a1 _).bind fun _ a2=>PA.ite
   ((Ls a2 _).bind fun _ a3=>(BU a3 _).bind fun t a4=>(vU a4 _).bind fun _ a5=>(QV a5 _).bind fun ty a6=>(vU a6 _).bind fun _ a7=>PA.pure (by(try dsimp only); rw [Fg]; simp only [lw]; omega))
   ((y_ a2 _).bind fun b a3=>by
    cases b
    ·exact(y_ a3 _).bind fun _ a4=>PA.ite
      ((BU a4 _).bind fun t a5=>(vU a5 _).bind fun _ a6=>(Ux n a6 _).bind fun x a7=>(vU a7 _).bind fun _ a8=>(BU a8 _).bind fun m a9=>(hb a9 _).bind fun bl a10=>PA.pure (by(try dsimp only); rw [Fg]; simp only [lw]; omega))
      ((y_ a4 _).bind fun b a5=>by
       cases b
       ·exact(YK n _ a5 c).le (by(try dsimp only); omega) fun _=>ac8 _
       ·exact(QS n a5 _).bind fun l a6=>PA.pure (by(try dsimp only); rw [Fg]; simp only [lw,ab3,if_true]; omega))
    ·exact(Ux n a3 _).bind fun x a4=>(hb a4 _).bind fun bl a5=>(y_ a5 _).bind fun _ a6=>PA.ite
      ((hb a6 _).bind fun e a7=>PA.pure (by(try dsimp only); rw [Fg]; simp only [lw,ab3,if_true]; omega))
      (PA.pure (by(try dsimp only); rw [Fg]; simp only [lw,ab3,if_true]; omega)))))
theorem QW {stmt:PM XS}(hs:vT L stmt sW):∀(m:Nat) (l:List XS) (a c:Nat),PA L (vK L stmt m l) a (c+lw sW l) (fun l'=>c+lw sW l')
 | 0,_,_,_=>PA.fail
 | m+1,l,a,c=>(O8 a _).bind fun _ a1=>PA.ite (PA.pure (by(try dsimp only); omega)) ((hs a1 _).bind fun x a2=>(QW hs m (l++[x]) a2 c).le (by(try dsimp only); rw [Ds]; omega) fun _=>ac8 _)
theorem Lr:∀n,vT L (rN L n) (lw sW)
 | 0=>fun _ _=>PA.fail
 | n+1=>fun a c=>(Fv a c).bind fun _ a1=>by
   have h:=QW (afV (Lr n) n) 131073 [] a1 c
   simp only [lw,al5] at h
   exact(h.le (by(try dsimp only); omega) fun _=>ac8 _).bind fun l a2=>(Fw a2 _).bind fun _ a3=>PA.pure (by(try dsimp only); omega)
theorem ad7 {p:Nat}{name:List UInt8}{ps:List XP}{has:Bool}{ty:Ty}{b:List XS}:fW ⟨p,name,ps,has,ty,b⟩=name.length+120+lw pW ps+lw sW b:=by
 simp only [fW,XF.CG,wF,XD,QJ]
theorem afU:vT L (wI L) fW:=fun a c =>
 (vU a c).bind fun _ a1=>(BU a1 _).bind fun t a2=>(vU a2 _).bind fun _ a3=>(Uz YL a3 _).bind fun ps a4=>(vU a4 _).bind fun _ a5=>(y_ a5 _).bind fun _ a6=>PA.ite
  ((Ls a6 _).bind fun _ a7=>(Nl a7 _).bind fun ty a8=>(Lr 65 a8 _).bind fun b a9=>PA.pure (by(try dsimp only); rw [ad7]; omega))
  ((Lr 65 a6 _).bind fun b a7=>PA.pure (by(try dsimp only); rw [ad7]; omega))
theorem QT:∀(m:Nat) (l:List XF) (a c:Nat),PA L (pI L m l) a (c+lw fW l) (fun l'=>c+lw fW l')
 | 0,_,_,_=>PA.fail
 | m+1,l,a,c=>PA.here (PA.ite (PA.pure (ac8 _)) ((afU a _).bind fun f a1=>(QT m (l++[f]) a1 c).le (by(try dsimp only); rw [Ds]; omega) fun _=>ac8 _))
end
end
section
open Go Hk
section
variable {L:List Token}{α β:Type}
def PR (x:PM α) (Q:α→Prop):Prop:=∀a d v a' d',x a d=.ok v a' d'→Q v
theorem PR.bind {x:PM α}{f:α→PM β}{Q:α→Prop}{S:β→Prop}(hx:PR x Q) (hf:∀v,Q v→PR (f v) S):PR (x >>= f) S:=by
 intro a d v a' d' h
 simp only [mD,PM.bind] at h
 cases h1:x a d with
 | ok u a1 d1 =>
  rw [h1] at h
  exact hf u (hx a d u a1 d1 h1) a1 d1 v a' d' h
 | bad e p a1 d1=>rw [h1] at h; cases h
theorem PR.any {x:PM α}{f:α→PM β}{S:β→Prop}(hf:∀v,PR (f v) S):PR (x >>= f) S:=PR.bind (Q:=fun _=>True) (fun _ _ _ _ _ _=>trivial) fun v _=>hf v
theorem PR.pure {v:α}{Q:α→Prop}(h:Q v):PR (Pure.pure v:PM α) Q:=by
 intro a d u a' d' e
 simp only [wZ,Out.ok.injEq] at e
 obtain⟨rfl,_,_⟩:=e
 exact h
theorem PR.fail {e:Nat}{Q:α→Prop}:PR (wB L e:PM α) Q:=by intro a d u a' d' h; cases h
theorem PR.ite {p:Prop} [Decidable p] {x y:PM α}{Q:α→Prop}(hx:PR x Q) (hy:PR y Q):PR (if p then x else y) Q:=by
 split
 ·exact hx
 ·exact hy
theorem Q5:∀{l m:List GS},EL (l++m)=max (EL l) (EL m)
 | [],m=>by simp [EL]
 | x::r,m=>by simp only [ae8,EL,Q5 (l:=r)]; omega
theorem OX:∀{l m:List XS},XS.yO (l++m)=XS.yO l++XS.yO m
 | [],m=>rfl
 | x::r,m=>by simp only [ae8,XS.yO,OX (l:=r)]
def DB (n:Nat) (l:List XS):Prop:=EL (XS.yO l)≤n
def DS (n:Nat) (x:XS):Prop:=dS x.CG≤n+1
theorem LQ {n k p m:Nat}{name:List UInt8}{ty:Ty}{args:List XE}{b e:List XS}{has:Bool}(h1:DB n b) (h2:DB n e):DS n (.mk k p m name ty args b e has):=by
 unfold DS DB at *
 simp only [XS.CG,dS]
 omega
theorem Ay {n:Nat}:DB n []:=by simp [DB,XS.yO,EL]
theorem ahD {block:PM (List XS)}{n:Nat}(hb:PR block (DB n)) (k:Nat):PR (tS L block k) (DS n):=by
 have nn:PR (o_ L k 0) (DS n)∧∀p,PR (o_ L k p) (DS n):=by
  have:∀p,PR (o_ L k p) (DS n):=fun p=>PR.any fun _=>PR.any fun _=>PR.ite (PR.any fun _=>PR.any fun _=>PR.pure (LQ Ay Ay)) (PR.any fun _=>PR.ite (PR.any fun _=>PR.any fun _=>PR.any fun _=>PR.pure (LQ Ay Ay)) (PR.any fun _=>PR.any fun _=>PR.pure (LQ Ay Ay)))
  exact⟨this 0,this⟩
 exact PR.any fun t=>PR.any fun _=>PR.ite
  (PR.any fun _=>PR.any fun _=>PR.any fun _=>PR.pure (LQ Ay Ay))
  (PR.any fun _=>PR.ite
   (PR.any fun _=>PR.any fun _=>PR.any fun _=>PR.any fun _=>PR.any fun _=>PR.pure (LQ Ay Ay))
   (PR.any fun _=>PR.ite
    (PR.any fun _=>hb.bind fun b h1=>PR.any fun _=>PR.ite (hb.bind fun e h2=>PR.pure (LQ h1 h2)) (PR.pure (LQ h1 Ay)))
    (PR.any fun _=>PR.ite
     (PR.any fun _=>PR.any fun _=>PR.any fun _=>PR.any fun _=>PR.any fun _=>hb.bind fun b h1=>PR.pure (LQ h1 Ay))
     (PR.any fun _=>PR.ite (PR.any fun _=>PR.pure (LQ Ay Ay)) (nn.2 _)))))
theorem Q8 {stmt:PM XS}{n:Nat}(hs:PR stmt (DS n)):∀(m:Nat) (l:List XS),DB (n+1) l→PR (vK L stmt m l) (DB (n+1))
 | 0,_,_=>PR.fail
 | m+1,l,hl=>PR.any fun _=>PR.ite (PR.pure hl) (hs.bind fun x hx=>Q8 hs m _ (by
   unfold DB DS at *
   rw [OX,Q5]
   simp only [XS.yO,EL]
   omega))
theorem LP:∀n,PR (rN L n) (DB n)
 | 0=>PR.fail
 | n+1=>PR.any fun _=>(Q8 (ahD (LP n) n) 131073 [] Ay).bind fun l hl=>PR.any fun _=>PR.pure hl
theorem ahC:PR (wI L) (fun f=>DB 65 f.body) :=
 PR.any fun _=>PR.any fun _=>PR.any fun _=>PR.any fun _=>PR.any fun _=>PR.any fun _=>PR.ite
  (PR.any fun _=>PR.any fun _=>(LP 65).bind fun b hb=>PR.pure hb)
  ((LP 65).bind fun b hb=>PR.pure hb)
theorem Q7:∀(m:Nat) (l:List XF),(∀f∈l,DB 65 f.body)→PR (pI L m l) (fun l'=>∀f∈l',DB 65 f.body)
 | 0,_,_=>PR.fail
 | m+1,l,hl=>PR.any fun _=>PR.ite (PR.pure hl) (ahC.bind fun f hf=>Q7 m _ (by
   intro g hg
   rcases List.mem_append.1 hg with h | h
   ·exact hl g h
   ·simp at h; subst h; exact hf))
end
theorem WX {L:List Token}(h:∀x∈L,x.text.length≤65536):∀a,F6 L a≤a * 65736
 | 0=>by simp [F6]
 | a+1=>by
  have:=WX h a
  have h1:(tk L a).text.length≤65536:=by
   unfold tk
   cases hl:L[a]? with
   | none=>simp
   | some x=>exact h x (ad2 hl)
  simp only [F6]
  omega
theorem Ot (s:List UInt8):HD ((oQ s).1.map XF.CG)≤4308140232∧∀f∈(oQ s).1,DB 65 f.body:=by
 by_cases he:(oQ s).2.1=0
 ·have hr:oQ s=((oQ s).1,0,(oQ s).2.2):=by rw [←he]
  obtain⟨l,h1,h2,a,d,h3⟩:=Jc hr
  have hlex:(oL s).2.1=0:=by rw [h1]
  have hlen:=CX s
  rw [h1] at hlen
  have hin:=Ma (L:=l++[⟨0,s.length,0,[]⟩]) BP 131073 [] 0 (by simp) 0
  rw [h3] at hin
  simp only [Out.idx] at hin
  have hpay:=QT (L:=l++[⟨0,s.length,0,[]⟩]) 131073 [] 0 0 0 _ a d h3
  have hx:∀x∈l++[(⟨0,s.length,0,[]⟩:Token)],x.text.length≤65536:=by
   intro x hx
   rcases List.mem_append.1 hx with h | h
   ·obtain⟨l',e1,e2,_⟩:=Dr hlex
    rw [h1] at e1
    simp only [Prod.mk.injEq,and_true] at e1
    have:l=l':=by
     have:=congrArg List.dropLast e1
     simpa using this
    subst this
    exact(e2 x h).2.1.2.2.1
   ·simp at h; subst h; simp
  have hle:=WX hx a
  rw [XC]
  simp only [lw,F6,Nat.zero_add,al5] at hpay
  refine⟨by simp only at hlen; omega,?_⟩
  exact Q7 131073 [] (by simp) 0 0 _ a d h3
 ·rw [TH s he]
  simp [HD]
end
section
open Go Hk
def YX (c:sI) (n:Nat):Nat:=(c.at_ % 18446744073709551616).toNat % n
def X8 (l:List GS) (c:sI):List GS:=match l[YX c l.length]? with
 | some x=>l.set (YX c l.length) (tO x c)
 | none=>l
def Ha (f:GF) (c:sI):GF :=
 if c.field=20 then { f with name:=c.name }
 else if c.field=21 then { f with has:=!f.has }
 else if c.field=22 then { f with result:={ f.result with elem:=c.num } }
 else if c.field=23 then { f with result:={ f.result with len:=c.num } }
 else if c.field=24 then { f with params:=⟨0,c.name,⟨c.num,c.at_,0⟩,false⟩::f.params }
 else { f with body:=X8 f.body c }
def Bx (l:List GF) (c:sI):List GF:=match l with
 | []=>[]
 | f::r=>Ha f c::r
section loop
variable {R:List (List kH)}{c:sI}{f:GF}
def DH (R:List (List kH)) (c:sI) (F:List kH) (E:lH):kL:=[.cells [.slice R .no],.cells [.int .i64 c.at_,.int .i64 c.field,.int .i64 c.num,.str c.name],.cells [.slice [] (.own 3)],.front 0 0,.cells F,.front 0 0,.front 0 0,E]
theorem V8 {K:kX}(i:Nat) (n:Int) (h:i < f.body.length) (hb:f.body.length≤274877906944) :
  Ea K 8 ([.ptr 0 0,.ptr 1 0,.ptr 2 0,.ptr 4 0,.int .i64 n,Vs 7 11 (f.body.take i).length,.int .i64 (i:Int)],DH R c f.cells (Vb GS.cells 11 (f.body.take i))) =
   some (.normal,[.ptr 0 0,.ptr 1 0,.ptr 2 0,.ptr 4 0,.int .i64 n,Vs 7 11 (f.body.take (i+1)).length,.int .i64 ((i+1:Nat):Int)],DH R c f.cells (Vb GS.cells 11 (f.body.take (i+1)))):=by
 have ha:=Pa (enc:=GS.cells) (sz:=11) (by_:=144) (id:=7) (h:=DH R c f.cells (Vb GS.cells 11 (f.body.take i))++[.front 1 11]) (xs:=f.body.take i) (ys:=[f.body[i]]) (T:=.own 8) (fun y=>y.p_) (by simp) rfl
 have hl:(f.body.take i).length=i:=by rw [ah6]; omega
 have htk:f.body.take i++[f.body[i]]=f.body.take (i+1):=by rw [List.take_succ,ab8 h]; rfl
 have hta:Kt 144 (f.body.take i) [f.body[i]]=some (f.body.take (i+1)):=by
  unfold Kt
  rw [if_pos (by rw [hl]; simp only [ab0,ab3]; omega),htk]
 have hl1:(f.body.take (i+1)).length=i+1:=by rw [ah6]; omega
 have hb1:kU 1 11 [.int .i64 0,.int .i64 0,.int .i64 0,.str [],.int .i64 0,.int .i64 0,.int .i64 0,.slice [] .nil,.slice [] .nil,.slice [] .nil,.bool false] [(0,.agg (f.body[i]).cells)] (DH R c f.cells (Vb GS.cells 11 (f.body.take i))) =
   some (.slice (Rw GS.cells [f.body[i]]) (.own 8),DH R c f.cells (Vb GS.cells 11 (f.body.take i))++[.front 1 11]):=by
  generalize f.body[i]=x
  cases x; rfl
 rw [hta] at ha
 simp only [DC,hl1] at ha
 have hix:k9 11 (.slice (f.body.map GS.cells) .no) (.int .i64 (i:Int))=some (.pptr (f.body[i]).cells):=by
  rw [EG,ab8 h]; simp
 have hv:Vb GS.cells 11 (f.body.take (i+1))=Vc GS.cells 11 (f.body.take (i+1)):=by
  unfold Vb; rw [hl1,if_neg (by omega)]; unfold Vc; rw [hl1]
 have hs:nA 8 (DH R c f.cells (Vb GS.cells 11 (f.body.take (i+1)))++[.front 1 11]) (DH R c f.cells (Vb GS.cells 11 (f.body.take (i+1))))=some (DH R c f.cells (Vb GS.cells 11 (f.body.take (i+1)))):=by
  rw [hv]
  have hc:∀(h:kL) (x:GS),mW 8 h x.cells=some x.cells:=by intro h x; cases x; simp -implicitDefEqProofs [GS.cells]
  simp -implicitDefEqProofs [DH,GF.cells,Le (hc _)]
 have hw:IntKind.i64.wrap ((i:Int)+1)=((i+1:Nat):Int):=by rw [wrap64 (by omega) (by omega)]; simp
 have hvs:Vs 7 11 (i+1)=.vslice 7 (i+1) 0 (i+1) 11:=if_neg (by omega)
 simp only [Ea,List.getD_cons_zero,List.getD_cons_succ,hl1,hvs]
 have a0:kO false 1 (DH R c f.cells (Vb GS.cells 11 (f.body.take i))) (.ptr 4 7)=some (.slice (f.body.map GS.cells) .no):=rfl
 have f7:kJ 7 (.ptr 4 0)=some (.ptr 4 7):=rfl
 have a1:∀(x:GS) (h:kL),kO true 11 h (.pptr x.cells)=some (.agg x.cells):=by intro x h; cases x; rfl
 have e1:kR .lss (.int .i64 (i:Int)) (.int .i64 (f.body.length:Int))=some (.bool true):=by simp [h]
 have e2:kR .add (.int .i64 (i:Int)) (.int .i64 1)=some (.int .i64 ((i+1:Nat):Int)):=by simp [hw]
 have e3:mS (.slice (f.body.map GS.cells) .no)=some (.int .i64 (f.body.length:Int)):=by simp
 rw [f7]
 simp only [ae3,a0,e3,e1,DZ,cond_true,hix,a1,hb1,Gw,ha,e2,Ve,R0]
 have hset:List.set (DH R c f.cells (Vb GS.cells 11 (f.body.take i))++[.front 1 11]) 7 (Vc GS.cells 11 (f.body.take (i+1)))=DH R c f.cells (Vb GS.cells 11 (f.body.take (i+1)))++[.front 1 11]:=by rw [hv]; rfl
 have htake:List.take 8 (DH R c f.cells (Vb GS.cells 11 (f.body.take (i+1)))++[.front 1 11])=DH R c f.cells (Vb GS.cells 11 (f.body.take (i+1))):=rfl
 rw [hset,htake,hs]
 have hvi:∀h:kL,kH.vL 8 h (.vslice 7 (i+1) 0 (i+1) 11)=.vslice 7 (i+1) 0 (i+1) 11:=fun h=>En (by omega)
 simp only [Option.map_some,af7,al1,hvi]
 rfl
theorem V6 {K:kX}(n:Int) :
  Ea K 8 ([.ptr 0 0,.ptr 1 0,.ptr 2 0,.ptr 4 0,.int .i64 n,Vs 7 11 f.body.length,.int .i64 (f.body.length:Int)],DH R c f.cells (Vb GS.cells 11 f.body)) =
   some (.exit 1,[.ptr 0 0,.ptr 1 0,.ptr 2 0,.ptr 4 0,.int .i64 n,Vs 7 11 f.body.length,.int .i64 (f.body.length:Int)],DH R c f.cells (Vb GS.cells 11 f.body)):=by
 have a0:kO false 1 (DH R c f.cells (Vb GS.cells 11 f.body)) (.ptr 4 7)=some (.slice (f.body.map GS.cells) .no):=rfl
 have f7:kJ 7 (.ptr 4 0)=some (.ptr 4 7):=rfl
 have e1:kR .lss (.int .i64 (f.body.length:Int)) (.int .i64 (f.body.length:Int))=some (.bool false):=by simp
 have e3:mS (.slice (f.body.map GS.cells) .no)=some (.int .i64 (f.body.length:Int)):=by simp
 have hs:nA 8 (DH R c f.cells (Vb GS.cells 11 f.body)) (DH R c f.cells (Vb GS.cells 11 f.body))=some (DH R c f.cells (Vb GS.cells 11 f.body)):=by
  have hc:∀(h:kL) (x:GS),mW 8 h x.cells=some x.cells:=by intro h x; cases x; simp -implicitDefEqProofs [GS.cells]
  have hb:∀h,o6 8 h (Vb GS.cells 11 f.body)=some (Vb GS.cells 11 f.body):=by
   intro h
   unfold Vb; split
   ·rfl
   ·exact Le (hc _)
  simp -implicitDefEqProofs [DH,GF.cells,hb]
 simp only [Ea,List.getD_cons_zero,List.getD_cons_succ]
 rw [f7]
 have htake:List.take 8 (DH R c f.cells (Vb GS.cells 11 f.body))=DH R c f.cells (Vb GS.cells 11 f.body):=rfl
 simp only [ae3,a0,e3,e1,DZ,cond_false,Ve,R0,htake,hs]
 have hvi:∀h:kL,kH.vL 8 h (Vs 7 11 f.body.length)=Vs 7 11 f.body.length:=by
  intro h; unfold Vs; split
  ·rfl
  ·exact En (by omega)
 simp only [Option.map_some,af7,al1,hvi]
 rfl
theorem V7 {K:kX}(n:Int) (hb:f.body.length≤274877906944) :
  mL (Ea K 8) ([.ptr 0 0,.ptr 1 0,.ptr 2 0,.ptr 4 0,.int .i64 n,.slice [] (.own 7),.int .i64 0],DH R c f.cells (.front 0 0)) =
   some (.exit 1,[.ptr 0 0,.ptr 1 0,.ptr 2 0,.ptr 4 0,.int .i64 n,Vs 7 11 f.body.length,.int .i64 (f.body.length:Int)],DH R c f.cells (Vb GS.cells 11 f.body)):=by
 have key:=rU (F:=Ea K 8) (fun i:Nat=>([.ptr 0 0,.ptr 1 0,.ptr 2 0,.ptr 4 0,.int .i64 n,Vs 7 11 (f.body.take i).length,.int .i64 (i:Int)],DH R c f.cells (Vb GS.cells 11 (f.body.take i))))
  (fun i=>i≤f.body.length) (fun i=>f.body.length - i) (fun _=>(.exit 1,[.ptr 0 0,.ptr 1 0,.ptr 2 0,.ptr 4 0,.int .i64 n,Vs 7 11 f.body.length,.int .i64 (f.body.length:Int)],DH R c f.cells (Vb GS.cells 11 f.body)))
  (fun i hi=>by
   by_cases h:i < f.body.length
   ·exact .inl ⟨i+1,V8 i n h hb,h,by omega,rfl⟩
   ·right
    have e:i=f.body.length:=by omega
    subst e
    refine⟨?_,by simp⟩
    rw [List.take_length]
    exact V6 n) 0 (Nat.zero_le _)
 exact key
end loop
theorem GF.D2 (f:GF):f.cells.length=8:=rfl
theorem adN {α:Type}{l:List α}{e:α→List kH}{r:List kH}{b0 b1 b2 b3 b4 b5 b6:lH}{sz by_:Nat}(he:∀x,(e x).length=sz) (hr:r.length=sz) (hb:(1+l.length) * by_≤140737488355328∧1+l.length≤140737488355328) :
  mB sz by_ [b0,b1,b2,b3,b4,b5,b6,.front 1 sz] (.slice [r] (.own 7)) (.slice (l.map e) .no)=some (.slice (r::l.map e) (.own 7),[b0,b1,b2,b3,b4,b5,b6,.front (1+l.length) sz]):=by
 have har:p8 sz [b0,b1,b2,b3,b4,b5,b6,.front 1 sz] (.slice (l.map e) .no)=some (l.map e):=AY (by intro x hx; obtain⟨y,_,rfl⟩:=List.mem_map.1 hx; exact he y)
 unfold mB
 rw [har]
 simp only [List.getElem?_cons_succ,List.getElem?_cons_zero,List.length_map]
 rw [if_pos ⟨rfl,.inl trivial,hb.1,hb.2⟩]
 split
 ·rename_i h0
  have:l=[]:=List.eq_nil_of_length_eq_zero h0
  subst this
  rfl
 ·simp
theorem avG {f:GF}{h:kL}:kU 1 8 [.int .i64 0,.str [],.slice [] .nil,.bool false,.int .i64 0,.int .i64 0,.int .i64 0,.slice [] .nil] [(0,.agg f.cells)] h=some (.slice [f.cells] (.own h.length),h++[.front 1 8]):=by
 cases f; rfl
def WQ (c:sI):GP:=⟨0,c.name,⟨c.num,c.at_,0⟩,false⟩
theorem avI {p:GP}{h:kL}:kU 1 6 [.int .i64 0,.str [],.int .i64 0,.int .i64 0,.int .i64 0,.bool false] [(0,.agg p.cells)] h=some (.slice [p.cells] (.own h.length),h++[.front 1 6]):=by
 cases p; rfl
structure OkC (l:List GF):Prop where
 len:l.length≤274877906944
 par:∀f∈l,f.params.length≤274877906944
 body:∀f∈l,f.body.length≤274877906944
 args:∀f∈l,∀x∈f.body,x.args.length≤1099511627776∧x.body.length≤274877906944∧∀a∈x.args,a.args.length≤1099511627776
theorem xE {h:kL}{s:List UInt8}:qX h (.str s)=some (.str s,h):=(rfl)
theorem avA {n a:Int}{s:List UInt8}:lR [.int .i64 0,.str [],.int .i64 0,.int .i64 0,.int .i64 0,.bool false] [(0,1),(1,1),(2,3),(5,1)] [(1,.str s),(2,.agg [.int .i64 n,.int .i64 a,.int .i64 0])] =
  some (.agg [.int .i64 0,.str s,.int .i64 n,.int .i64 a,.int .i64 0,.bool false]):=rfl
theorem I0 {i o:Nat}:k_ [0] [.ptr i o]=[i]:=(rfl)
theorem Fc:∀{a b x y:List kH},nK a=some x→nK b=some y→nK (a++b)=some (x++y)
 | [],b,x,y,h1,h2=>by simp only [nK,Option.some.injEq] at h1; subst h1; exact h2
 | v::a,b,x,y,h1,h2=>by
  simp only [nK] at h1
  split at h1
  ·rename_i u w e1 e2
   cases h1
   simp only [ae8,nK,e1,Fc e2 h2]
  ·cases h1
theorem GR {α:Type}{enc:α→List kH}(hp:∀x,nK (enc x)=some (enc x)):∀xs:List α,nK (Rw enc xs).flatten=some (Rw enc xs).flatten
 | []=>rfl
 | x::r=>by
  have e:(Rw enc (x::r)).flatten=enc x++(Rw enc r).flatten:=rfl
  rw [e]; exact Fc (hp x) (GR hp r)
theorem Jm {α:Type}{enc:α→List kH}{sz:Nat}(he:∀x,(enc x).length=sz):∀xs:List α,rowsOf xs.length sz (Rw enc xs).flatten=Rw enc xs
 | []=>rfl
 | x::r=>by
  have e:(Rw enc (x::r)).flatten=enc x++(Rw enc r).flatten:=rfl
  rw [ab0,rowsOf,e,←he x,List.take_left,List.drop_left,he x,Jm he r]; rfl
section mid
variable {R:List (List kH)}{c:sI}{f:GF}
def Yl (R:List (List kH)) (c:sI) (F:List kH) (l:List GS):kL:=DH R c F (Vc GS.cells 11 l)
theorem ac3 {a:Int}{n:Nat}(h0:0 < n) (hn:n≤274877906944):acX (IntKind.u64.wrap a) (IntKind.u64.wrap (n:Int))=some (((a % 18446744073709551616).toNat % n:Nat):Int):=by
 have e1:IntKind.u64.wrap a=a % 18446744073709551616:=rfl
 have e2:IntKind.u64.wrap (n:Int)=(n:Int):=by
  have:IntKind.u64.wrap (n:Int)=(n:Int) % 18446744073709551616:=rfl
  rw [this]; omega
 have p:0≤a % 18446744073709551616:=Int.emod_nonneg _ (by omega)
 rw [e1,e2]
 unfold acX
 rw [if_neg (by omega),Int.tmod_eq_emod_of_nonneg p]
 have q:a % 18446744073709551616=((a % 18446744073709551616).toNat:Int):=by omega
 generalize (a % 18446744073709551616).toNat=m at q
 rw [q,Int.natCast_emod]
theorem abP {k:Nat}{x:GS}(hx:f.body[k]?=some x) :
  kO true 11 (Yl R c f.cells f.body) (.vptr 7 f.body.length (k * 11))=some (.agg x.cells):=by
 rw [KH (fun y=>y.p_) (xs:=f.body) rfl (by omega)]
 simp [JR,hx]
theorem akC {k:Nat}{x:GS}(hx:f.body[k]?=some x):k9 11 (.vslice 7 f.body.length 0 f.body.length 11) (.int .i64 (k:Int))=some (.vptr 7 f.body.length (k * 11)):=by
 have:=(aa8.1 hx).1
 rw [Gm]
 simp [tin,this]
theorem abQ {k:Nat}{x y:GS}(hx:f.body[k]?=some x) :
  kT 11 (Yl R c f.cells f.body) (.vptr 7 f.body.length (k * 11)) (.agg y.cells)=some (Yl R c f.cells (f.body.set k y)):=by
 rw [Pl (enc:=GS.cells) (xs:=f.body) y (fun y=>y.p_) rfl (by omega) (by cases y; simp [kH.cells,kH.lY,GS.cells]) rfl]
 have:=(aa8.1 hx).1
 simp [JR,hx,Yh,this]
 rfl
theorem Qj:∀x:GS,nK x.cells=some x.cells:=by intro x; cases x; rfl
theorem abO {l:List GS}:qX (Yl R c f.cells l) (.vslice 7 l.length 0 l.length 11)=some (.slice (l.map GS.cells) .no,DH R c f.cells .gone):=by
 have gv:pE (Yl R c f.cells l) 7 l.length=some (11,(Rw GS.cells l).flatten):=by simp [pE,Yl,DH,Vc]
 have hl:=zL GS.p_ l
 have ht:(((Rw GS.cells l).flatten.drop 0).take (l.length * 11))=(Rw GS.cells l).flatten:=by rw [List.drop_zero,List.take_of_length_le (by rw [hl]; exact ac8 _)]
 unfold qX
 simp only [gv]
 rw [ht,GR Qj]
 simp only [Nat.zero_add,hl,ac8,if_true,Jm GS.p_]
 rfl
end mid
set_option maxHeartbeats 4000000 in
theorem c13 (l:List GF) (c:sI) (ok:OkC l) (h:kL):KK 13 [.agg [.slice (l.map GF.cells) .no],.agg c.cells] h=some (.ret (.agg [.slice ((Bx l c).map GF.cells) .no]),h):=by
 refine lB rfl (by simp [sI.cells,kH.nO,kH.pT,qO]) (lA (aiL _ _ _ _) ?_)
 obtain _ | ⟨f,r⟩:=l
 ·simp -implicitDefEqProofs [m13,lO,lC,sI.cells,Bx,kW,l_,lD,putCells,kK]
 have hbd:=ok.body f (by simp)
 have hpr:=ok.par f (by simp)
 have hlr:=ok.len
 simp only [ab0] at hlr
 have hsl:=fun t=>sl1 (e:=GF.cells) (sz:=8) (a:=f) (l:=r) (fun y=>y.D2) (t:=t)
 simp only [af7] at hsl
 have ap:=fun(f':GF) (b0 b1 b2 b3 b4 b5 b6:lH)=>adN (l:=r) (e:=GF.cells) (r:=f'.cells) (sz:=8) (by_:=104) (b0:=b0) (b1:=b1) (b2:=b2) (b3:=b3) (b4:=b4) (b5:=b5) (b6:=b6) (fun y=>y.D2) f'.D2 (by omega)
 have bf:=fun(f':GF) (h:kL)=>avG (f:=f') (h:=h)
 have hz:¬((r.length:Int)+1=0):=by omega
 by_cases h0:c.field=20
 ·have ap':=ap { f with name:=c.name }
  have bf':=bf { f with name:=c.name }
  simp only [GF.cells] at ap' bf' hsl
  simp -implicitDefEqProofs [m13,lO,lC,sI.cells,h0,n_,GF.cells,putCells,lD,nB,lM,o8,mU,I0,xE,hsl,hz,bf',ap',kK,Bx,Ha]
 by_cases h1:c.field=21
 ·have ap':=ap { f with has:=!f.has }
  have bf':=bf { f with has:=!f.has }
  simp only [GF.cells] at ap' bf' hsl
  simp -implicitDefEqProofs [m13,lO,lC,sI.cells,h0,h1,n_,GF.cells,putCells,lD,nB,lM,o8,mU,I0,xE,hsl,hz,bf',ap',kK,Bx,Ha]
 by_cases h2:c.field=22
 ·have ap':=ap { f with result:={ f.result with elem:=c.num } }
  have bf':=bf { f with result:={ f.result with elem:=c.num } }
  simp only [GF.cells] at ap' bf' hsl
  simp -implicitDefEqProofs [m13,lO,lC,sI.cells,h0,h1,h2,n_,GF.cells,putCells,lD,nB,lM,o8,mU,I0,xE,hsl,hz,bf',ap',kK,Bx,Ha]
 by_cases h3:c.field=23
 ·have ap':=ap { f with result:={ f.result with len:=c.num } }
  have bf':=bf { f with result:={ f.result with len:=c.num } }
  simp only [GF.cells] at ap' bf' hsl
  simp -implicitDefEqProofs [m13,lO,lC,sI.cells,h0,h1,h2,h3,n_,GF.cells,putCells,lD,nB,lM,o8,mU,I0,xE,hsl,hz,bf',ap',kK,Bx,Ha]
 by_cases h4:c.field=24
 ·have ap':=ap { f with params:=WQ c::f.params }
  have bf':=bf { f with params:=WQ c::f.params }
  have bp:=fun h=>avI (p:=WQ c) (h:=h)
  have ap6:=fun(b0 b1 b2 b3 b4 b5 b6:lH)=>adN (l:=f.params) (e:=GP.cells) (r:=(WQ c).cells) (sz:=6) (by_:=56) (b0:=b0) (b1:=b1) (b2:=b2) (b3:=b3) (b4:=b4) (b5:=b5) (b6:=b6) (fun y=>rfl) rfl (by omega)
  simp only [GF.cells,af7] at ap' bf' hsl
  simp only [GP.cells,WQ] at ap' bf' bp ap6
  simp -implicitDefEqProofs [m13,lO,lC,sI.cells,h0,h1,h2,h3,h4,n_,GF.cells,putCells,lD,nB,lM,o8,mU,I0,xE,hsl,hz,bf',ap',kK,Bx,Ha,avA,bp,ap6,GP.cells]
 obtain hbe | hbp:f.body=[]∨0 < f.body.length:=by cases f.body <;> simp
 ·obtain⟨fp,fn,fps,fh,fr,fb⟩:=f
  simp only at hbe
  subst hbe
  have ap':=ap ⟨fp,fn,fps,fh,fr,[]⟩
  have bf':=bf ⟨fp,fn,fps,fh,fr,[]⟩
  simp only [GF.cells,al1] at ap' bf' hsl
  simp -implicitDefEqProofs [m13,lO,lC,sI.cells,h0,h1,h2,h3,h4,n_,GF.cells,putCells,lD,nB,lM,o8,mU,I0,xE,hsl,hz,bf',ap',kK,Bx,Ha,X8]
 ·generalize hk:YX c f.body.length=k
  have hkl:k < f.body.length:=by rw [←hk]; exact Nat.mod_lt _ hbp
  obtain⟨x,hx⟩:∃x,f.body[k]?=some x:=⟨_,ab8 hkl⟩
  have hxm:x∈f.body:=ad2 hx
  have hok:=ok.args f (by simp) x hxm
  have hcB:X8 f.body c=f.body.set k (tO x c):=by unfold X8; rw [hk,hx]
  have hlp:=V7 (K:=lT mK (Iv Tryz.prog mK)) (R:=(f::r).map GF.cells) (c:=c) (f:=f) (k:Int) hbd
  have hVb:Vb GS.cells 11 f.body=Vc GS.cells 11 f.body:=by unfold Vb; rw [if_neg (by omega)]; rfl
  have hVs:Vs 7 11 f.body.length=.vslice 7 f.body.length 0 f.body.length 11:=if_neg (by omega)
  rw [hVb,hVs] at hlp
  have e30:=c30 x c hok.1 hok.2.1 hok.2.2 (Yl ((f::r).map GF.cells) c f.cells f.body)
  have ap':=ap { f with body:=f.body.set k (tO x c) }
  have bf':=bf { f with body:=f.body.set k (tO x c) }
  have hat:=ac3 (a:=c.at_) hbp hbd
  have hk':(c.at_ % 18446744073709551616).toNat % f.body.length=k:=hk
  rw [hk'] at hat
  have hwk:IntKind.i64.wrap (k:Int)=(k:Int):=wrap64 (by omega) (by omega)
  have hld:=abP (R:=(f::r).map GF.cells) (c:=c) hx
  have hst:=abQ (R:=(f::r).map GF.cells) (c:=c) (y:=tO x c) hx
  have hfr:=abO (R:=(f::r).map GF.cells) (c:=c) (f:=f) (l:=f.body.set k (tO x c))
  rw [List.length_set] at hfr
  have hix:=akC hx
  have hu1:(kH.agg x.cells).kN=.agg x.cells:=by cases x; simp -implicitDefEqProofs [GS.cells]
  have hu2:(kH.agg c.cells).kN=.agg c.cells:=rfl
  have hlc:kO true 4 (Yl ((f::r).map GF.cells) c f.cells f.body) (.ptr 1 0)=some (.agg c.cells):=rfl
  simp -implicitDefEqProofs [m13,lO,lC,sI.cells,h0,h1,h2,h3,h4,n_,GF.cells,putCells,lD,hz,hbp,kK,Bx,Ha]
  rw [hat]
  simp only [HA,hwk]
  erw [hlp]
  change (_:Option (nH×kL))=_
  simp only [ae3,OV,Mc,List.getElem?_cons_succ,List.getElem?_cons_zero,Option.getD_some,BEq.rfl,cond_true]
  have hH:DH (List.map GF.cells (f::r)) c f.cells (Vc GS.cells 11 f.body)=Yl ((f::r).map GF.cells) c f.cells f.body:=rfl
  have f7:kJ 7 (.ptr 4 0)=some (.ptr 4 7):=rfl
  rw [hH]
  simp only [hix,ae3,hld,hlc,hu1,hu2,e30,NC,Nu,Gw,hst,f7,hfr]
  simp only [GF.cells] at ap' bf' hsl
  simp -implicitDefEqProofs [-List.map_set,DH,GF.cells,putCells,lD,nB,lM,o8,mU,I0,hsl,bf',ap',hcB]
end
section
open Go Hk
mutual
theorem XE.FI:∀x:XE,x.cells=x.CG.cells
 | .mk k p n name args=>by simp only [XE.cells,XE.CG,GE.cells,XE.GV args]
theorem XE.GV:∀l:List XE,XE.rows l=GE.rows (XE.yO l)
 | []=>rfl
 | x::r=>by simp only [XE.rows,XE.yO,GE.rows,XE.FI x,XE.GV r]
end
theorem XE.WC (l:List XE):l.map XE.cells=(XE.yO l).map GE.cells:=by rw [←XE.oK,←GE.oK,XE.GV]
mutual
theorem XS.FI:∀x:XS,x.cells=x.CG.cells
 | .mk k p m name ty args body els has=>by simp only [XS.cells,XS.CG,GS.cells,XS.GV body,XS.GV els,XE.WC args,Ty.CG]
theorem XS.GV:∀l:List XS,XS.rows l=GS.rows (XS.yO l)
 | []=>rfl
 | x::r=>by simp only [XS.rows,XS.yO,GS.rows,XS.FI x,XS.GV r]
end
theorem XS.WC (l:List XS):l.map XS.cells=(XS.yO l).map GS.cells:=by rw [←XS.oK,←GS.oK,XS.GV]
theorem XF.FI (f:XF):f.cells=f.CG.cells:=by
 simp only [XF.cells,XF.CG,GF.cells,XS.WC,List.map_map,Ty.CG]
 rfl
theorem XF.WC (l:List XF):l.map XF.cells=(l.map XF.CG).map GF.cells:=by
 rw [List.map_map]; exact List.map_congr_left fun f _=>XF.FI f
mutual
theorem RV:∀x:GE,x.size≤wE x
 | .mk _ _ _ name args=>by have:=Jv args; simp only [GE.size,wE]; omega
theorem Jv:∀l:List GE,GE.oC l≤Dg l
 | []=>by simp [GE.oC,Dg]
 | x::r=>by have:=RV x; have:=Jv r; simp only [GE.oC,Dg]; omega
end
mutual
theorem acK:∀x:GS,x.size≤wS x
 | .mk _ _ _ name _ args body els _=>by have:=Jv args; have:=Da body; have:=Da els; simp only [GS.size,wS]; omega
theorem Da:∀l:List GS,GS.oC l≤DV l
 | []=>by simp [GS.oC,DV]
 | x::r=>by have:=acK x; have:=Da r; simp only [GS.oC,DV]; omega
end
theorem HC:∀l:List GE,l.length * 64≤Dg l
 | []=>by simp
 | x::r=>by
  have:=HC r
  have:60≤wE x:=by cases x; simp only [wE]; omega
  simp only [Dg,ab0]; omega
theorem MY:∀l:List GS,l.length * 124≤DV l
 | []=>by simp
 | x::r=>by
  have:=MY r
  have:120≤wS x:=by cases x; simp only [wS]; omega
  simp only [DV,ab0]; omega
theorem HH:∀l:List GP,l.length * 64≤R1 l
 | []=>by simp
 | x::r=>by
  have:=HH r
  have:60≤wP x:=by simp only [wP]; omega
  simp only [R1,ab0]; omega
theorem HF:∀l:List GF,l.length * 120≤HD l
 | []=>by simp
 | x::r=>by
  have:=HF r
  have:120≤wF x:=by simp only [wF]; omega
  simp only [HD,ab0]; omega
theorem HG {f:GF}:∀{l:List GF},f∈l→wF f≤HD l
 | y::r,h=>by
  simp only [HD]
  cases h with
  | head=>omega
  | tail _ h=>have:=HG h; omega
theorem R2 {x:GS}:∀{l:List GS},x∈l→wS x≤DV l
 | y::r,h=>by
  simp only [DV]
  cases h with
  | head=>omega
  | tail _ h=>have:=R2 h; omega
theorem U1 (x:GE) (c:sI):wE (G_ x c)≤wE x+c.name.length+64:=by
 obtain⟨k,p,n,name,args⟩:=x
 simp only [G_]
 split
 ·simp only [wE]; omega
 split
 ·simp only [wE]; omega
 split
 ·simp only [wE]; omega
 split
 ·simp only [wE,Dg,MA,ab3]; omega
 split
 ·simp only [wE,Dg]; omega
 ·simp only [wE]; omega
theorem UI (x:GS) (c:sI):wS (tO x c)≤wS x+c.name.length+124∧dS (tO x c)≤dS x+1:=by
 obtain⟨k,p,m,name,ty,args,body,els,has⟩:=x
 simp only [tO]
 split
 ·simp only [wS,dS]; omega
 split
 ·simp only [wS,dS]; omega
 split
 ·simp only [wS,dS]; omega
 split
 ·simp only [wS,dS]; omega
 split
 ·simp only [wS,dS]; omega
 split
 ·simp only [wS,dS]; omega
 split
 ·simp only [wS,dS]; omega
 split
 ·simp only [wS,dS,Dg,wE,MA,ab3]; omega
 split
 ·simp only [wS,dS,DV,EL,O2,Dg,ab3]; omega
 split
 ·simp only [wS,dS,Dg]; omega
 ·rename_i a r
  have:=U1 a c
  simp only [wS,dS,Dg]; omega
theorem R3:∀(l:List GS) (k:Nat) (x y:GS) (W:Nat),l[k]?=some x→wS y≤wS x+W→DV (l.set k y)≤DV l+W
 | z::r,0,x,y,W,h,hw=>by simp at h; subst h; simp only [List.set_cons_zero,DV]; omega
 | z::r,k+1,x,y,W,h,hw=>by
  have:=R3 r k x y W (by simpa using h) hw
  simp only [List.set_cons_succ,DV]; omega
theorem Q6:∀(l:List GS) (k:Nat) (x y:GS),l[k]?=some x→dS y≤dS x+1→EL (l.set k y)≤EL l+1
 | z::r,0,x,y,h,hw=>by simp at h; subst h; simp only [List.set_cons_zero,EL]; omega
 | z::r,k+1,x,y,h,hw=>by
  have:=Q6 r k x y (by simpa using h) hw
  simp only [List.set_cons_succ,EL]; omega
theorem adY (f:GF) (c:sI):wF (Ha f c)≤wF f+c.name.length+124∧EL (Ha f c).body≤EL f.body+1:=by
 unfold Ha
 split
 ·simp only [wF]; omega
 split
 ·simp only [wF]; omega
 split
 ·simp only [wF]; omega
 split
 ·simp only [wF]; omega
 split
 ·simp only [wF,R1,wP]; omega
 ·simp only [wF,X8]
  cases h:f.body[YX c f.body.length]? with
  | none=>simp only; omega
  | some x =>
   have h1:=R3 f.body _ x (tO x c) (c.name.length+124) h (by have:=(UI x c).1; omega)
   have h2:=Q6 f.body _ x (tO x c) h (UI x c).2
   simp only; omega
theorem adZ (l:List GF) (c:sI):HD (Bx l c)≤HD l+c.name.length+124:=by
 cases l with
 | nil=>simp only [Bx]; omega
 | cons f r=>have:=(adY f c).1; simp only [Bx,HD]; omega
theorem aoZ {l:List GF}{c:sI}{n:Nat}(h:∀f∈l,EL f.body≤n):∀f∈Bx l c,EL f.body≤n+1:=by
 cases l with
 | nil=>simp [Bx]
 | cons f r =>
  intro g hg
  rcases List.mem_cons.1 hg with rfl | hg
  ·have:=(adY f c).2
   have:=h f (by simp); omega
  ·have:=h g (by simp [hg]); omega
theorem Ek {s:List UInt8}(h:65536 < s.length):rP s=false:=by
 unfold rP oL
 rw [if_pos h]
theorem GM {s:List UInt8}(h:65536 < s.length) (b:Bool):lG s b=false:=by
 unfold lG
 cases b with
 | true=>simp [Ek h]
 | false =>
  have:s≠[]:=by rintro rfl; simp at h
  simpa using this
def sI.short (c:sI):sI:={ c with name:=[] }
theorem qP (c:sI):c.short.field=c.field:=(rfl)
theorem sU (c:sI):c.short.num=c.num:=(rfl)
theorem uG (c:sI):c.short.at_=c.at_:=(rfl)
theorem NI {x:GE}{c:sI}(h:65536 < c.name.length) (hw:nZ (G_ x c)=true):G_ x c=G_ x c.short:=by
 obtain⟨k,p,n,name,args⟩:=x
 by_cases h2:c.field=2
 ·have e:G_ (.mk k p n name args) c=.mk k p n c.name args:=by simp [G_,h2]
  rw [e] at hw
  simp only [nZ,zX,ad0] at hw
  have hn:=hw.1
  split at hn
  ·cases hn
  ·simp [GM h] at hn
 ·simp [G_,qP,sU,uG,h2]
theorem Sn {x:GS}{c:sI}(h:65536 < c.name.length) (hw:tT (tO x c)=true):tO x c=tO x c.short:=by
 obtain⟨k,p,m,name,ty,args,body,els,has⟩:=x
 by_cases h1:c.field=11
 ·have e:tO (.mk k p m name ty args body els has) c=.mk k p m c.name ty args body els has:=by simp [tO,h1]
  rw [e] at hw
  simp only [tT,lP,ad0] at hw
  have hn:=hw.1.1
  split at hn
  ·cases hn
  ·simp [GM h] at hn
 by_cases h0:c.field=10
 ·simp [tO,qP,sU,uG,h0]
 by_cases h2:c.field=12
 ·simp [tO,qP,sU,uG,h2]
 by_cases h3:c.field=13
 ·simp [tO,qP,sU,uG,h3]
 by_cases h4:c.field=14
 ·simp [tO,qP,sU,uG,h4]
 by_cases h5:c.field=15
 ·simp [tO,qP,sU,uG,h5]
 by_cases h6:c.field=16
 ·simp [tO,qP,sU,uG,h6]
 by_cases h7:c.field=17
 ·simp [tO,qP,sU,uG,h7]
 by_cases h8:c.field=18
 ·simp [tO,qP,sU,uG,h8]
 cases args with
 | nil=>simp [tO,qP,sU,uG,h0,h1,h2,h3,h4,h5,h6,h7,h8]
 | cons a r =>
  have hwa:nZ (G_ a c)=true:=by
   simp only [tO,h0,h1,h2,h3,h4,h5,h6,h7,h8,if_false,tT,lP,ad0] at hw
   have hn:=hw.1.1
   split at hn
   ·cases hn
   ·simp only [ad0,oB] at hn
    simp_all
  have e:=NI h hwa
  simp only [tO,h0,h1,h2,h3,h4,h5,h6,h7,h8,if_false]
  have hf:c.short.field=c.field:=rfl
  simp only [hf,h0,h1,h2,h3,h4,h5,h6,h7,h8,if_false,e]
theorem JL {x:GS}:∀{l:List GS},pJ l=true→x∈l→tT x=true
 | y::r,h,hm=>by
  simp only [pJ,ad0] at h
  cases hm with
  | head=>exact h.1
  | tail _ hm=>exact JL h.2 hm
theorem U2 {f:GF}{c:sI}(h:65536 < c.name.length) (hw:q8 (Ha f c)=true):Ha f c=Ha f c.short:=by
 by_cases h0:c.field=20
 ·have e:Ha f c={ f with name:=c.name }:=by simp [Ha,h0]
  rw [e] at hw
  simp only [q8,ad0,Ek h] at hw
  exact absurd hw.1.1.1 (by simp)
 by_cases h1:c.field=21
 ·simp [Ha,qP,sU,uG,h1]
 by_cases h2:c.field=22
 ·simp [Ha,qP,sU,uG,h2]
 by_cases h3:c.field=23
 ·simp [Ha,qP,sU,uG,h3]
 by_cases h4:c.field=24
 ·have e:Ha f c={ f with params:=⟨0,c.name,⟨c.num,c.at_,0⟩,false⟩::f.params }:=by simp [Ha,h4]
  rw [e] at hw
  simp only [q8,ad0,List.all_cons,wL,Ek h] at hw
  exact absurd hw.1.2.1.1 (by simp)
 have e:∀c':sI,c'.field=c.field→Ha f c'={ f with body:=X8 f.body c' }:=fun c' hc=>by simp [Ha,hc,h0,h1,h2,h3,h4]
 rw [e c rfl] at hw
 rw [e c rfl,e c.short rfl]
 simp only [q8,ad0] at hw
 have hb:=hw.1.1.2
 have e2:X8 f.body c=X8 f.body c.short:=by
  unfold X8 at hb ⊢
  have ha:YX c.short f.body.length=YX c f.body.length:=rfl
  rw [ha]
  cases hg:f.body[YX c f.body.length]? with
  | none=>rfl
  | some x =>
   simp only [hg] at hb ⊢
   have hm:tO x c∈f.body.set (YX c f.body.length) (tO x c):=List.mem_set (aa8.1 hg).1 _
   rw [Sn h (JL hb hm)]
 rw [e2]
theorem U4 {l:List GF}{c:sI}(h:65536 < c.name.length) (hw:(Bx l c).all q8=true):Bx l c=Bx l c.short:=by
 cases l with
 | nil=>rfl
 | cons f r =>
  simp only [Bx,List.all_cons,ad0] at hw ⊢
  rw [U2 h hw.1]
theorem ahA (l:List GF) (c:sI) (hw:(Bx l c).all q8=true):HD (Bx l c)≤HD l+65660:=by
 by_cases h:65536 < c.name.length
 ·rw [U4 h hw]
  have:=adZ l c.short
  have e:c.short.name.length=0:=rfl
  omega
 ·have:=adZ l c
  omega
theorem NJ (a:GE) (c:sI):(G_ a c).size≤a.size+1:=by
 obtain⟨k,p,n,name,args⟩:=a
 simp only [G_]
 split
 ·simp only [GE.size]; omega
 split
 ·simp only [GE.size]; omega
 split
 ·simp only [GE.size]; omega
 split
 ·simp only [GE.size,GE.oC,MA]; omega
 split
 ·simp only [GE.size,GE.oC]; omega
 ·simp only [GE.size]; omega
theorem So (x:GS) (c:sI):(tO x c).size≤x.size+1:=by
 obtain⟨k,p,m,name,ty,args,body,els,has⟩:=x
 have hch:=fun a=>NJ a c
 simp only [tO]
 split
 ·simp only [GS.size]; omega
 split
 ·simp only [GS.size]; omega
 split
 ·simp only [GS.size]; omega
 split
 ·simp only [GS.size]; omega
 split
 ·simp only [GS.size]; omega
 split
 ·simp only [GS.size]; omega
 split
 ·simp only [GS.size]; omega
 split
 ·simp only [GS.size,GE.oC,MA,GE.size]; omega
 split
 ·simp only [GS.size,GS.oC,O2,GE.oC]; omega
 split
 ·simp only [GS.size,GE.oC]; omega
 ·rename_i a r
  have:=hch a
  simp only [GS.size,GE.oC]; omega
theorem Lg:∀(l:List GS) (k:Nat) (x y:GS),l[k]?=some x→y.size≤x.size+1→GS.oC (l.set k y)≤GS.oC l+1
 | z::r,0,x,y,h,hw=>by simp at h; subst h; simp only [List.set_cons_zero,GS.oC]; omega
 | z::r,k+1,x,y,h,hw=>by
  have:=Lg r k x y (by simpa using h) hw
  simp only [List.set_cons_succ,GS.oC]; omega
theorem U3 (f:GF) (c:sI):(Ha f c).size≤f.size+1:=by
 unfold Ha
 split
 ·simp only [GF.size]; omega
 split
 ·simp only [GF.size]; omega
 split
 ·simp only [GF.size]; omega
 split
 ·simp only [GF.size]; omega
 split
 ·simp only [GF.size,ab0]; omega
 ·simp only [GF.size,X8]
  cases h:f.body[YX c f.body.length]? with
  | none=>simp only; omega
  | some x =>
   have:=Lg f.body _ x (tO x c) h (So x c)
   simp only; omega
theorem okC {l:List GF}(hw:HD l≤4400000000):OkC l:=by
 have mF:∀f∈l,f.params.length≤274877906944∧DV f.body≤4400000000:=fun f hf=>by
  have h1:=HG hf
  have h2:=HH f.params
  unfold wF at h1
  omega
 have h0:=HF l
 refine⟨by omega,fun f hf=>(mF f hf).1,fun f hf=>?_,fun f hf x hx=>?_⟩
 ·have h1:=(mF f hf).2
  have h2:=MY f.body
  omega
 ·have h1:=(mF f hf).2
  have h2:=R2 hx
  obtain⟨k,p,m,name,ty,args,body,els,has⟩:=x
  simp only [wS] at h2
  have h3:=HC args
  have h4:=MY body
  refine⟨by simp only [GS.args]; omega,by simp only [GS.body]; omega,fun a ha=>?_⟩
  have h5:=MX ha
  obtain⟨k,p,n,name,args'⟩:=a
  simp only [GS.args] at h5
  simp only [wE] at h5
  have h6:=HC args'
  simp only [GE.args]
  omega
theorem ME {T:Nat}:∀{l:List GF},l.all q8=true→(∀f∈l,1+EL f.body≤T)→((l.map wX).flatten).length≤HD l * (T+1)∧qU (l.map yD)≤HD l
 | [],_,_=>by simp [qU]
 | f::r,h,hd=>by
  simp only [List.all_cons,ad0] at h
  have h1:=acR h.1 (hd f (by simp))
  have h2:=ME h.2 (fun g hg=>hd g (by simp [hg]))
  simp only [af7,List.flatten_cons,List.length_append,HD,qU,Nat.add_mul]
  omega
theorem acJ {l:List GF}{f:GF}(hf:f∈l):f.size≤HD l+1:=by
 have h1:=HG hf
 have h2:=HH f.params
 have h3:=Da f.body
 unfold wF at h1
 unfold GF.size
 omega
theorem Qi {l:List GF}(hw:HD l≤4400000000) (hd:∀f∈l,EL f.body≤67):(∀f∈l,f.size≤4611686018427387904)∧l.length≤4611686018427387904∧(l.all q8=true→(tC l l.length).length≤1099511627776)∧(l.all q8=true→sJ l l.length≤1000000000000000):=by
 have h0:=HF l
 refine⟨fun f hf=>?_,by omega,fun h=>?_,fun h=>?_⟩
 ·have h1:=HG hf
  have h2:=HH f.params
  have h3:=Da f.body
  unfold wF at h1
  unfold GF.size
  omega
 ·have:=(ME (T:=68) h (fun f hf=>by have:=hd f hf; omega)).1
  simp only [tC,List.take_length]
  omega
 ·have:=(ME (T:=68) h (fun f hf=>by have:=hd f hf; omega)).2
  simp only [sJ,List.take_length]
  omega
theorem Ap (s:List UInt8):HD ((oQ s).1.map XF.CG)≤4308140232∧∀f∈(oQ s).1.map XF.CG,EL f.body≤65:=by
 have h:=Ot s
 refine⟨h.1,fun f hf=>?_⟩
 obtain⟨x,hx,rfl⟩:=List.mem_map.1 hf
 exact h.2 x hx
def pG (s:List UInt8):List GF:=(oQ s).1.map XF.CG
theorem agQ (s:List UInt8) (h:kL):KK 12 [.str s] h=some (.ret (.tuple [.agg (nX (pG s)),.agg [.int .i64 ((oQ s).2.1:Int),.int .i64 ((oQ s).2.2:Int)]]),h):=by
 rw [c12,XF.WC]; rfl
theorem avU (s:List UInt8) (c:sI) (h:kL):KK 13 [.agg (nX (pG s)),.agg c.cells] h=some (.ret (.agg (nX (Bx (pG s) c))),h) :=
 c13 _ c (okC (by have:=(Ap s).1; unfold pG; omega)) h
theorem avV (s:List UInt8) (h:kL):KK 14 [.agg (nX (pG s))] h=some (.ret (.tuple [.str (y4 (pG s)).1,.int .i64 (y4 (pG s)).2]),h):=by
 obtain⟨h1,h2,h3,h4⟩:=Qi (l:=pG s) (by have:=(Ap s).1; unfold pG; omega) (fun f hf=>by have:=(Ap s).2 f hf; omega)
 exact c14 _ h1 h2 h3 h4 h
theorem U5 (s:List UInt8) (c:sI) :
  (∀f∈Bx (pG s) c,f.size≤4611686018427387904)∧(Bx (pG s) c).length≤4611686018427387904∧((Bx (pG s) c).all q8=true→(tC (Bx (pG s) c) (Bx (pG s) c).length).length≤1099511627776)∧((Bx (pG s) c).all q8=true→sJ (Bx (pG s) c) (Bx (pG s) c).length≤1000000000000000):=by
 have h1:=(Ap s).1
 have hd:∀f∈Bx (pG s) c,EL f.body≤67:=fun f hf=>by
  have:=aoZ (c:=c) (Ap s).2 f hf
  omega
 have hsz:∀f∈pG s,f.size≤4308140233:=fun f hf=>by
  have:=acJ hf
  unfold pG at this
  omega
 have hlen:=HF (pG s)
 have hw:(Bx (pG s) c).all q8=true→HD (Bx (pG s) c)≤4400000000:=fun h=>by
  have:=ahA _ c h
  unfold pG at *
  omega
 refine⟨?_,?_,fun h=>(Qi (hw h) hd).2.2.1 h,fun h=>(Qi (hw h) hd).2.2.2 h⟩
 ·intro f hf
  cases hl:pG s with
  | nil=>rw [hl] at hf; simp [Bx] at hf
  | cons g r =>
   rw [hl] at hf hsz
   simp only [Bx,List.mem_cons] at hf
   rcases hf with rfl | hf
   ·have:=U3 g c
    have:=hsz g (by simp)
    omega
   ·have:=hsz f (by simp [hf])
    omega
 ·have e:(Bx (pG s) c).length=(pG s).length:=by cases pG s <;> rfl
  rw [e]
  unfold pG at *
  omega
theorem avZ (s:List UInt8) (c:sI) (h:kL):KK 14 [.agg (nX (Bx (pG s) c))] h=some (.ret (.tuple [.str (y4 (Bx (pG s) c)).1,.int .i64 (y4 (Bx (pG s) c)).2]),h):=by
 obtain⟨h1,h2,h3,h4⟩:=U5 s c
 exact c14 _ h1 h2 h3 h4 h
theorem av1 (s:List UInt8) (c:sI) (h:kL):KK 15 [.agg (nX (Bx (pG s) c))] h=some (.ret (.tuple [.str (y4 (Bx (pG s) c)).1,.int .i64 (y4 (Bx (pG s) c)).2]),h):=by
 obtain⟨h1,h2,h3,h4⟩:=U5 s c
 exact c15 _ h1 h2 h3 h4 h
end
section
open Go Hk
theorem sI.ae1 (s:List UInt8) (c:sI):([kH.str s,.agg c.cells].all (kH.nO 0))=true:=by simp [sI.cells,kH.nO,kH.pT,qO]
theorem c3 (s:List UInt8) (c:sI) (e11:∀h,KK 11 [] h=some (.ret (.bool true),h)) (h:kL):KK 3 [.str s,.agg c.cells] h=some (.ret (.bool true),h):=by
 refine lB rfl (sI.ae1 s c) (lA (aqH _ _ _ _) ?_)
 have e12:=agQ s
 have e13:=avU s c
 have e14:=avZ s c
 have e15:=av1 s c
 simp only [nX,sI.cells] at e12 e13 e14 e15
 by_cases hl:s.length > 20000
 ·have hl':(20000:Int) < s.length:=by omega
  simp -implicitDefEqProofs [m3,lO,lC,sI.cells,hl',e11,kK]
 ·have hl':¬(20000:Int) < s.length:=by omega
  simp -implicitDefEqProofs [m3,lO,lC,sI.cells,hl',e11,e12,e13,e14,e15,putCells,kK]
end
section
open Go Hk
def Zi:List UInt8:=[102,110,32,102,40,41,123,120,61,40,49,43,40,50,42,121,41,41,59,125]
def ad4:List UInt8:=[102,110,32,102,40,41,32,123,10,32,120,32,61,32,49,32,43,32,50,32,42,32,121,59,10,125,10]
theorem ahK:y4 (pG Zi)=(ad4,0):=by kernel_rfl
theorem c11 (h:kL):KK 11 [] h=some (.ret (.bool true),h):=by
 refine lB rfl rfl (lA (aiI _ _) ?_)
 have e12:=agQ Zi
 have e14:=avV Zi
 rw [ahK] at e14
 simp only [nX,Zi,ad4] at e12 e14
 simp -implicitDefEqProofs [m11,lO,lC,e12,e14,putCells,kK]
end
section
open Go Hk

end
section
open Go Hk
theorem aw1 (s:List UInt8) (c:sI) (_:s.length≤maxLen):Iv Tryz.prog mK 3 [.str s,.agg c.cells] []=some (.ret (.bool true),[]):=aeO rfl (c3 s c c11 [])
end
end Go.Proofs.YtlddmnojanpdoaaGreatDoor
