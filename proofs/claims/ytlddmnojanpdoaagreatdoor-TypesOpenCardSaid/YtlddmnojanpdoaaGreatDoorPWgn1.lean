/-
  The texts WG.BB, WG.LA, WG.LB, WG.LC, one behind another. No conditions.
-/
import Derived.Test.YtlddmnojanpdoaaGreatDoorPWg1
import Derived.Test.YtlddmnojanpdoaaGreatDoorPSga1
import Derived.Test.YtlddmnojanpdoaaGreatDoorPLg1
set_option linter.unusedVariables false
set_option linter.unusedSimpArgs false
set_option linter.all false
open List renaming cons_append → ae7, length_nil → ac6, mem_of_getElem? → ad8, takeWhile_cons → al8
open Nat renaming add_zero → al7, le_refl → ab6, zero_le → ah8
open Option.some renaming injEq → ab1
open Prod.mk renaming injEq → ah1
namespace Go.Proofs.YtlddmnojanpdoaaGreatDoor
section
open Go Hk
def Ty.o8 (t:Ty):GT:=⟨t.elem,t.len,t.label⟩
mutual
def XE.o8:XE→GE
 | .mk k p n name args=>.mk k p n name (XE.pJ args)
def XE.pJ:List XE→List GE
 | []=>[]
 | x::r=>x.o8::XE.pJ r
end
theorem XE.LP:∀l:List XE,XE.pJ l=l.map XE.o8
 | []=>rfl
 | x::r=>by simp [XE.pJ,XE.LP r]
mutual
def XS.o8:XS→GS
 | .mk k p m name ty args body els has=>.mk k p m name ty.o8 (XE.pJ args) (XS.pJ body) (XS.pJ els) has
def XS.pJ:List XS→List GS
 | []=>[]
 | x::r=>x.o8::XS.pJ r
end
def XP.o8 (p:XP):GP:=⟨p.pos,p.name,p.ty.o8,p.out⟩
def XF.o8 (f:XF):GF:=⟨f.pos,f.name,f.params.map XP.o8,f.has,f.result.o8,XS.pJ f.body⟩
def eW (x:XE):Nat:=wE x.o8+4
def sW (x:XS):Nat:=wS x.o8+4
def pW (p:XP):Nat:=wP p.o8+4
def fW (f:XF):Nat:=wF f.o8
def lw {α:Type}(w:α→Nat):List α→Nat
 | []=>0
 | x::r=>w x+lw w r
theorem FA {α:Type}{w:α→Nat}:∀{l:List α}{x:α},lw w (l++[x])=lw w l+w x
 | [],x=>by simp [lw]
 | y::r,x=>by simp only [ae7,lw,FA (l:=r)]; omega
theorem ahM {α:Type}{w:α→Nat}:∀{l m:List α},lw w (l++m)=lw w l+lw w m
 | [],m=>by simp [lw]
 | y::r,m=>by simp only [ae7,lw,ahM (l:=r)]; omega
theorem XI:∀l:List XE,FY (XE.pJ l)=lw eW l
 | []=>rfl
 | x::r=>by simp only [XE.pJ,FY,lw,eW,XI r]
theorem XJ:∀l:List XS,FZ (XS.pJ l)=lw sW l
 | []=>rfl
 | x::r=>by simp only [XS.pJ,FZ,lw,sW,XJ r]
theorem ak3:∀l:List XP,VD (l.map XP.o8)=lw pW l
 | []=>rfl
 | x::r=>by simp only [List.map_cons,VD,lw,pW,ak3 r]
theorem ak1:∀l:List XF,J1 (l.map XF.o8)=lw fW l
 | []=>rfl
 | x::r=>by simp only [List.map_cons,J1,lw,fW,ak1 r]
theorem Gd {k p n:Nat}{name:List UInt8}{args:List XE}:eW (.mk k p n name args)=name.length+64+lw eW args:=by
 simp only [eW,XE.o8,wE,XI]; omega
theorem Ig {k p m:Nat}{name:List UInt8}{ty:Ty}{args:List XE}{b e:List XS}{has:Bool}:sW (.mk k p m name ty args b e has)=name.length+124+lw eW args+lw sW b+lw sW e:=by
 simp only [sW,XS.o8,wS,XI,XJ]; omega
section
variable (L:List Token)
def Jn:Nat→Nat
 | 0=>0
 | a+1=>Jn a+(tk L a).text.length+200
def PA {α:Type}(x:PM α) (a c:Nat) (w:α→Nat):Prop:=∀d v a' d',x a d=.ok v a' d'→Jn L a+w v≤Jn L a'+c
def xV {α:Type}(x:PM α) (w:α→Nat):Prop:=∀a c,PA L x a c (fun v=>c+w v)
variable {L} {α β:Type}
theorem PA.bind {x:PM α}{f:α→PM β}{a c:Nat}{wx:α→Nat}{w:β→Nat}(hx:PA L x a c wx) (hf:∀v a1,PA L (f v) a1 (wx v) w):PA L (x >>= f) a c w:=by
 intro d v a' d' h
 simp only [mL,PM.bind] at h
 cases h1:x a d with
 | ok u a1 d1 =>
  rw [h1] at h
  have e1:=hx d u a1 d1 h1
  have e2:=hf u a1 d1 v a' d' h
  omega
 | bad e p a1 d1=>rw [h1] at h; cases h
theorem PA.pure {v:α}{a c:Nat}{w:α→Nat}(h:w v≤c):PA L (Pure.pure v:PM α) a c w:=by
 intro d u a' d' e
 simp only [y6,Out.ok.injEq] at e
 obtain⟨rfl,rfl,_⟩:=e
 omega
theorem PA.fail {e a c:Nat}{w:α→Nat}:PA L (w8 L e:PM α) a c w:=by intro d u a' d' h; cases h
theorem PA.ite {p:Prop} [Decidable p] {x y:PM α}{a c:Nat}{w:α→Nat}(hx:PA L x a c w) (hy:PA L y a c w):PA L (if p then x else y) a c w:=by
 split
 ·exact hx
 ·exact hy
theorem PA.here {f:Token→PM α}{a c:Nat}{w:α→Nat}(h:PA L (f (tk L a)) a c w):PA L (oQ L >>= f) a c w:=fun d=>h d
theorem PA.next {f:Unit→PM α}{a c:Nat}{w:α→Nat}(h:PA L (f ()) (a+1) (c+(tk L a).text.length+200) w):PA L (xS >>= f) a c w:=by
 intro d v a' d' e
 have:=h d v a' d' e
 simp only [Jn] at this
 omega
theorem PA.kind {k:Nat}{f:Token→PM α}{a c:Nat}{w:α→Nat}(h:PA L (f (tk L a)) (a+1) (c+(tk L a).text.length+200) w):PA L (qM L k >>= f) a c w:=by
 intro d v a' d' e
 simp only [mL,PM.bind,qM] at e
 split at e
 ·rename_i h1
  split at h1
  ·cases h1
   have:=h _ v a' d' e
   simp only [Jn] at this
   omega
  ·cases h1
 ·cases e
theorem PA.le {x:PM α}{a c c':Nat}{w w':α→Nat}(h:PA L x a c w) (hc:c≤c') (hw:∀v,w' v≤w v):PA L x a c' w':=by
 intro d v a' d' e
 have:=h d v a' d' e
 have:=hw v
 omega
theorem VT {s:List UInt8}:xV L (GV L s) (fun _=>0):=by
 intro a c d v a' d' e; dsimp only; simp only [GV,Out.ok.injEq] at e; obtain⟨_,rfl,_⟩:=e; omega
theorem aIz:xV L pUp (fun _=>0):=by
 intro a c d v a' d' e; dsimp only; simp only [pUp,Out.ok.injEq] at e; obtain⟨_,rfl,_⟩:=e; omega
theorem Cn {a:Nat}:Jn L a+200≤Jn L (a+1):=by simp only [Jn]; omega
theorem AZ {s:List UInt8}:xV L (pM L s) (fun b=>if b then 200 else 0):=by
 intro a c d v a' d' e; dsimp only
 simp only [pM,Out.ok.injEq] at e
 obtain⟨rfl,rfl,_⟩:=e
 split
 ·have:=Cn (L:=L) (a:=a); omega
 ·omega
theorem xW {s:List UInt8}:xV L (oR L s) (fun _=>200):=by
 intro a c d v a' d' e; dsimp only
 simp only [oR] at e
 split at e
 ·cases e; have:=Cn (L:=L) (a:=a); omega
 ·cases e
theorem DT {k:Nat}:xV L (qM L k) (fun t=>t.text.length+200):=by
 intro a c d v a' d' e; dsimp only
 simp only [qM] at e
 split at e
 ·cases e; simp only [Jn]; omega
 ·cases e
theorem II {s:List UInt8}:xV L (uI L s) (fun _=>200):=by
 intro a c d v a' d' e; dsimp only
 simp only [uI] at e
 split at e
 ·split at e
  ·cases e
  ·cases e; have:=Cn (L:=L) (a:=a); omega
 ·cases e
theorem IJ {s:List UInt8}:xV L (uJ L s) (fun _=>200):=by
 intro a c d v a' d' e; dsimp only
 simp only [uJ] at e
 split at e
 ·cases e; have:=Cn (L:=L) (a:=a); omega
 ·cases e
theorem QY:xV L (sP L) (fun _=>200):=by
 intro a c d v a' d' e; dsimp only
 simp only [sP] at e
 split at e
 ·cases e; have:=Cn (L:=L) (a:=a); omega
 ·split at e
  ·cases e; have:=Cn (L:=L) (a:=a); omega
  ·cases e
theorem Tz {l:Nat}:xV L (qO L l) (fun _=>0):=by
 intro a c d v a' d' e; dsimp only
 simp only [qO] at e
 have:=Cn (L:=L) (a:=a)
 split at e
 ·cases e; omega
 ·split at e
  ·cases e; omega
  ·cases e
theorem ae1:xV L (yK L) (fun _=>0):=fun a c =>
 (xW a c).bind fun _ a1=>PA.here (PA.ite PA.fail ((DT a1 _).bind fun _ a2=>(xW a2 _).bind fun _ a3=>PA.pure (by(try dsimp only); omega)))
theorem X9 {l:Nat}:xV L (vI L l) (fun _=>0):=fun a c =>
 (AZ a c).bind fun b a1=>PA.ite ((ae1 a1 _).bind fun _ a2=>PA.pure (by(try dsimp only); omega)) ((Tz a1 _).bind fun t a2=>PA.ite ((VT a2 _).bind fun _ a3=>PA.ite ((ae1 a3 _).bind fun _ a4=>PA.pure (by(try dsimp only); omega)) (PA.pure (by(try dsimp only); omega))) (PA.pure (by(try dsimp only); omega)))
theorem anQ:xV L (uZ L) pW:=fun a c =>
 (AZ a c).bind fun _ a1=>(QY a1 _).bind fun _ a2=>(DT a2 _).bind fun t a3=>(xW a3 _).bind fun _ a4=>(X9 a4 _).bind fun _ a5=>PA.pure (by(try dsimp only); simp only [pW,wP,XP.o8]; omega)
theorem ae2 {one:PM α}{w:α→Nat}(h:xV L one w):∀(n:Nat) (l:List α) (a c:Nat),PA L (xR L one n l) a (c+lw w l) (fun l'=>c+lw w l')
 | 0,_,_,_=>PA.fail
 | n+1,l,a,c=>(h a _).bind fun x a1=>(AZ a1 _).bind fun b a2=>PA.ite
   (by
    have:=ae2 h n (l++[x]) a2 c
    refine this.le ?_ fun _=>ab6 _
    rw [FA]; omega)
   (PA.pure (by(try dsimp only); rw [FA]; omega))
theorem ae0 {one:PM α}{w:α→Nat}{s:List UInt8}(h:xV L one w):xV L (yW L s one) (lw w):=fun a c =>
 (VT a c).bind fun _ a1=>PA.ite (PA.pure (by(try dsimp only); simp only [lw]; omega)) (by
  have:=ae2 h 131073 [] a1 c
  simp only [lw,al7] at this
  exact this.le (by(try dsimp only); omega) fun _=>ab6 _)
section
variable {ex un:PM XE}(he:xV L ex eW)
include he
theorem X8:xV L (uT L ex) (lw eW):=fun a c =>
 (II a c).bind fun _ a1=>(he a1 _).bind fun x a2=>(IJ a2 _).bind fun _ a3=>PA.pure (by(try dsimp only); simp only [lw]; omega)
theorem aeX {t:Token}{a c:Nat}:PA L (zQ L ex t) a (c+t.text.length) (fun x=>c+eW x) :=
 (II a _).bind fun _ a1=>(ae0 he a1 _).bind fun l a2=>(IJ a2 _).bind fun _ a3=>PA.pure (by(try dsimp only); rw [Gd]; omega)
theorem aeW:∀(n:Nat) (b:Bool) (l:List XE) (a c:Nat),PA L (tN L ex n b l) a (c+lw eW l) (fun l'=>c+lw eW l')
 | 0,_,_,_,_=>PA.pure (ab6 _)
 | n+1,b,l,a,c=>by
  have h1:∀(u:Unit) (a1:Nat) (c1:Nat),c+lw eW l≤c1→PA L (do let x ←ex; tN L ex n false (l++[x]):PM (List XE)) a1 c1 (fun l'=>c+lw eW l'):=fun _ a1 c1 hc=>by
   have h2:PA L (do let x ←ex; tN L ex n false (l++[x]):PM (List XE)) a1 (c+lw eW l) (fun l'=>c+lw eW l'):=(he a1 _).bind fun x a2=>by
    have:=aeW n false (l++[x]) a2 c
    refine this.le ?_ fun _=>ab6 _
    rw [FA]; omega
   exact h2.le hc fun _=>ab6 _
  cases b
  ·exact(xW a _).bind fun u a1=>h1 u a1 _ (by(try dsimp only); omega)
  ·exact PA.bind (x:=(Pure.pure PUnit.unit:PM PUnit)) (wx:=fun _=>c+lw eW l) (PA.pure (ab6 _)) fun u a1=>h1 u a1 _ (ab6 _)
theorem Mh {kind many:Nat}{number:Bool}:xV L (vW L ex kind many number) eW:=fun a c =>
 PA.here (PA.next ((II _ _).bind fun _ a1=>by
  have h:=aeW he many true [] a1 (c+200)
  simp only [lw,al7] at h
  refine PA.bind (h.le (by(try dsimp only); omega) fun _=>ab6 _) fun l a2=>PA.ite
   ((xW a2 _).bind fun _ a3=>(DT a3 _).bind fun _ a4=>(IJ a4 _).bind fun _ a5=>PA.pure (by(try dsimp only); rw [Gd]; simp; omega))
   ((IJ a2 _).bind fun _ a3=>PA.pure (by(try dsimp only); rw [Gd]; simp; omega))))
theorem aaA:xV L (qD L ex) eW:=fun a c =>
 PA.here (PA.ite (PA.next (PA.pure (by(try dsimp only); rw [Gd]; simp [lw]; omega)))
  (PA.ite ((II a c).bind fun _ a1=>(he a1 _).bind fun x a2=>(IJ a2 _).bind fun _ a3=>PA.pure (by(try dsimp only); omega))
  (PA.ite (Mh he a c) (PA.ite (Mh he a c) (PA.ite (Mh he a c) (PA.ite (Mh he a c) (PA.ite (Mh he a c)
  (PA.kind ((VT _ _).bind fun _ a1=>PA.ite
   ((aeX he (c:=c)).le (by(try dsimp only); omega) fun _=>ab6 _)
   ((VT a1 _).bind fun _ a2=>PA.ite ((X8 he a2 _).bind fun l a3=>PA.pure (by(try dsimp only); rw [Gd]; omega)) (PA.pure (by(try dsimp only); rw [Gd]; simp only [lw]; omega))))))))))))
variable (hu:xV L un eW)
include hu
theorem anR:xV L (x_ L ex un) eW:=by
 have hs:∀kind a c,PA L (AH L un kind) a c (fun x=>c+eW x):=fun kind a c=>PA.here ((II a c).bind fun _ a1=>(hu a1 _).bind fun x a2=>(aIz a2 _).bind fun _ a3=>PA.pure (by(try dsimp only); rw [Gd]; simp only [lw,ac6]; omega))
 exact fun a c=>PA.here (PA.ite (hs _ a c) (PA.ite (hs _ a c) (PA.ite (hs _ a c) (aaA he a c))))
end
theorem VU {next:PM XE}(hn:xV L next eW) (k:Nat):∀(n:Nat) (x:XE) (a c:Nat),PA L (tO L next k n x) a (c+eW x) (fun y=>c+eW y)
 | 0,_,_,_=>PA.fail
 | n+1,x,a,c=>PA.here (by
   cases h:pO (tk L a) k with
   | none=>exact PA.pure (ab6 _)
   | some kind =>
    refine PA.next (PA.ite ((DT _ _).bind fun t a1=>?_) ((hn _ _).bind fun y a1=>?_))
    ·exact(VU hn k n _ a1 c).le (by(try dsimp only); rw [Gd]; simp only [lw,ac6]; omega) fun _=>ab6 _
    ·exact(VU hn k n _ a1 c).le (by(try dsimp only); rw [Gd]; simp only [lw,ac6]; omega) fun _=>ab6 _)
theorem Lc {un:PM XE}(hu:xV L un eW):∀j,xV L (pD L un j) eW
 | 0=>hu
 | j+1=>fun a c=>(Lc hu j a c).bind fun x a1=>VU (Lc hu j) (6 - j) 131073 x a1 c
theorem aeZ {un:PM XE}(hu:xV L un eW):xV L (Bg L un) eW:=fun a c =>
 (Lc hu 6 a c).bind fun x a1=>PA.here (by
  cases h:pO (tk L a1) 0 with
  | none=>exact PA.pure (ab6 _)
  | some kind=>exact PA.next ((Lc hu 6 _ _).bind fun y a2=>PA.pure (by(try dsimp only); rw [Gd]; simp only [lw,ac6]; omega)))
theorem axJ:∀n,xV L (Ew L n) eW
 | 0=>fun _ _=>PA.fail
 | n+1=>anR (aeZ (axJ n)) (axJ n)
theorem aeY (n:Nat):xV L (BX L n) eW:=aeZ (axJ n)
theorem X6 (n:Nat):xV L (Br L n) (lw eW):=fun a c=>(aeY n a c).bind fun x a1=>(xW a1 _).bind fun _ a2=>PA.pure (by(try dsimp only); simp only [lw]; omega)
theorem anP (n pos:Nat):xV L (pN L n pos) sW:=fun a c =>
 PA.kind ((VT _ _).bind fun _ a1=>PA.ite
  (((aeX (aeY (n - 1)) (c:=c+200)).le (by(try dsimp only); omega) fun _=>ab6 _).bind fun x a2=>(xW a2 _).bind fun _ a3=>PA.pure (by(try dsimp only); rw [Ig]; simp only [lw,ac6]; omega))
  ((VT a1 _).bind fun _ a2=>PA.ite
   ((X8 (aeY (n - 1)) a2 _).bind fun i a3=>(xW a3 _).bind fun _ a4=>(X6 n a4 _).bind fun l a5=>PA.pure (by(try dsimp only); rw [Ig,ahM]; simp only [lw]; omega))
   ((xW a2 _).bind fun _ a3=>(X6 n a3 _).bind fun l a4=>PA.pure (by(try dsimp only); rw [Ig]; simp only [lw]; omega))))
theorem axI {block:PM (List XS)}(hb:xV L block (lw sW)) (n:Nat):xV L (uK L block n) sW:=fun a c =>
 PA.here ((AZ a c).bind fun _ a1=>PA.ite
  ((DT a1 _).bind fun t a2=>(xW a2 _).bind fun _ a3=>(X6 n a3 _).bind fun l a4=>PA.pure (by(try dsimp only); rw [Ig]; simp only [lw]; omega))
  ((AZ a1 _).bind fun _ a2=>PA.ite
   ((QY a2 _).bind fun _ a3=>(DT a3 _).bind fun t a4=>(xW a4 _).bind fun _ a5=>(X9 a5 _).bind fun ty a6=>(xW a6 _).bind fun _ a7=>PA.pure (by(try dsimp only); rw [Ig]; simp only [lw]; omega))
   ((AZ a2 _).bind fun b a3=>by
    cases b
    ·exact(AZ a3 _).bind fun _ a4=>PA.ite
      ((DT a4 _).bind fun t a5=>(xW a5 _).bind fun _ a6=>(aeY n a6 _).bind fun x a7=>(xW a7 _).bind fun _ a8=>(DT a8 _).bind fun m a9=>(hb a9 _).bind fun bl a10=>PA.pure (by(try dsimp only); rw [Ig]; simp only [lw]; omega))
      ((AZ a4 _).bind fun b a5=>by
       cases b
       ·exact(anP n _ a5 c).le (by(try dsimp only); omega) fun _=>ab6 _
       ·exact(X6 n a5 _).bind fun l a6=>PA.pure (by(try dsimp only); rw [Ig]; simp only [lw,ac6,if_true]; omega))
    ·exact(aeY n a3 _).bind fun x a4=>(hb a4 _).bind fun bl a5=>(AZ a5 _).bind fun _ a6=>PA.ite
      ((hb a6 _).bind fun e a7=>PA.pure (by(try dsimp only); rw [Ig]; simp only [lw,ac6,if_true]; omega))
      (PA.pure (by(try dsimp only); rw [Ig]; simp only [lw,ac6,if_true]; omega)))))
theorem X_ {stmt:PM XS}(hs:xV L stmt sW):∀(m:Nat) (l:List XS) (a c:Nat),PA L (vX L stmt m l) a (c+lw sW l) (fun l'=>c+lw sW l')
 | 0,_,_,_=>PA.fail
 | m+1,l,a,c=>(VT a _).bind fun _ a1=>PA.ite (PA.pure (by(try dsimp only); omega)) ((hs a1 _).bind fun x a2=>(X_ hs m (l++[x]) a2 c).le (by(try dsimp only); rw [FA]; omega) fun _=>ab6 _)
theorem QX:∀n,xV L (sB L n) (lw sW)
 | 0=>fun _ _=>PA.fail
 | n+1=>fun a c=>(II a c).bind fun _ a1=>by
   have h:=X_ (axI (QX n) n) 131073 [] a1 c
   simp only [lw,al7] at h
   exact(h.le (by(try dsimp only); omega) fun _=>ab6 _).bind fun l a2=>(IJ a2 _).bind fun _ a3=>PA.pure (by(try dsimp only); omega)
theorem avL {p:Nat}{name:List UInt8}{ps:List XP}{has:Bool}{ty:Ty}{b:List XS}:fW ⟨p,name,ps,has,ty,b⟩=name.length+120+lw pW ps+lw sW b:=by
 simp only [fW,XF.o8,wF,ak3,XJ]
theorem axH:xV L (wJ L) fW:=fun a c =>
 (xW a c).bind fun _ a1=>(DT a1 _).bind fun t a2=>(xW a2 _).bind fun _ a3=>(ae0 anQ a3 _).bind fun ps a4=>(xW a4 _).bind fun _ a5=>(AZ a5 _).bind fun _ a6=>PA.ite
  ((QY a6 _).bind fun _ a7=>(Tz a7 _).bind fun ty a8=>(QX 65 a8 _).bind fun b a9=>PA.pure (by(try dsimp only); rw [avL]; omega))
  ((QX 65 a6 _).bind fun b a7=>PA.pure (by(try dsimp only); rw [avL]; omega))
theorem X7:∀(m:Nat) (l:List XF) (a c:Nat),PA L (o7 L m l) a (c+lw fW l) (fun l'=>c+lw fW l')
 | 0,_,_,_=>PA.fail
 | m+1,l,a,c=>PA.here (PA.ite (PA.pure (ab6 _)) ((axH a _).bind fun f a1=>(X7 m (l++[f]) a1 c).le (by(try dsimp only); rw [FA]; omega) fun _=>ab6 _))
end
end
section
open Go Hk
def L5 (t:List UInt8):Prop:=(∃b r,t=b::r∧pI b=true)∧(∀c∈t,isWord c=true)∧t.length≤40∧t ∉ uH
theorem acM {d:List UInt8}{a n:Nat}{x:Token}(h:uO d a=some (x,n)) (hk:x.kind=1):L5 x.text:=by
 unfold uO at h
 cases d with
 | nil=>cases h
 | cons b r =>
  simp only [] at h
  by_cases h1:pI b=true
  ·rw [if_pos h1] at h
   split at h
   ·cases h
   ·rename_i h40
    simp only [ab1,ah1] at h
    obtain⟨rfl,_⟩:=h
    have hw:¬nR (b::r)∈uH:=fun hm=>by simp [hm] at hk
    exact⟨⟨b,nR r,by simp [nR,al8,isWord,h1],h1⟩,Jt _,Nat.le_of_not_lt h40,hw⟩
  ·rw [if_neg h1] at h
   split at h
   ·split at h
    ·cases h
    ·simp only [ab1,ah1] at h
     obtain⟨rfl,_⟩:=h
     cases hk
   ·split at h
    ·cases h
    ·simp only [ab1,ah1] at h
     obtain⟨rfl,_⟩:=h
     cases hk
theorem Zs:∀{l:List UInt8},(∀c∈l,isWord c=true)→nR l=l
 | [],_=>rfl
 | b::r,h=>by
  have ih:=Zs (l:=r) fun c hc=>h c (by simp [hc])
  unfold nR at ih ⊢
  simp [al8,h b (by simp),ih]
theorem asN {t:List UInt8}(h:L5 t) (p:Nat):uO t p=some (⟨1,p,0,t⟩,t.length):=by
 obtain⟨⟨b,r,rfl,hb⟩,hw,h40,hm⟩:=h
 unfold uO
 simp only [Zs hw,hb,if_true]
 rw [if_neg (by omega),if_neg hm]
theorem UM {t:List UInt8}(h:L5 t):qR t=true:=by
 have h1:=asN h 0
 obtain⟨⟨b,r,rfl,hb⟩,hw,h40,hm⟩:=h
 have hb2:=P9 hb
 have e:oI (b::r)=([⟨1,0,0,b::r⟩,⟨0,(b::r).length,0,[]⟩],0,0):=by
  unfold oI
  rw [if_neg (by omega)]
  rw [rI (zW (a:=0) (b:=b) rfl hb2.1 hb2.2) (by simp) (by rw [List.drop_zero]; exact h1) rfl]
  rw [BP]
  ·rfl
  ·have:=v_ (b::r) (0+max 1 (b::r).length)
   omega
 unfold qR
 rw [e]
 simp
def TF (x:Token):Prop:=(x.kind=1→L5 x.text)∧x.num≤4294967295
theorem WM (s:List UInt8) (a:Nat) (out:List Token) (ho:∀x∈out,TF x):∀x∈(lexFrom s a out).1,TF x:=by
 fun_induction lexFrom s a out with
 | case1 a out h h3=>intro x hx; cases hx
 | case2 a out h t n h3 ih =>
  refine ih fun x hx=>?_
  rcases List.mem_append.1 hx with hx | hx
  ·exact ho x hx
  ·obtain rfl:=List.mem_singleton.1 hx
   exact⟨fun hk=>acM h3 hk,(YC h3).1.2.1⟩
 | case3 a out h =>
  intro x hx
  rcases List.mem_append.1 hx with hx | hx
  ·exact ho x hx
  ·obtain rfl:=List.mem_singleton.1 hx
   exact⟨fun hk=>(by cases hk),ah8 _⟩
theorem Uy (s:List UInt8):∀x∈(oI s).1,TF x:=by
 unfold oI
 split
 ·intro x hx; cases hx
 ·exact WM s 0 [] (fun x hx=>by cases hx)
theorem apM (s:List UInt8) (a:Nat):TF (tk (oI s).1 a):=by
 have h:=Uy s
 unfold tk
 cases hg:(oI s).1[a]? with
 | none=>exact⟨fun hk=>(by cases hk),ah8 _⟩
 | some x=>exact h x (ad8 hg)
def WA {α:Type}(x:PM α) (a d d':Nat) (R:α→Prop):Prop:=∀v a1 d1,x a d=.ok v a1 d1→d1=d'∧R v
def WP {α:Type}(x:PM α) (d d':Nat) (R:α→Prop):Prop:=∀a,WA x a d d' R
section
variable {L:List Token}{α β:Type}{R:α→Prop}{S:β→Prop}{a d d' d'':Nat}
theorem WA.bind {x:PM α}{f:α→PM β}(hx:WA x a d d' R) (hf:∀v,R v→WP (f v) d' d'' S):WA (x >>= f) a d d'' S:=by
 intro v a1 dd h
 rw [mL] at h
 unfold PM.bind at h
 cases hx1:x a d with
 | bad e p a1 d1=>rw [hx1] at h; cases h
 | ok v1 a2 d2 =>
  rw [hx1] at h
  obtain⟨rfl,hR⟩:=hx _ _ _ hx1
  exact hf v1 hR a2 _ _ _ h
theorem WP.bind {x:PM α}{f:α→PM β}(hx:WP x d d' R) (hf:∀v,R v→WP (f v) d' d'' S):WP (x >>= f) d d'' S:=fun a=>(hx a).bind hf
theorem WP.pure {v:α}(h:R v):WP (Pure.pure v:PM α) d d R:=by intro a v' a1 d1 h'; cases h'; exact⟨rfl,h⟩
theorem WP.fail {e:Nat}:WP (w8 L e:PM α) d d' R:=by intro a v a1 d1 h; cases h
theorem WP.ite {c:Prop} [Decidable c] {x y:PM α}(hx:c→WP x d d' R) (hy:¬c→WP y d d' R):WP (if c then x else y) d d' R:=by
 split
 ·rename_i h; exact hx h
 ·rename_i h; exact hy h
theorem WA.ite {c:Prop} [Decidable c] {x y:PM α}(hx:c→WA x a d d' R) (hy:¬c→WA y a d d' R):WA (if c then x else y) a d d' R:=by
 split
 ·rename_i h; exact hx h
 ·rename_i h; exact hy h
theorem WA.here {f:Token→PM α}(h:WA (f (tk L a)) a d d' R):WA (oQ L >>= f) a d d' R:=fun v a1 d1 h'=>h v a1 d1 h'
theorem WA.next {f:Unit→PM α}(h:WP (f ()) d d' R):WA (xS >>= f) a d d' R:=fun v a1 d1 h'=>h (a+1) v a1 d1 h'
theorem WP.mono {x:PM α}{R':α→Prop}(h:WP x d d' R) (hm:∀v,R v→R' v):WP x d d' R':=fun a v a1 d1 h'=>⟨(h a v a1 d1 h').1,hm v (h a v a1 d1 h').2⟩
abbrev TT {α:Type}:α→Prop:=fun _=>True
theorem SU:WP (oQ L) d d TT:=by intro a v a1 d1 h; cases h; exact⟨rfl,trivial⟩
theorem XK {w:List UInt8}:WP (GV L w) d d TT:=by intro a v a1 d1 h; cases h; exact⟨rfl,trivial⟩
theorem aK9:WP pUp (d+1) d TT:=by intro a v a1 d1 h; cases h; exact⟨rfl,trivial⟩
theorem A_ {w:List UInt8}:WP (pM L w) d d TT:=by intro a v a1 d1 h; cases h; exact⟨rfl,trivial⟩
theorem yE {w:List UInt8}:WP (oR L w) d d TT:=by
 intro a v a1 d1 h; unfold oR at h
 split at h
 ·cases h; exact⟨rfl,trivial⟩
 ·cases h
theorem J2 {w:List UInt8}(hd:d≤64):WP (uI L w) d (d+1) (fun _=>d+1≤64):=by
 intro a v a1 d1 h; unfold uI at h
 split at h
 ·split at h
  ·cases h
  ·cases h; exact⟨rfl,by omega⟩
 ·cases h
theorem J3 {w:List UInt8}:WP (uJ L w) (d+1) d TT:=by
 intro a v a1 d1 h; unfold uJ at h
 split at h
 ·cases h; exact⟨rfl,trivial⟩
 ·cases h
theorem LR {k:Nat}:WA (qM L k) a d d (fun t=>t=tk L a∧t.kind=k):=by
 intro v a1 d1 h; unfold qM at h
 split at h
 ·rename_i hk; cases h; exact⟨rfl,rfl,hk⟩
 ·cases h
theorem SX:WP (sP L) d d (fun l=>l=0∨l=1):=by
 intro a v a1 d1 h; unfold sP at h
 split at h
 ·cases h; exact⟨rfl,.inr rfl⟩
 ·split at h
  ·cases h; exact⟨rfl,.inl rfl⟩
  ·cases h
theorem VE {l:Nat}(hl:l=0∨l=1):WP (qO L l) d d (fun t=>sJ t.o8=true∧t.len=0∧t.elem≠2∧t.label=l):=by
 intro a v a1 d1 h; unfold qO at h
 split at h
 ·cases h; refine⟨rfl,?_,rfl,(fun h=>by cases h),rfl⟩; rcases hl with rfl | rfl <;> decide
 ·split at h
  ·cases h; refine⟨rfl,?_,rfl,(fun h=>by cases h),rfl⟩; rcases hl with rfl | rfl <;> decide
  ·cases h
variable (hT:∀a,TF (tk L a))
include hT
theorem F0:WP (qM L 1) d d (fun t=>qR t.text=true):=fun a v a1 d1 h=>by
 obtain⟨h1,h2,h3⟩:=LR v a1 d1 h
 exact⟨h1,by subst h2; exact UM ((hT a).1 h3)⟩
theorem SV:WP (qM L 2) d d (fun t=>t.num≤4294967295):=fun a v a1 d1 h=>by
 obtain⟨h1,h2,h3⟩:=LR v a1 d1 h
 exact⟨h1,by subst h2; exact(hT a).2⟩
theorem alA:WP (yK L) d d (fun n=>n≠0∧n≤4294967295):=by
 unfold yK
 refine yE.bind fun _ _ a=>WA.here (WA.ite (fun _=>WP.fail a) fun h=>WA.bind LR fun n hn=>yE.bind fun _ _=>WP.pure ?_)
 obtain⟨rfl,hk⟩:=hn
 exact⟨fun h0=>h ⟨hk,h0⟩,(hT a).2⟩
theorem ZR {l:Nat}(hl:l=0∨l=1):WP (vI L l) d d (fun t=>sJ t.o8=true):=by
 unfold vI
 refine A_.bind fun _ _=>WP.ite (fun _=>(alA hT).bind fun n hn=>WP.pure ?_) fun _=>(VE hl).bind fun t ht=>WP.ite (fun he=>XK.bind fun _ _=>WP.ite (fun _=>(alA hT).bind fun n hn=>WP.pure ?_) fun _=>WP.pure ht.1) fun _=>WP.pure ht.1
 ·rcases hl with rfl | rfl <;> simp [sJ,Ty.o8,zB] <;> omega
 ·rcases hl with rfl | rfl <;> simp [sJ,Ty.o8,zB,he,ht.2.2.2] <;> omega
theorem auB:WP (uZ L) d d (fun p=>uU p.o8=true):=by
 unfold uZ
 refine A_.bind fun _ _=>SX.bind fun l hl=>(F0 hT).bind fun t ht=>yE.bind fun _ _=>(ZR hT hl).bind fun ty hty=>WP.pure ?_
 simp [uU,XP.o8,ht,hty]
omit hT
theorem Ff {l:List α}{x:α}(hl:∀y∈l,R y) (hx:R x):∀y∈l++[x],R y:=fun y hy=>by
 rcases List.mem_append.1 hy with hy | hy
 ·exact hl y hy
 ·rw [List.mem_singleton.1 hy]; exact hx
theorem Eb:∀y∈([]:List α),R y:=fun y hy=>by cases hy
theorem alB {one:PM α}(h1:WP one d d R):∀(n:Nat) (l:List α),(∀x∈l,R x)→WP (xR L one n l) d d (fun l=>∀x∈l,R x)
 | 0,_,_=>WP.fail
 | n+1,l,hl=>h1.bind fun x hx=>A_.bind fun _ _=>WP.ite (fun _=>alB h1 n _ (Ff hl hx)) fun _=>WP.pure (Ff hl hx)
theorem ak9 {one:PM α}{w:List UInt8}(h1:WP one d d R):WP (yW L w one) d d (fun l=>∀x∈l,R x) :=
 XK.bind fun _ _=>WP.ite (fun _=>WP.pure Eb) fun _=>alB h1 _ _ Eb
end
def EW (d:Nat) (x:XE):Prop:=nT x.o8=true∧d+mB x.o8≤64
def CW (d t:Nat) (x:XE):Prop:=EW d x∧(t≤lK x.o8.kind∨d+mB x.o8+1≤64)
theorem FO:∀x:GE,(lX x).1=x.kind
 | .mk ..=>rfl
theorem alD:∀{l:List XE},(∀x∈l,nT x.o8=true)→nH (XE.pJ l)=true
 | [],_=>rfl
 | x::r,h=>by simp [XE.pJ,nH,h x (by simp),alD (l:=r) fun y hy=>h y (by simp [hy])]
theorem aiT {n:Nat}:∀{l:List XE},(∀x∈l,mB x.o8≤n)→wH (yA (XE.pJ l))≤n
 | [],_=>ah8 _
 | x::r,h=>Nat.max_le.2 ⟨h x (by simp),aiT (l:=r) fun y hy=>h y (by simp [hy])⟩
theorem akT (l:List XE):(XE.pJ l).length=l.length:=by rw [XE.LP,List.length_map]
theorem adB (k:Int):lK k≤8:=by
 unfold lK
 cases h:([8,8,8,8,8,8,8,8,6,6,7,4,2,3,5,5,8,1,1,1,1,1,1,8,8,8,8]:List Nat)[k.toNat]? with
 | none=>exact ab6 _
 | some x=>exact(by decide:∀x∈([8,8,8,8,8,8,8,8,6,6,7,4,2,3,5,5,8,1,1,1,1,1,1,8,8,8,8]:List Nat),x≤8) x (ad8 h)
theorem H_ {b:Bool}{p:Part}{m:Nat}(h:p.2.2≤m) (h2:b=true∨p.2.2+1≤m):sV b p≤m:=by
 unfold sV
 cases b
 ·rcases h2 with h2 | h2
  ·cases h2
  ·exact h2
 ·exact h
section
variable {L:List Token}{d:Nat}(hT:∀a,TF (tk L a))
section
variable {ex un:PM XE}(he:∀d,d≤64→WP ex d d (EW d)) (hu:∀d,d≤64→WP un d d (CW d 8))
include he
theorem ZQ (hd:d≤64):WP (uT L ex) d d (fun l=>∃x,l=[x]∧EW (d+1) x):=by
 unfold uT
 exact(J2 hd).bind fun _ h=>(he _ h).bind fun x hx=>J3.bind fun _ _=>WP.pure ⟨x,rfl,hx⟩
theorem ak6 (hd:d≤64) {t:Token}(ht:qR t.text=true):WP (zQ L ex t) d d (fun x=>CW d 8 x∧x.o8.kind=4):=by
 unfold zQ
 refine(J2 hd).bind fun _ h=>(ak9 (he _ h)).bind fun l hl=>J3.bind fun _ _=>WP.pure ?_
 have h1:=alD fun x hx=>(hl x hx).1
 have h2:=aiT (l:=l) (n:=63 - d) fun x hx=>by have:=(hl x hx).2; omega
 refine⟨⟨⟨?_,?_⟩,.inl (ab6 8)⟩,rfl⟩
 ·simp [XE.o8,nT,rL,tS,lJ,lB,ht,h1]
 ·show d+(wH (yA (XE.pJ l))+1)≤64
  omega
theorem ak5 (hd:d≤64):∀(n:Nat) (b:Bool) (l:List XE),(∀x∈l,EW d x)→WP (tN L ex n b l) d d (fun r=>(∀x∈r,EW d x)∧r.length=l.length+n)
 | 0,_,l,hl=>WP.pure ⟨hl,rfl⟩
 | n+1,b,l,hl=>by
  unfold tN
  have h1:WP (do let x ←ex; tN L ex n false (l++[x]):PM (List XE)) d d (fun r=>(∀x∈r,EW d x)∧r.length=l.length+(n+1)) :=
   (he _ hd).bind fun x hx=>(ak5 hd n _ _ (Ff hl hx)).mono fun r hr=>⟨hr.1,by rw [hr.2]; simp; omega⟩
  cases b
  ·exact yE.bind fun _ _=>h1
  ·exact(WP.pure (v:=PUnit.unit) (R:=TT) trivial).bind fun _ _=>h1
include hT
theorem Iy {kind many a:Nat}{number:Bool}(hd:d≤64) (h8:lK kind=8) (hk:∀n:Nat,n≤4294967295→(number=false→n=0)→rL kind n [] many=true) (hn:∀l,yJ kind l=wH l+1) :
  WA (vW L ex kind many number) a d d (CW d 8):=by
 unfold vW
 refine WA.here (WA.next ((J2 hd).bind fun _ h=>(ak5 he h _ _ _ Eb).bind fun l hl=>?_))
 have fin:∀(n p:Nat),n≤4294967295→(number=false→n=0)→CW d 8 (.mk kind p n [] l):=fun n p h1 h2=>by
  have e1:=alD fun x hx=>(hl.1 x hx).1
  have e2:=aiT (l:=l) (n:=63 - d) fun x hx=>by have:=(hl.1 x hx).2; omega
  have e3:(XE.pJ l).length=many:=by rw [akT,hl.2]; simp
  refine⟨⟨?_,?_⟩,.inl (Nat.le_of_eq h8.symm)⟩
  ·show(rL kind n [] (XE.pJ l).length && nH (XE.pJ l))=true
   rw [e3,hk n h1 h2,e1]; rfl
  ·show d+yJ kind (yA (XE.pJ l))≤64
   rw [hn]; omega
 exact WP.ite (fun hb=>yE.bind fun _ _=>(SV hT).bind fun n hn=>J3.bind fun _ _=>WP.pure (fin _ _ hn fun h=>by rw [hb] at h; cases h)) fun _=>J3.bind fun _ _=>WP.pure (fin 0 _ (ah8 _) fun _=>rfl)
theorem adG (hd:d≤64):WP (qD L ex) d d (CW d 8):=by
 unfold qD
 intro a
 have z:∀(k many:Nat),rL k 0 [] many=true→∀n:Nat,n≤4294967295→(false=false→n=0)→rL k n [] many=true:=fun k many h n _ h0=>by rw [h0 rfl]; exact h
 refine WA.here (WA.ite (fun h=>WA.next (WP.pure ?_)) fun _=>WA.ite (fun h=>(J2 hd).bind (fun _ h=>(he _ h).bind fun x hx=>J3.bind fun _ _=>WP.pure ?_) a) fun _ =>
  WA.ite (fun _=>Iy hT he hd rfl (z _ _ rfl) fun _=>rfl) fun _=>WA.ite (fun _=>Iy hT he hd rfl (z _ _ rfl) fun _=>rfl) fun _ =>
  WA.ite (fun _=>Iy hT he hd rfl (z _ _ rfl) fun _=>rfl) fun _=>WA.ite (fun _=>Iy hT he hd rfl (z _ _ rfl) fun _=>rfl) fun _ =>
  WA.ite (fun _=>Iy hT he hd rfl ?_ fun _=>rfl) fun _=>WA.bind LR fun t ht=>?_)
 ·refine⟨⟨?_,?_⟩,.inl (ab6 8)⟩
  ·have:=(hT a).2
   simp [XE.o8,XE.pJ,nT,nH,rL,tS,lJ,lB,zB]; omega
  ·show d+0≤64
   omega
 ·exact⟨⟨hx.1,by have:=hx.2; omega⟩,.inr (by have:=hx.2; omega)⟩
 ·intro n hn _
  simp [rL,tS,lJ,lB,zB]; omega
 ·have hn:qR (tk L a).text=true:=UM ((hT a).1 (ht.1 ▸ ht.2))
  refine XK.bind fun _ _=>WP.ite (fun _=>(ak6 he hd hn).mono fun v hv=>hv.1) fun _=>XK.bind fun _ _=>WP.ite (fun _=>(ZQ he hd).bind fun l hl=>WP.pure ?_) fun _=>WP.pure ?_
  ·obtain⟨x,rfl,hx⟩:=hl
   refine⟨⟨?_,?_⟩,.inl (ab6 8)⟩
   ·simp [XE.o8,XE.pJ,nT,nH,rL,tS,lJ,lB,hn,hx.1]
   ·show d+(mB x.o8+1)≤64
    have:=hx.2; omega
  ·refine⟨⟨?_,?_⟩,.inl (ab6 8)⟩
   ·simp [XE.o8,XE.pJ,nT,nH,rL,tS,lJ,lB,hn]
   ·show d+0≤64
    omega
include hu
theorem XM {kind:Nat}(hk:kind=5∨kind=6∨kind=7) (hd:d≤64):WP (AH L un kind) d d (CW d 8):=by
 unfold AH
 refine SU.bind fun t _=>(J2 hd).bind fun _ h=>(hu _ h).bind fun x hx=>aK9.bind fun _ _=>WP.pure ?_
 obtain⟨⟨h1,h2⟩,h3⟩:=hx
 have e:yJ kind [lX x.o8]=sV (decide (lK x.o8.kind=8)) (lX x.o8)+1:=by
  rw [←FO]; rcases hk with rfl | rfl | rfl <;> rfl
 have h8:=adB x.o8.kind
 refine⟨⟨?_,?_⟩,.inl ?_⟩
 ·rcases hk with rfl | rfl | rfl <;> simp [XE.o8,XE.pJ,nT,nH,rL,tS,lJ,lB,h1]
 ·show d+yJ kind [lX x.o8]≤64
  rw [e]
  have:=H_ (b:=decide (lK x.o8.kind=8)) (p:=lX x.o8) (m:=63 - d) (by show mB x.o8≤_; omega) (by
   rcases h3 with h3 | h3
   ·exact .inl (decide_eq_true (by omega))
   ·exact .inr (by show mB x.o8+1≤_; omega))
  omega
 ·rcases hk with rfl | rfl | rfl <;> exact ab6 8
theorem auC (hd:d≤64):WP (x_ L ex un) d d (CW d 8):=by
 unfold x_
 exact SU.bind fun t _=>WP.ite (fun _=>XM hT he hu (.inl rfl) hd) fun _=>WP.ite (fun _=>XM hT he hu (.inr (.inl rfl)) hd) fun _=>WP.ite (fun _=>XM hT he hu (.inr (.inr rfl)) hd) fun _=>adG hT he hd
end
theorem abM {w:List UInt8}{n kd:Nat}(hl:nU w=some (n,kd)):(n,kd)∈([(0,17),(0,18),(0,19),(0,20),(0,21),(0,22),(1,12),(2,13),(3,11),(4,14),(4,15),(5,8),(5,9),(6,10)]:List (Nat×Nat)):=by
 unfold nU at hl
 by_cases h0:w=[61,61]
 ·rw [if_pos h0] at hl; cases hl; decide
 rw [if_neg h0] at hl
 by_cases h1:w=[33,61]
 ·rw [if_pos h1] at hl; cases hl; decide
 rw [if_neg h1] at hl
 by_cases h2:w=[60]
 ·rw [if_pos h2] at hl; cases hl; decide
 rw [if_neg h2] at hl
 by_cases h3:w=[60,61]
 ·rw [if_pos h3] at hl; cases hl; decide
 rw [if_neg h3] at hl
 by_cases h4:w=[62]
 ·rw [if_pos h4] at hl; cases hl; decide
 rw [if_neg h4] at hl
 by_cases h5:w=[62,61]
 ·rw [if_pos h5] at hl; cases hl; decide
 rw [if_neg h5] at hl
 by_cases h6:w=[124]
 ·rw [if_pos h6] at hl; cases hl; decide
 rw [if_neg h6] at hl
 by_cases h7:w=[94]
 ·rw [if_pos h7] at hl; cases hl; decide
 rw [if_neg h7] at hl
 by_cases h8:w=[38]
 ·rw [if_pos h8] at hl; cases hl; decide
 rw [if_neg h8] at hl
 by_cases h9:w=[60,60]
 ·rw [if_pos h9] at hl; cases hl; decide
 rw [if_neg h9] at hl
 by_cases h10:w=[62,62]
 ·rw [if_pos h10] at hl; cases hl; decide
 rw [if_neg h10] at hl
 by_cases h11:w=[43]
 ·rw [if_pos h11] at hl; cases hl; decide
 rw [if_neg h11] at hl
 by_cases h12:w=[45]
 ·rw [if_pos h12] at hl; cases hl; decide
 rw [if_neg h12] at hl
 by_cases h13:w=[42]
 ·rw [if_pos h13] at hl; cases hl; decide
 rw [if_neg h13] at hl
 cases hl
theorem Od {t:Token}{k kind:Nat}(h:pO t k=some kind):lK kind=k+1∧k≤6∧((kind=14∨kind=15)→∀n:Nat,n≤4294967295→rL kind n [] 1=true)∧(¬(kind=14∨kind=15)→rL kind 0 [] 2=true):=by
 unfold pO at h
 split at h
 ·split at h
  ·rename_i n kd hl
   split at h
   ·rename_i hn
    simp only [ab1] at h
    subst h; subst hn
    have hm:=abM hl
    simp only [List.mem_cons,ah1,List.not_mem_nil,or_false] at hm
    rcases hm with ⟨rfl,rfl⟩ | ⟨rfl,rfl⟩ | ⟨rfl,rfl⟩ | ⟨rfl,rfl⟩ | ⟨rfl,rfl⟩ | ⟨rfl,rfl⟩ | ⟨rfl,rfl⟩ | ⟨rfl,rfl⟩ | ⟨rfl,rfl⟩ | ⟨rfl,rfl⟩ | ⟨rfl,rfl⟩ | ⟨rfl,rfl⟩ | ⟨rfl,rfl⟩ | ⟨rfl,rfl⟩
    all_goals (refine⟨rfl,by omega,fun h n hn=>?_,fun h=>?_⟩)
    all_goals (first | rfl | (exfalso; omega) | (simp [rL,tS,lJ,lB,zB]; omega))
   ·cases h
  ·cases h
 ·cases h
theorem afG {kind p:Nat}{x y:XE}{t:Nat}(ht:lK kind=t) (h7:t≤7) (hk:rL kind 0 [] 2=true) (hx:EW d x) (Kr:(t < lK x.o8.kind∨lK x.o8.kind=t∧1 < t)∨d+mB x.o8+1≤64) (hy:CW d (t+1) y) :
  CW d t (.mk kind p 0 [] [x,y]):=by
 obtain⟨⟨y1,y2⟩,y3⟩:=hy
 refine⟨⟨?_,?_⟩,.inl (Nat.le_of_eq ht.symm)⟩
 ·show(rL kind 0 [] 2 && (nT x.o8 && (nT y.o8 && true)))=true
  simp [hk,hx.1,y1]
 ·show d+yJ kind [lX x.o8,lX y.o8]≤64
  have e:yJ kind [lX x.o8,lX y.o8]=max (sV (mX t (lX x.o8).1) (lX x.o8)) (sV (decide (t < lK (lX y.o8).1)) (lX y.o8)):=by
   unfold yJ
   rw [ht,if_pos (by omega)]
  rw [e,FO,FO]
  have a1:=H_ (b:=mX t x.o8.kind) (p:=lX x.o8) (m:=64 - d) (by have:=hx.2; show mB x.o8≤_; omega) (by
   rcases Kr with h | h
   ·exact .inl (decide_eq_true h)
   ·exact .inr (by show mB x.o8+1≤_; omega))
  have a2:=H_ (b:=decide (t < lK y.o8.kind)) (p:=lX y.o8) (m:=64 - d) (by show mB y.o8≤_; omega) (by
   rcases y3 with h | h
   ·exact .inl (decide_eq_true (by omega))
   ·exact .inr (by show mB y.o8+1≤_; omega))
  have:=hx.2
  omega
theorem aj8 {kind p n:Nat}{x:XE}{t:Nat}(ht:lK kind=t) (h7:t≤7) (hk:rL kind n [] 1=true) (hx:EW d x) (Kr:(t < lK x.o8.kind∨lK x.o8.kind=t∧1 < t)∨d+mB x.o8+1≤64) :
  CW d t (.mk kind p n [] [x]):=by
 refine⟨⟨?_,?_⟩,.inl (Nat.le_of_eq ht.symm)⟩
 ·show(rL kind n [] 1 && (nT x.o8 && true))=true
  simp [hk,hx.1]
 ·show d+yJ kind [lX x.o8]≤64
  have e:yJ kind [lX x.o8]=sV (mX t (lX x.o8).1) (lX x.o8):=by
   unfold yJ
   rw [ht,if_pos (by omega)]
  rw [e,FO]
  have a1:=H_ (b:=mX t x.o8.kind) (p:=lX x.o8) (m:=64 - d) (by have:=hx.2; show mB x.o8≤_; omega) (by
   rcases Kr with h | h
   ·exact .inl (decide_eq_true h)
   ·exact .inr (by show mB x.o8+1≤_; omega))
  have:=hx.2
  omega
include hT
theorem XL {next:PM XE}{k:Nat}(hk:1≤k) (hn:WP next d d (CW d (k+2))):∀(n:Nat) (x:XE),CW d (k+1) x→WP (tO L next k n x) d d (CW d (k+1))
 | 0,_,_=>WP.fail
 | n+1,x,hx=>by
  unfold tO
  intro a
  refine WA.here ?_
  have Kr:(k+1 < lK x.o8.kind∨lK x.o8.kind=k+1∧1 < k+1)∨d+mB x.o8+1≤64:=by
   rcases hx.2 with h | h
   ·left; omega
   ·exact .inr h
  cases hs:pO (tk L a) k with
  | none=>exact WP.pure hx a
  | some kind =>
   obtain⟨h1,h2,h3,h4⟩:=Od hs
   exact WA.next (WP.ite (fun h=>(SV hT).bind fun c hc=>XL hk hn n _ (aj8 h1 (by omega) (h3 h _ hc) hx.1 Kr)) fun h=>hn.bind fun y hy=>XL hk hn n _ (afG h1 (by omega) (h4 h) hx.1 Kr hy))
theorem ZN {un:PM XE}(hu:WP un d d (CW d 8)):∀j,j≤6→WP (pD L un j) d d (CW d (8 - j))
 | 0,_=>hu
 | j+1,hj=>by
  have h1:=ZN hu j (by omega)
  have e:8 - j=6 - j+2:=by omega
  have e2:8 - (j+1)=6 - j+1:=by omega
  rw [e] at h1
  rw [e2]
  exact h1.bind fun x hx=>XL hT (by omega) h1 _ _ ⟨hx.1,by rcases hx.2 with h | h; (left; omega); exact .inr h⟩
theorem ak8 {un:PM XE}(hu:WP un d d (CW d 8)):WP (Bg L un) d d (EW d):=by
 unfold Bg
 have h6:=ZN hT hu 6 (ab6 _)
 refine h6.bind fun x hx a=>WA.here ?_
 cases hs:pO (tk L a) 0 with
 | none=>exact WP.pure hx.1 a
 | some kind =>
  obtain⟨h1,h2,h3,h4⟩:=Od hs
  have hne:¬(kind=14∨kind=15):=fun h=>by rcases h with rfl | rfl <;> exact absurd h1 (by decide)
  exact WA.next (h6.bind fun y hy=>WP.pure (afG (t:=1) h1 (by omega) (h4 hne) hx.1 (by rcases hx.2 with h | h; (left; left; omega); exact .inr h) hy).1)
theorem aCG:∀n d,d≤64→WP (Ew L n) d d (CW d 8)
 | 0,_,_=>WP.fail
 | n+1,d,hd=>auC hT (fun d hd=>ak8 hT (aCG n d hd)) (aCG n) hd
theorem ak7 (n d:Nat) (hd:d≤64):WP (BX L n) d d (EW d):=ak8 hT (aCG hT n d hd)
end
end
section
open Go Hk
def SW (d:Nat) (s:XS):Prop:=pX s.o8=true∧d+qT s.o8≤64
def BW (d:Nat) (l:List XS):Prop:=nW (XS.pJ l)=true∧d+(qJ (nX (XS.pJ l))+1)≤64
theorem OJ:∀{l:List XS},(∀x∈l,pX x.o8=true)→nW (XS.pJ l)=true
 | [],_=>rfl
 | x::r,h=>by simp [XS.pJ,nW,h x (by simp),OJ (l:=r) fun y hy=>h y (by simp [hy])]
theorem Qt {n:Nat}:∀{l:List XS},(∀x∈l,qT x.o8≤n)→qJ (nX (XS.pJ l))≤n
 | [],_=>ah8 _
 | x::r,h=>Nat.max_le.2 ⟨h x (by simp),Qt (l:=r) fun y hy=>h y (by simp [hy])⟩
section
variable {L:List Token}{d:Nat}(hT:∀a,TF (tk L a))
include hT
theorem ZO (n:Nat) (hd:d≤64):WP (Br L n) d d (fun l=>∃x,l=[x]∧EW d x):=by
 unfold Br
 exact(ak7 hT n d hd).bind fun x hx=>yE.bind fun _ _=>WP.pure ⟨x,rfl,hx⟩
theorem auA (n pos:Nat) (hd:d≤64):WP (pN L n pos) d d (SW d):=by
 unfold pN
 refine(F0 hT).bind fun t ht=>XK.bind fun _ _=>WP.ite (fun _=>(ak6 (ak7 hT _) hd ht).bind fun c hc=>yE.bind fun _ _=>WP.pure ?_) fun _=>XK.bind fun _ _ =>
  WP.ite (fun _=>(ZQ (ak7 hT _) hd).bind fun i hi=>yE.bind fun _ _=>(ZO hT n hd).bind fun l hl=>WP.pure ?_) fun _=>yE.bind fun _ _=>(ZO hT n hd).bind fun l hl=>WP.pure ?_
 ·obtain⟨⟨⟨h1,h2⟩,_⟩,h3⟩:=hc
  refine⟨?_,h2⟩
  simp [XS.o8,XS.pJ,XE.pJ,pX,nW,lR,lM,lJ,nH,lB,Ty.o8,GT.zero,PO,h1,h3]
 ·obtain⟨x,rfl,h1,h2⟩:=hi
  obtain⟨y,rfl,h3,h4⟩:=hl
  refine⟨?_,?_⟩
  ·simp [XS.o8,XS.pJ,XE.pJ,pX,nW,lR,lM,lJ,nH,lB,Ty.o8,GT.zero,h1,h3,ht]
  ·show d+max (mB x.o8+1) (mB y.o8)≤64
   omega
 ·obtain⟨y,rfl,h3,h4⟩:=hl
  refine⟨?_,h4⟩
  simp [XS.o8,XS.pJ,XE.pJ,pX,nW,lR,lM,lJ,nH,lB,Ty.o8,GT.zero,h3,ht]
theorem aCF {block:PM (List XS)}(hb:WP block d d (BW d)) (n:Nat) (hd:d≤64):WP (uK L block n) d d (SW d):=by
 unfold uK
 refine SU.bind fun t _=>A_.bind fun _ _=>WP.ite (fun _=>(F0 hT).bind fun nm hn=>yE.bind fun _ _=>(ZO hT n hd).bind fun l hl=>WP.pure ?_) fun _=>A_.bind fun _ _ =>
  WP.ite (fun _=>SX.bind fun lab hlab=>(F0 hT).bind fun nm hn=>yE.bind fun _ _=>(ZR hT hlab).bind fun ty hty=>yE.bind fun _ _=>WP.pure ?_) fun _=>A_.bind fun _ _ =>
  WP.ite (fun _=>(ak7 hT n d hd).bind fun x hx=>hb.bind fun b hb1=>A_.bind fun _ _=>WP.ite (fun _=>hb.bind fun e he=>WP.pure ?_) fun _=>WP.pure ?_) fun _=>A_.bind fun _ _ =>
  WP.ite (fun _=>(F0 hT).bind fun nm hn=>yE.bind fun _ _=>(ak7 hT n d hd).bind fun x hx=>yE.bind fun _ _=>(SV hT).bind fun m hm=>hb.bind fun b hb1=>WP.pure ?_) fun _=>A_.bind fun _ _ =>
  WP.ite (fun _=>(ZO hT n hd).bind fun l hl=>WP.pure ?_) fun _=>auA hT n _ hd
 ·obtain⟨y,rfl,h3,h4⟩:=hl
  refine⟨?_,h4⟩
  simp [XS.o8,XS.pJ,XE.pJ,pX,nW,lR,lM,lJ,nH,lB,Ty.o8,GT.zero,h3,hn]
 ·refine⟨?_,by show d+0≤64; omega⟩
  simp [XS.o8,XS.pJ,XE.pJ,pX,nW,lR,lM,lJ,nH,lB,hn,hty]
 ·obtain⟨h1,h2⟩:=hx
  obtain⟨h3,h4⟩:=hb1
  obtain⟨h5,h6⟩:=he
  refine⟨?_,?_⟩
  ·simp [XS.o8,XE.pJ,pX,lR,lM,lJ,nH,lB,Ty.o8,GT.zero,h1,h3,h5]
  ·show d+max (mB x.o8) (max (qJ (nX (XS.pJ b))+1) (qJ (nX (XS.pJ e))+1))≤64
   omega
 ·obtain⟨h1,h2⟩:=hx
  obtain⟨h3,h4⟩:=hb1
  refine⟨?_,?_⟩
  ·simp [XS.o8,XE.pJ,XS.pJ,nW,pX,lR,lM,lJ,nH,lB,Ty.o8,GT.zero,h1,h3]
  ·show d+max (mB x.o8) (qJ (nX (XS.pJ b))+1)≤64
   omega
 ·obtain⟨h1,h2⟩:=hx
  obtain⟨h3,h4⟩:=hb1
  refine⟨?_,?_⟩
  ·simp [XS.o8,XE.pJ,XS.pJ,nW,pX,lR,lM,lJ,nH,lB,zB,Ty.o8,GT.zero,h1,h3,hn]; omega
  ·show d+max (mB x.o8) (qJ (nX (XS.pJ b))+1)≤64
   omega
 ·obtain⟨y,rfl,h3,h4⟩:=hl
  refine⟨?_,h4⟩
  simp [XS.o8,XS.pJ,XE.pJ,pX,nW,lR,lM,lJ,nH,lB,Ty.o8,GT.zero,h3]
omit hT in
theorem ZS {stmt:PM XS}(hs:WP stmt d d (SW d)):∀(m:Nat) (l:List XS),(∀x∈l,SW d x)→WP (vX L stmt m l) d d (fun l=>∀x∈l,SW d x)
 | 0,_,_=>WP.fail
 | m+1,l,hl=>XK.bind fun _ _=>WP.ite (fun _=>WP.pure hl) fun _=>hs.bind fun x hx=>ZS hs m _ (Ff hl hx)
theorem SS:∀n d,d≤64→WP (sB L n) d d (BW d)
 | 0,_,_=>WP.fail
 | n+1,d,hd=>(J2 hd).bind fun _ h=>(ZS (aCF hT (SS n _ h) n h) _ _ Eb).bind fun l hl=>J3.bind fun _ _=>WP.pure
   ⟨OJ fun x hx=>(hl x hx).1,by
    have:=Qt (l:=l) (n:=63 - d) fun x hx=>by have:=(hl x hx).2; omega
    omega⟩
def FW (f:XF):Prop:=o0 f.o8=true∧vA f.o8≤64
theorem aCE:WP (wJ L) 0 0 FW:=by
 unfold wJ
 refine yE.bind fun _ _=>(F0 hT).bind fun nm hn=>yE.bind fun _ _=>(ak9 (auB hT)).bind fun ps hps=>yE.bind fun _ _=>A_.bind fun _ _ =>
  WP.ite (fun _=>SX.bind fun l hl=>(VE hl).bind fun ty hty=>(SS hT 65 0 (by omega)).bind fun b hb=>WP.pure ?_) fun _=>(SS hT 65 0 (by omega)).bind fun b hb=>WP.pure ?_
 ·obtain⟨h1,h2⟩:=hb
  have h3:ty.o8.len=0:=by show(ty.len:Int)=0; rw [hty.2.1]; rfl
  have h4:ty.o8.elem≠2:=fun h=>hty.2.2.1 (by have:(ty.elem:Int)=2:=h; omega)
  refine⟨?_,by show qJ (nX (XS.pJ b))+1≤64; omega⟩
  simp [XF.o8,o0,hn,h1,hty.1,h3,h4]
  exact hps
 ·obtain⟨h1,h2⟩:=hb
  refine⟨?_,by show qJ (nX (XS.pJ b))+1≤64; omega⟩
  simp [XF.o8,o0,hn,h1,Ty.o8,GT.zero]
  exact hps
theorem ZP:∀(m:Nat) (l:List XF),(∀x∈l,FW x)→WP (o7 L m l) 0 0 (fun l=>∀x∈l,FW x)
 | 0,_,_=>WP.fail
 | m+1,l,hl=>SU.bind fun _ _=>WP.ite (fun _=>WP.pure hl) fun _=>(aCE hT).bind fun x hx=>ZP m _ (Ff hl hx)
end
theorem E8 (s:List UInt8):((mW s).1.map XF.o8).all o0=true∧qJ (((mW s).1.map XF.o8).map vA)≤64:=by
 have h:∀x∈(mW s).1,FW x:=by
  unfold mW
  split
  ·cases hp:o7 (oI s).1 131073 [] 0 0 with
   | bad e p a d=>exact Eb
   | ok l a d=>exact(ZP (apM s) _ _ Eb 0 l a d hp).2
  ·exact Eb
 have h2:∀{l:List XF},(∀x∈l,FW x)→qJ ((l.map XF.o8).map vA)≤64:=fun {l}=>by
  induction l with
  | nil=>intro _; exact ah8 _
  | cons x r ih=>intro h; exact Nat.max_le.2 ⟨(h x (by simp)).2,ih fun y hy=>h y (by simp [hy])⟩
 refine⟨?_,h2 h⟩
 rw [List.all_map,List.all_eq_true]
 exact fun x hx=>(h x hx).1
end
section
open Go Hk

end
end Go.Proofs.YtlddmnojanpdoaaGreatDoor
