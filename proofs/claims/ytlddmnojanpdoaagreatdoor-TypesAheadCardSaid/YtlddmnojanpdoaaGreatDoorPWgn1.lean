/-
  The texts WG.BB, WG.LA, WG.LB, WG.LC, one behind another. No conditions.
-/
import Derived.Test.YtlddmnojanpdoaaGreatDoorPWg2
import Derived.Test.YtlddmnojanpdoaaGreatDoorPSga1
import Derived.Test.YtlddmnojanpdoaaGreatDoorPLg1
import Derived.Test.YtlddmnojanpdoaaGreatDoorPWg1
set_option linter.unusedVariables false
set_option linter.unusedSimpArgs false
set_option linter.all false
open List renaming cons_append → af2, length_nil → ad0, mem_of_getElem? → af1, takeWhile_cons → ak2
open Nat renaming add_zero → al5, le_refl → ac5, zero_le → ah9
open Option.some renaming injEq → ab0
open Prod.mk renaming injEq → af8
namespace Go.Proofs.YtlddmnojanpdoaaGreatDoor
section
open Go Hk
def Ty.o8 (t:Ty):GT:=⟨t.elem,t.len,t.label⟩
mutual
def XE.o8:XE→GE
 | .mk k p n name args=>.mk k p n name (XE.pJ args)
def XE.pJ:List XE→List GE
 | []=>[]
 | x::r=>x.o8::XE.pJ r
end
theorem XE.LU:∀l:List XE,XE.pJ l=l.map XE.o8
 | []=>rfl
 | x::r=>by simp [XE.pJ,XE.LU r]
mutual
def XS.o8:XS→GS
 | .mk k p m name ty args body els has=>.mk k p m name ty.o8 (XE.pJ args) (XS.pJ body) (XS.pJ els) has
def XS.pJ:List XS→List GS
 | []=>[]
 | x::r=>x.o8::XS.pJ r
end
def XP.o8 (p:XP):GP:=⟨p.pos,p.name,p.ty.o8,p.out⟩
def XF.o8 (f:XF):GF:=⟨f.pos,f.name,f.params.map XP.o8,f.has,f.result.o8,XS.pJ f.body⟩
def eW (x:XE):Nat:=wE x.o8+4
def sW (x:XS):Nat:=wS x.o8+4
def pW (p:XP):Nat:=wP p.o8+4
def fW (f:XF):Nat:=wF f.o8
def lw {α:Type}(w:α→Nat):List α→Nat
 | []=>0
 | x::r=>w x+lw w r
theorem FE {α:Type}{w:α→Nat}:∀{l:List α}{x:α},lw w (l++[x])=lw w l+w x
 | [],x=>by simp [lw]
 | y::r,x=>by simp only [af2,lw,FE (l:=r)]; omega
theorem ahX {α:Type}{w:α→Nat}:∀{l m:List α},lw w (l++m)=lw w l+lw w m
 | [],m=>by simp [lw]
 | y::r,m=>by simp only [af2,lw,ahX (l:=r)]; omega
theorem XV:∀l:List XE,F4 (XE.pJ l)=lw eW l
 | []=>rfl
 | x::r=>by simp only [XE.pJ,F4,lw,eW,XV r]
theorem XW:∀l:List XS,F5 (XS.pJ l)=lw sW l
 | []=>rfl
 | x::r=>by simp only [XS.pJ,F5,lw,sW,XW r]
theorem alF:∀l:List XP,VO (l.map XP.o8)=lw pW l
 | []=>rfl
 | x::r=>by simp only [List.map_cons,VO,lw,pW,alF r]
theorem alD:∀l:List XF,J5 (l.map XF.o8)=lw fW l
 | []=>rfl
 | x::r=>by simp only [List.map_cons,J5,lw,fW,alD r]
theorem Gi {k p n:Nat}{name:List UInt8}{args:List XE}:eW (.mk k p n name args)=name.length+64+lw eW args:=by
 simp only [eW,XE.o8,wE,XV]; omega
theorem Ik {k p m:Nat}{name:List UInt8}{ty:Ty}{args:List XE}{b e:List XS}{has:Bool}:sW (.mk k p m name ty args b e has)=name.length+124+lw eW args+lw sW b+lw sW e:=by
 simp only [sW,XS.o8,wS,XV,XW]; omega
section
variable (L:List Token)
def Jr:Nat→Nat
 | 0=>0
 | a+1=>Jr a+(tk L a).text.length+200
def PA {α:Type}(x:PM α) (a c:Nat) (w:α→Nat):Prop:=∀d v a' d',x a d=.ok v a' d'→Jr L a+w v≤Jr L a'+c
def xX {α:Type}(x:PM α) (w:α→Nat):Prop:=∀a c,PA L x a c (fun v=>c+w v)
variable {L} {α β:Type}
theorem PA.bind {x:PM α}{f:α→PM β}{a c:Nat}{wx:α→Nat}{w:β→Nat}(hx:PA L x a c wx) (hf:∀v a1,PA L (f v) a1 (wx v) w):PA L (x >>= f) a c w:=by
 intro d v a' d' h
 simp only [mK,PM.bind] at h
 cases h1:x a d with
 | ok u a1 d1 =>
  rw [h1] at h
  have e1:=hx d u a1 d1 h1
  have e2:=hf u a1 d1 v a' d' h
  omega
 | bad e p a1 d1=>rw [h1] at h; cases h
theorem PA.pure {v:α}{a c:Nat}{w:α→Nat}(h:w v≤c):PA L (Pure.pure v:PM α) a c w:=by
 intro d u a' d' e
 simp only [y9,Out.ok.injEq] at e
 obtain⟨rfl,rfl,_⟩:=e
 omega
theorem PA.fail {e a c:Nat}{w:α→Nat}:PA L (w_ L e:PM α) a c w:=by intro d u a' d' h; cases h
theorem PA.ite {p:Prop} [Decidable p] {x y:PM α}{a c:Nat}{w:α→Nat}(hx:PA L x a c w) (hy:PA L y a c w):PA L (if p then x else y) a c w:=by
 split
 ·exact hx
 ·exact hy
theorem PA.here {f:Token→PM α}{a c:Nat}{w:α→Nat}(h:PA L (f (tk L a)) a c w):PA L (oQ L >>= f) a c w:=fun d=>h d
theorem PA.next {f:Unit→PM α}{a c:Nat}{w:α→Nat}(h:PA L (f ()) (a+1) (c+(tk L a).text.length+200) w):PA L (xU >>= f) a c w:=by
 intro d v a' d' e
 have:=h d v a' d' e
 simp only [Jr] at this
 omega
theorem PA.kind {k:Nat}{f:Token→PM α}{a c:Nat}{w:α→Nat}(h:PA L (f (tk L a)) (a+1) (c+(tk L a).text.length+200) w):PA L (qM L k >>= f) a c w:=by
 intro d v a' d' e
 simp only [mK,PM.bind,qM] at e
 split at e
 ·rename_i h1
  split at h1
  ·cases h1
   have:=h _ v a' d' e
   simp only [Jr] at this
   omega
  ·cases h1
 ·cases e
theorem PA.le {x:PM α}{a c c':Nat}{w w':α→Nat}(h:PA L x a c w) (hc:c≤c') (hw:∀v,w' v≤w v):PA L x a c' w':=by
 intro d v a' d' e
 have:=h d v a' d' e
 have:=hw v
 omega
theorem V7 {s:List UInt8}:xX L (GZ L s) (fun _=>0):=by
 intro a c d v a' d' e; dsimp only; simp only [GZ,Out.ok.injEq] at e; obtain⟨_,rfl,_⟩:=e; omega
theorem aIL:xX L pUp (fun _=>0):=by
 intro a c d v a' d' e; dsimp only; simp only [pUp,Out.ok.injEq] at e; obtain⟨_,rfl,_⟩:=e; omega
theorem Ct {a:Nat}:Jr L a+200≤Jr L (a+1):=by simp only [Jr]; omega
theorem A2 {s:List UInt8}:xX L (pM L s) (fun b=>if b then 200 else 0):=by
 intro a c d v a' d' e; dsimp only
 simp only [pM,Out.ok.injEq] at e
 obtain⟨rfl,rfl,_⟩:=e
 split
 ·have:=Ct (L:=L) (a:=a); omega
 ·omega
theorem xY {s:List UInt8}:xX L (oR L s) (fun _=>200):=by
 intro a c d v a' d' e; dsimp only
 simp only [oR] at e
 split at e
 ·cases e; have:=Ct (L:=L) (a:=a); omega
 ·cases e
theorem DX {k:Nat}:xX L (qM L k) (fun t=>t.text.length+200):=by
 intro a c d v a' d' e; dsimp only
 simp only [qM] at e
 split at e
 ·cases e; simp only [Jr]; omega
 ·cases e
theorem IM {s:List UInt8}:xX L (uJ L s) (fun _=>200):=by
 intro a c d v a' d' e; dsimp only
 simp only [uJ] at e
 split at e
 ·split at e
  ·cases e
  ·cases e; have:=Ct (L:=L) (a:=a); omega
 ·cases e
theorem IN {s:List UInt8}:xX L (uK L s) (fun _=>200):=by
 intro a c d v a' d' e; dsimp only
 simp only [uK] at e
 split at e
 ·cases e; have:=Ct (L:=L) (a:=a); omega
 ·cases e
theorem Q8:xX L (sQ L) (fun _=>200):=by
 intro a c d v a' d' e; dsimp only
 simp only [sQ] at e
 split at e
 ·cases e; have:=Ct (L:=L) (a:=a); omega
 ·split at e
  ·cases e; have:=Ct (L:=L) (a:=a); omega
  ·cases e
theorem TL {l:Nat}:xX L (qO L l) (fun _=>0):=by
 intro a c d v a' d' e; dsimp only
 simp only [qO] at e
 have:=Ct (L:=L) (a:=a)
 split at e
 ·cases e; omega
 ·split at e
  ·cases e; omega
  ·cases e
theorem afC:xX L (yN L) (fun _=>0):=fun a c =>
 (xY a c).bind fun _ a1=>PA.here (PA.ite PA.fail ((DX a1 _).bind fun _ a2=>(xY a2 _).bind fun _ a3=>PA.pure (by(try dsimp only); omega)))
theorem Yj {l:Nat}:xX L (vK L l) (fun _=>0):=fun a c =>
 (A2 a c).bind fun b a1=>PA.ite ((afC a1 _).bind fun _ a2=>PA.pure (by(try dsimp only); omega)) ((TL a1 _).bind fun t a2=>PA.ite ((V7 a2 _).bind fun _ a3=>PA.ite ((afC a3 _).bind fun _ a4=>PA.pure (by(try dsimp only); omega)) (PA.pure (by(try dsimp only); omega))) (PA.pure (by(try dsimp only); omega)))
theorem an2:xX L (u1 L) pW:=fun a c =>
 (A2 a c).bind fun _ a1=>(Q8 a1 _).bind fun _ a2=>(DX a2 _).bind fun t a3=>(xY a3 _).bind fun _ a4=>(Yj a4 _).bind fun _ a5=>PA.pure (by(try dsimp only); simp only [pW,wP,XP.o8]; omega)
theorem afD {one:PM α}{w:α→Nat}(h:xX L one w):∀(n:Nat) (l:List α) (a c:Nat),PA L (xT L one n l) a (c+lw w l) (fun l'=>c+lw w l')
 | 0,_,_,_=>PA.fail
 | n+1,l,a,c=>(h a _).bind fun x a1=>(A2 a1 _).bind fun b a2=>PA.ite
   (by
    have:=afD h n (l++[x]) a2 c
    refine this.le ?_ fun _=>ac5 _
    rw [FE]; omega)
   (PA.pure (by(try dsimp only); rw [FE]; omega))
theorem afB {one:PM α}{w:α→Nat}{s:List UInt8}(h:xX L one w):xX L (yZ L s one) (lw w):=fun a c =>
 (V7 a c).bind fun _ a1=>PA.ite (PA.pure (by(try dsimp only); simp only [lw]; omega)) (by
  have:=afD h 131073 [] a1 c
  simp only [lw,al5] at this
  exact this.le (by(try dsimp only); omega) fun _=>ac5 _)
section
variable {ex un:PM XE}(he:xX L ex eW)
include he
theorem Yi:xX L (uU L ex) (lw eW):=fun a c =>
 (IM a c).bind fun _ a1=>(he a1 _).bind fun x a2=>(IN a2 _).bind fun _ a3=>PA.pure (by(try dsimp only); simp only [lw]; omega)
theorem ae8 {t:Token}{a c:Nat}:PA L (zT L ex t) a (c+t.text.length) (fun x=>c+eW x) :=
 (IM a _).bind fun _ a1=>(afB he a1 _).bind fun l a2=>(IN a2 _).bind fun _ a3=>PA.pure (by(try dsimp only); rw [Gi]; omega)
theorem ae7:∀(n:Nat) (b:Bool) (l:List XE) (a c:Nat),PA L (tO L ex n b l) a (c+lw eW l) (fun l'=>c+lw eW l')
 | 0,_,_,_,_=>PA.pure (ac5 _)
 | n+1,b,l,a,c=>by
  have h1:∀(u:Unit) (a1:Nat) (c1:Nat),c+lw eW l≤c1→PA L (do let x ←ex; tO L ex n false (l++[x]):PM (List XE)) a1 c1 (fun l'=>c+lw eW l'):=fun _ a1 c1 hc=>by
   have h2:PA L (do let x ←ex; tO L ex n false (l++[x]):PM (List XE)) a1 (c+lw eW l) (fun l'=>c+lw eW l'):=(he a1 _).bind fun x a2=>by
    have:=ae7 n false (l++[x]) a2 c
    refine this.le ?_ fun _=>ac5 _
    rw [FE]; omega
   exact h2.le hc fun _=>ac5 _
  cases b
  ·exact(xY a _).bind fun u a1=>h1 u a1 _ (by(try dsimp only); omega)
  ·exact PA.bind (x:=(Pure.pure PUnit.unit:PM PUnit)) (wx:=fun _=>c+lw eW l) (PA.pure (ac5 _)) fun u a1=>h1 u a1 _ (ac5 _)
theorem Ml {kind many:Nat}{number:Bool}:xX L (vY L ex kind many number) eW:=fun a c =>
 PA.here (PA.next ((IM _ _).bind fun _ a1=>by
  have h:=ae7 he many true [] a1 (c+200)
  simp only [lw,al5] at h
  refine PA.bind (h.le (by(try dsimp only); omega) fun _=>ac5 _) fun l a2=>PA.ite
   ((xY a2 _).bind fun _ a3=>(DX a3 _).bind fun _ a4=>(IN a4 _).bind fun _ a5=>PA.pure (by(try dsimp only); rw [Gi]; simp; omega))
   ((IN a2 _).bind fun _ a3=>PA.pure (by(try dsimp only); rw [Gi]; simp; omega))))
theorem aaL:xX L (qD L ex) eW:=fun a c =>
 PA.here (PA.ite (PA.next (PA.pure (by(try dsimp only); rw [Gi]; simp [lw]; omega)))
  (PA.ite ((IM a c).bind fun _ a1=>(he a1 _).bind fun x a2=>(IN a2 _).bind fun _ a3=>PA.pure (by(try dsimp only); omega))
  (PA.ite (Ml he a c) (PA.ite (Ml he a c) (PA.ite (Ml he a c) (PA.ite (Ml he a c) (PA.ite (Ml he a c)
  (PA.kind ((V7 _ _).bind fun _ a1=>PA.ite
   ((ae8 he (c:=c)).le (by(try dsimp only); omega) fun _=>ac5 _)
   ((V7 a1 _).bind fun _ a2=>PA.ite ((Yi he a2 _).bind fun l a3=>PA.pure (by(try dsimp only); rw [Gi]; omega)) (PA.pure (by(try dsimp only); rw [Gi]; simp only [lw]; omega))))))))))))
variable (hu:xX L un eW)
include hu
theorem an3:xX L (yB L ex un) eW:=by
 have hs:∀kind a c,PA L (AK L un kind) a c (fun x=>c+eW x):=fun kind a c=>PA.here ((IM a c).bind fun _ a1=>(hu a1 _).bind fun x a2=>(aIL a2 _).bind fun _ a3=>PA.pure (by(try dsimp only); rw [Gi]; simp only [lw,ad0]; omega))
 exact fun a c=>PA.here (PA.ite (hs _ a c) (PA.ite (hs _ a c) (PA.ite (hs _ a c) (aaL he a c))))
end
theorem V8 {next:PM XE}(hn:xX L next eW) (k:Nat):∀(n:Nat) (x:XE) (a c:Nat),PA L (tP L next k n x) a (c+eW x) (fun y=>c+eW y)
 | 0,_,_,_=>PA.fail
 | n+1,x,a,c=>PA.here (by
   cases h:pO (tk L a) k with
   | none=>exact PA.pure (ac5 _)
   | some kind =>
    refine PA.next (PA.ite ((DX _ _).bind fun t a1=>?_) ((hn _ _).bind fun y a1=>?_))
    ·exact(V8 hn k n _ a1 c).le (by(try dsimp only); rw [Gi]; simp only [lw,ad0]; omega) fun _=>ac5 _
    ·exact(V8 hn k n _ a1 c).le (by(try dsimp only); rw [Gi]; simp only [lw,ad0]; omega) fun _=>ac5 _)
theorem Lg {un:PM XE}(hu:xX L un eW):∀j,xX L (pD L un j) eW
 | 0=>hu
 | j+1=>fun a c=>(Lg hu j a c).bind fun x a1=>V8 (Lg hu j) (6 - j) 131073 x a1 c
theorem afA {un:PM XE}(hu:xX L un eW):xX L (Bj L un) eW:=fun a c =>
 (Lg hu 6 a c).bind fun x a1=>PA.here (by
  cases h:pO (tk L a1) 0 with
  | none=>exact PA.pure (ac5 _)
  | some kind=>exact PA.next ((Lg hu 6 _ _).bind fun y a2=>PA.pure (by(try dsimp only); rw [Gi]; simp only [lw,ad0]; omega)))
theorem axV:∀n,xX L (EC L n) eW
 | 0=>fun _ _=>PA.fail
 | n+1=>an3 (afA (axV n)) (axV n)
theorem ae9 (n:Nat):xX L (B1 L n) eW:=afA (axV n)
theorem Yg (n:Nat):xX L (Bu L n) (lw eW):=fun a c=>(ae9 n a c).bind fun x a1=>(xY a1 _).bind fun _ a2=>PA.pure (by(try dsimp only); simp only [lw]; omega)
theorem an1 (n pos:Nat):xX L (pN L n pos) sW:=fun a c =>
 PA.kind ((V7 _ _).bind fun _ a1=>PA.ite
  (((ae8 (ae9 (n - 1)) (c:=c+200)).le (by(try dsimp only); omega) fun _=>ac5 _).bind fun x a2=>(xY a2 _).bind fun _ a3=>PA.pure (by(try dsimp only); rw [Ik]; simp only [lw,ad0]; omega))
  ((V7 a1 _).bind fun _ a2=>PA.ite
   ((Yi (ae9 (n - 1)) a2 _).bind fun i a3=>(xY a3 _).bind fun _ a4=>(Yg n a4 _).bind fun l a5=>PA.pure (by(try dsimp only); rw [Ik,ahX]; simp only [lw]; omega))
   ((xY a2 _).bind fun _ a3=>(Yg n a3 _).bind fun l a4=>PA.pure (by(try dsimp only); rw [Ik]; simp only [lw]; omega))))
theorem axU {block:PM (List XS)}(hb:xX L block (lw sW)) (n:Nat):xX L (uL L block n) sW:=fun a c =>
 PA.here ((A2 a c).bind fun _ a1=>PA.ite
  ((DX a1 _).bind fun t a2=>(xY a2 _).bind fun _ a3=>(Yg n a3 _).bind fun l a4=>PA.pure (by(try dsimp only); rw [Ik]; simp only [lw]; omega))
  ((A2 a1 _).bind fun _ a2=>PA.ite
   ((Q8 a2 _).bind fun _ a3=>(DX a3 _).bind fun t a4=>(xY a4 _).bind fun _ a5=>(Yj a5 _).bind fun ty a6=>(xY a6 _).bind fun _ a7=>PA.pure (by(try dsimp only); rw [Ik]; simp only [lw]; omega))
   ((A2 a2 _).bind fun b a3=>by
    cases b
    ·exact(A2 a3 _).bind fun _ a4=>PA.ite
      ((DX a4 _).bind fun t a5=>(xY a5 _).bind fun _ a6=>(ae9 n a6 _).bind fun x a7=>(xY a7 _).bind fun _ a8=>(DX a8 _).bind fun m a9=>(hb a9 _).bind fun bl a10=>PA.pure (by(try dsimp only); rw [Ik]; simp only [lw]; omega))
      ((A2 a4 _).bind fun b a5=>by
       cases b
       ·exact(an1 n _ a5 c).le (by(try dsimp only); omega) fun _=>ac5 _
       ·exact(Yg n a5 _).bind fun l a6=>PA.pure (by(try dsimp only); rw [Ik]; simp only [lw,ad0,if_true]; omega))
    ·exact(ae9 n a3 _).bind fun x a4=>(hb a4 _).bind fun bl a5=>(A2 a5 _).bind fun _ a6=>PA.ite
      ((hb a6 _).bind fun e a7=>PA.pure (by(try dsimp only); rw [Ik]; simp only [lw,ad0,if_true]; omega))
      (PA.pure (by(try dsimp only); rw [Ik]; simp only [lw,ad0,if_true]; omega)))))
theorem Yk {stmt:PM XS}(hs:xX L stmt sW):∀(m:Nat) (l:List XS) (a c:Nat),PA L (vZ L stmt m l) a (c+lw sW l) (fun l'=>c+lw sW l')
 | 0,_,_,_=>PA.fail
 | m+1,l,a,c=>(V7 a _).bind fun _ a1=>PA.ite (PA.pure (by(try dsimp only); omega)) ((hs a1 _).bind fun x a2=>(Yk hs m (l++[x]) a2 c).le (by(try dsimp only); rw [FE]; omega) fun _=>ac5 _)
theorem Q7:∀n,xX L (sE L n) (lw sW)
 | 0=>fun _ _=>PA.fail
 | n+1=>fun a c=>(IM a c).bind fun _ a1=>by
   have h:=Yk (axU (Q7 n) n) 131073 [] a1 c
   simp only [lw,al5] at h
   exact(h.le (by(try dsimp only); omega) fun _=>ac5 _).bind fun l a2=>(IN a2 _).bind fun _ a3=>PA.pure (by(try dsimp only); omega)
theorem avX {p:Nat}{name:List UInt8}{ps:List XP}{has:Bool}{ty:Ty}{b:List XS}:fW ⟨p,name,ps,has,ty,b⟩=name.length+120+lw pW ps+lw sW b:=by
 simp only [fW,XF.o8,wF,alF,XW]
theorem axT:xX L (wL L) fW:=fun a c =>
 (xY a c).bind fun _ a1=>(DX a1 _).bind fun t a2=>(xY a2 _).bind fun _ a3=>(afB an2 a3 _).bind fun ps a4=>(xY a4 _).bind fun _ a5=>(A2 a5 _).bind fun _ a6=>PA.ite
  ((Q8 a6 _).bind fun _ a7=>(TL a7 _).bind fun ty a8=>(Q7 65 a8 _).bind fun b a9=>PA.pure (by(try dsimp only); rw [avX]; omega))
  ((Q7 65 a6 _).bind fun b a7=>PA.pure (by(try dsimp only); rw [avX]; omega))
theorem Yh:∀(m:Nat) (l:List XF) (a c:Nat),PA L (o7 L m l) a (c+lw fW l) (fun l'=>c+lw fW l')
 | 0,_,_,_=>PA.fail
 | m+1,l,a,c=>PA.here (PA.ite (PA.pure (ac5 _)) ((axT a _).bind fun f a1=>(Yh m (l++[f]) a1 c).le (by(try dsimp only); rw [FE]; omega) fun _=>ac5 _))
end
end
section
open Go Hk
def L_ (t:List UInt8):Prop:=(∃b r,t=b::r∧pI b=true)∧(∀c∈t,isWord c=true)∧t.length≤40∧t ∉ uI
theorem acX {d:List UInt8}{a n:Nat}{x:Token}(h:uP d a=some (x,n)) (hk:x.kind=1):L_ x.text:=by
 unfold uP at h
 cases d with
 | nil=>cases h
 | cons b r =>
  simp only [] at h
  by_cases h1:pI b=true
  ·rw [if_pos h1] at h
   split at h
   ·cases h
   ·rename_i h40
    simp only [ab0,af8] at h
    obtain⟨rfl,_⟩:=h
    have hw:¬nR (b::r)∈uI:=fun hm=>by simp [hm] at hk
    exact⟨⟨b,nR r,by simp [nR,ak2,isWord,h1],h1⟩,Jx _,Nat.le_of_not_lt h40,hw⟩
  ·rw [if_neg h1] at h
   split at h
   ·split at h
    ·cases h
    ·simp only [ab0,af8] at h
     obtain⟨rfl,_⟩:=h
     cases hk
   ·split at h
    ·cases h
    ·simp only [ab0,af8] at h
     obtain⟨rfl,_⟩:=h
     cases hk
theorem ZH:∀{l:List UInt8},(∀c∈l,isWord c=true)→nR l=l
 | [],_=>rfl
 | b::r,h=>by
  have ih:=ZH (l:=r) fun c hc=>h c (by simp [hc])
  unfold nR at ih ⊢
  simp [ak2,h b (by simp),ih]
theorem asZ {t:List UInt8}(h:L_ t) (p:Nat):uP t p=some (⟨1,p,0,t⟩,t.length):=by
 obtain⟨⟨b,r,rfl,hb⟩,hw,h40,hm⟩:=h
 unfold uP
 simp only [ZH hw,hb,if_true]
 rw [if_neg (by omega),if_neg hm]
theorem UY {t:List UInt8}(h:L_ t):qR t=true:=by
 have h1:=asZ h 0
 obtain⟨⟨b,r,rfl,hb⟩,hw,h40,hm⟩:=h
 have hb2:=Qi hb
 have e:oI (b::r)=([⟨1,0,0,b::r⟩,⟨0,(b::r).length,0,[]⟩],0,0):=by
  unfold oI
  rw [if_neg (by omega)]
  rw [rI (zZ (a:=0) (b:=b) rfl hb2.1 hb2.2) (by simp) (by rw [List.drop_zero]; exact h1) rfl]
  rw [BU]
  ·rfl
  ·have:=wC (b::r) (0+max 1 (b::r).length)
   omega
 unfold qR
 rw [e]
 simp
def TF (x:Token):Prop:=(x.kind=1→L_ x.text)∧x.num≤4294967295
theorem WZ (s:List UInt8) (a:Nat) (out:List Token) (ho:∀x∈out,TF x):∀x∈(lexFrom s a out).1,TF x:=by
 fun_induction lexFrom s a out with
 | case1 a out h h3=>intro x hx; cases hx
 | case2 a out h t n h3 ih =>
  refine ih fun x hx=>?_
  rcases List.mem_append.1 hx with hx | hx
  ·exact ho x hx
  ·obtain rfl:=List.mem_singleton.1 hx
   exact⟨fun hk=>acX h3 hk,(YN h3).1.2.1⟩
 | case3 a out h =>
  intro x hx
  rcases List.mem_append.1 hx with hx | hx
  ·exact ho x hx
  ·obtain rfl:=List.mem_singleton.1 hx
   exact⟨fun hk=>(by cases hk),ah9 _⟩
theorem UJ (s:List UInt8):∀x∈(oI s).1,TF x:=by
 unfold oI
 split
 ·intro x hx; cases hx
 ·exact WZ s 0 [] (fun x hx=>by cases hx)
theorem apY (s:List UInt8) (a:Nat):TF (tk (oI s).1 a):=by
 have h:=UJ s
 unfold tk
 cases hg:(oI s).1[a]? with
 | none=>exact⟨fun hk=>(by cases hk),ah9 _⟩
 | some x=>exact h x (af1 hg)
def WA {α:Type}(x:PM α) (a d d':Nat) (R:α→Prop):Prop:=∀v a1 d1,x a d=.ok v a1 d1→d1=d'∧R v
def WP {α:Type}(x:PM α) (d d':Nat) (R:α→Prop):Prop:=∀a,WA x a d d' R
section
variable {L:List Token}{α β:Type}{R:α→Prop}{S:β→Prop}{a d d' d'':Nat}
theorem WA.bind {x:PM α}{f:α→PM β}(hx:WA x a d d' R) (hf:∀v,R v→WP (f v) d' d'' S):WA (x >>= f) a d d'' S:=by
 intro v a1 dd h
 rw [mK] at h
 unfold PM.bind at h
 cases hx1:x a d with
 | bad e p a1 d1=>rw [hx1] at h; cases h
 | ok v1 a2 d2 =>
  rw [hx1] at h
  obtain⟨rfl,hR⟩:=hx _ _ _ hx1
  exact hf v1 hR a2 _ _ _ h
theorem WP.bind {x:PM α}{f:α→PM β}(hx:WP x d d' R) (hf:∀v,R v→WP (f v) d' d'' S):WP (x >>= f) d d'' S:=fun a=>(hx a).bind hf
theorem WP.pure {v:α}(h:R v):WP (Pure.pure v:PM α) d d R:=by intro a v' a1 d1 h'; cases h'; exact⟨rfl,h⟩
theorem WP.fail {e:Nat}:WP (w_ L e:PM α) d d' R:=by intro a v a1 d1 h; cases h
theorem WP.ite {c:Prop} [Decidable c] {x y:PM α}(hx:c→WP x d d' R) (hy:¬c→WP y d d' R):WP (if c then x else y) d d' R:=by
 split
 ·rename_i h; exact hx h
 ·rename_i h; exact hy h
theorem WA.ite {c:Prop} [Decidable c] {x y:PM α}(hx:c→WA x a d d' R) (hy:¬c→WA y a d d' R):WA (if c then x else y) a d d' R:=by
 split
 ·rename_i h; exact hx h
 ·rename_i h; exact hy h
theorem WA.here {f:Token→PM α}(h:WA (f (tk L a)) a d d' R):WA (oQ L >>= f) a d d' R:=fun v a1 d1 h'=>h v a1 d1 h'
theorem WA.next {f:Unit→PM α}(h:WP (f ()) d d' R):WA (xU >>= f) a d d' R:=fun v a1 d1 h'=>h (a+1) v a1 d1 h'
theorem WP.mono {x:PM α}{R':α→Prop}(h:WP x d d' R) (hm:∀v,R v→R' v):WP x d d' R':=fun a v a1 d1 h'=>⟨(h a v a1 d1 h').1,hm v (h a v a1 d1 h').2⟩
abbrev TT {α:Type}:α→Prop:=fun _=>True
theorem Ta:WP (oQ L) d d TT:=by intro a v a1 d1 h; cases h; exact⟨rfl,trivial⟩
theorem XX {w:List UInt8}:WP (GZ L w) d d TT:=by intro a v a1 d1 h; cases h; exact⟨rfl,trivial⟩
theorem aLn:WP pUp (d+1) d TT:=by intro a v a1 d1 h; cases h; exact⟨rfl,trivial⟩
theorem Bc {w:List UInt8}:WP (pM L w) d d TT:=by intro a v a1 d1 h; cases h; exact⟨rfl,trivial⟩
theorem yG {w:List UInt8}:WP (oR L w) d d TT:=by
 intro a v a1 d1 h; unfold oR at h
 split at h
 ·cases h; exact⟨rfl,trivial⟩
 ·cases h
theorem J6 {w:List UInt8}(hd:d≤64):WP (uJ L w) d (d+1) (fun _=>d+1≤64):=by
 intro a v a1 d1 h; unfold uJ at h
 split at h
 ·split at h
  ·cases h
  ·cases h; exact⟨rfl,by omega⟩
 ·cases h
theorem J7 {w:List UInt8}:WP (uK L w) (d+1) d TT:=by
 intro a v a1 d1 h; unfold uK at h
 split at h
 ·cases h; exact⟨rfl,trivial⟩
 ·cases h
theorem LW {k:Nat}:WA (qM L k) a d d (fun t=>t=tk L a∧t.kind=k):=by
 intro v a1 d1 h; unfold qM at h
 split at h
 ·rename_i hk; cases h; exact⟨rfl,rfl,hk⟩
 ·cases h
theorem Tc:WP (sQ L) d d (fun l=>l=0∨l=1):=by
 intro a v a1 d1 h; unfold sQ at h
 split at h
 ·cases h; exact⟨rfl,.inr rfl⟩
 ·split at h
  ·cases h; exact⟨rfl,.inl rfl⟩
  ·cases h
theorem VP {l:Nat}(hl:l=0∨l=1):WP (qO L l) d d (fun t=>sK t.o8=true∧t.len=0∧t.elem≠2∧t.label=l):=by
 intro a v a1 d1 h; unfold qO at h
 split at h
 ·cases h; refine⟨rfl,?_,rfl,(fun h=>by cases h),rfl⟩; rcases hl with rfl | rfl <;> decide
 ·split at h
  ·cases h; refine⟨rfl,?_,rfl,(fun h=>by cases h),rfl⟩; rcases hl with rfl | rfl <;> decide
  ·cases h
variable (hT:∀a,TF (tk L a))
include hT
theorem F6:WP (qM L 1) d d (fun t=>qR t.text=true):=fun a v a1 d1 h=>by
 obtain⟨h1,h2,h3⟩:=LW v a1 d1 h
 exact⟨h1,by subst h2; exact UY ((hT a).1 h3)⟩
theorem Tb:WP (qM L 2) d d (fun t=>t.num≤4294967295):=fun a v a1 d1 h=>by
 obtain⟨h1,h2,h3⟩:=LW v a1 d1 h
 exact⟨h1,by subst h2; exact(hT a).2⟩
theorem alM:WP (yN L) d d (fun n=>n≠0∧n≤4294967295):=by
 unfold yN
 refine yG.bind fun _ _ a=>WA.here (WA.ite (fun _=>WP.fail a) fun h=>WA.bind LW fun n hn=>yG.bind fun _ _=>WP.pure ?_)
 obtain⟨rfl,hk⟩:=hn
 exact⟨fun h0=>h ⟨hk,h0⟩,(hT a).2⟩
theorem Z2 {l:Nat}(hl:l=0∨l=1):WP (vK L l) d d (fun t=>sK t.o8=true):=by
 unfold vK
 refine Bc.bind fun _ _=>WP.ite (fun _=>(alM hT).bind fun n hn=>WP.pure ?_) fun _=>(VP hl).bind fun t ht=>WP.ite (fun he=>XX.bind fun _ _=>WP.ite (fun _=>(alM hT).bind fun n hn=>WP.pure ?_) fun _=>WP.pure ht.1) fun _=>WP.pure ht.1
 ·rcases hl with rfl | rfl <;> simp [sK,Ty.o8,zF] <;> omega
 ·rcases hl with rfl | rfl <;> simp [sK,Ty.o8,zF,he,ht.2.2.2] <;> omega
theorem auN:WP (u1 L) d d (fun p=>uV p.o8=true):=by
 unfold u1
 refine Bc.bind fun _ _=>Tc.bind fun l hl=>(F6 hT).bind fun t ht=>yG.bind fun _ _=>(Z2 hT hl).bind fun ty hty=>WP.pure ?_
 simp [uV,XP.o8,ht,hty]
omit hT
theorem Fj {l:List α}{x:α}(hl:∀y∈l,R y) (hx:R x):∀y∈l++[x],R y:=fun y hy=>by
 rcases List.mem_append.1 hy with hy | hy
 ·exact hl y hy
 ·rw [List.mem_singleton.1 hy]; exact hx
theorem Ef:∀y∈([]:List α),R y:=fun y hy=>by cases hy
theorem alN {one:PM α}(h1:WP one d d R):∀(n:Nat) (l:List α),(∀x∈l,R x)→WP (xT L one n l) d d (fun l=>∀x∈l,R x)
 | 0,_,_=>WP.fail
 | n+1,l,hl=>h1.bind fun x hx=>Bc.bind fun _ _=>WP.ite (fun _=>alN h1 n _ (Fj hl hx)) fun _=>WP.pure (Fj hl hx)
theorem alL {one:PM α}{w:List UInt8}(h1:WP one d d R):WP (yZ L w one) d d (fun l=>∀x∈l,R x) :=
 XX.bind fun _ _=>WP.ite (fun _=>WP.pure Ef) fun _=>alN h1 _ _ Ef
end
def EW (d:Nat) (x:XE):Prop:=nU x.o8=true∧d+mA x.o8≤64
def CW (d t:Nat) (x:XE):Prop:=EW d x∧(t≤lJ x.o8.kind∨d+mA x.o8+1≤64)
theorem FV:∀x:GE,(lW x).1=x.kind
 | .mk ..=>rfl
theorem alP:∀{l:List XE},(∀x∈l,nU x.o8=true)→nH (XE.pJ l)=true
 | [],_=>rfl
 | x::r,h=>by simp [XE.pJ,nH,h x (by simp),alP (l:=r) fun y hy=>h y (by simp [hy])]
theorem ai4 {n:Nat}:∀{l:List XE},(∀x∈l,mA x.o8≤n)→wJ (yC (XE.pJ l))≤n
 | [],_=>ah9 _
 | x::r,h=>Nat.max_le.2 ⟨h x (by simp),ai4 (l:=r) fun y hy=>h y (by simp [hy])⟩
theorem ak4 (l:List XE):(XE.pJ l).length=l.length:=by rw [XE.LU,List.length_map]
theorem adM (k:Int):lJ k≤8:=by
 unfold lJ
 cases h:([8,8,8,8,8,8,8,8,6,6,7,4,2,3,5,5,8,1,1,1,1,1,1,8,8,8,8]:List Nat)[k.toNat]? with
 | none=>exact ac5 _
 | some x=>exact(by decide:∀x∈([8,8,8,8,8,8,8,8,6,6,7,4,2,3,5,5,8,1,1,1,1,1,1,8,8,8,8]:List Nat),x≤8) x (af1 h)
theorem Ie {b:Bool}{p:Part}{m:Nat}(h:p.2.2≤m) (h2:b=true∨p.2.2+1≤m):sX b p≤m:=by
 unfold sX
 cases b
 ·rcases h2 with h2 | h2
  ·cases h2
  ·exact h2
 ·exact h
section
variable {L:List Token}{d:Nat}(hT:∀a,TF (tk L a))
section
variable {ex un:PM XE}(he:∀d,d≤64→WP ex d d (EW d)) (hu:∀d,d≤64→WP un d d (CW d 8))
include he
theorem Z1 (hd:d≤64):WP (uU L ex) d d (fun l=>∃x,l=[x]∧EW (d+1) x):=by
 unfold uU
 exact(J6 hd).bind fun _ h=>(he _ h).bind fun x hx=>J7.bind fun _ _=>WP.pure ⟨x,rfl,hx⟩
theorem alI (hd:d≤64) {t:Token}(ht:qR t.text=true):WP (zT L ex t) d d (fun x=>CW d 8 x∧x.o8.kind=4):=by
 unfold zT
 refine(J6 hd).bind fun _ h=>(alL (he _ h)).bind fun l hl=>J7.bind fun _ _=>WP.pure ?_
 have h1:=alP fun x hx=>(hl x hx).1
 have h2:=ai4 (l:=l) (n:=63 - d) fun x hx=>by have:=(hl x hx).2; omega
 refine⟨⟨⟨?_,?_⟩,.inl (ac5 8)⟩,rfl⟩
 ·simp [XE.o8,nU,rL,tT,lI,k_,ht,h1]
 ·show d+(wJ (yC (XE.pJ l))+1)≤64
  omega
theorem alH (hd:d≤64):∀(n:Nat) (b:Bool) (l:List XE),(∀x∈l,EW d x)→WP (tO L ex n b l) d d (fun r=>(∀x∈r,EW d x)∧r.length=l.length+n)
 | 0,_,l,hl=>WP.pure ⟨hl,rfl⟩
 | n+1,b,l,hl=>by
  unfold tO
  have h1:WP (do let x ←ex; tO L ex n false (l++[x]):PM (List XE)) d d (fun r=>(∀x∈r,EW d x)∧r.length=l.length+(n+1)) :=
   (he _ hd).bind fun x hx=>(alH hd n _ _ (Fj hl hx)).mono fun r hr=>⟨hr.1,by rw [hr.2]; simp; omega⟩
  cases b
  ·exact yG.bind fun _ _=>h1
  ·exact(WP.pure (v:=PUnit.unit) (R:=TT) trivial).bind fun _ _=>h1
include hT
theorem IC {kind many a:Nat}{number:Bool}(hd:d≤64) (h8:lJ kind=8) (hk:∀n:Nat,n≤4294967295→(number=false→n=0)→rL kind n [] many=true) (hn:∀l,yM kind l=wJ l+1) :
  WA (vY L ex kind many number) a d d (CW d 8):=by
 unfold vY
 refine WA.here (WA.next ((J6 hd).bind fun _ h=>(alH he h _ _ _ Ef).bind fun l hl=>?_))
 have fin:∀(n p:Nat),n≤4294967295→(number=false→n=0)→CW d 8 (.mk kind p n [] l):=fun n p h1 h2=>by
  have e1:=alP fun x hx=>(hl.1 x hx).1
  have e2:=ai4 (l:=l) (n:=63 - d) fun x hx=>by have:=(hl.1 x hx).2; omega
  have e3:(XE.pJ l).length=many:=by rw [ak4,hl.2]; simp
  refine⟨⟨?_,?_⟩,.inl (Nat.le_of_eq h8.symm)⟩
  ·show(rL kind n [] (XE.pJ l).length && nH (XE.pJ l))=true
   rw [e3,hk n h1 h2,e1]; rfl
  ·show d+yM kind (yC (XE.pJ l))≤64
   rw [hn]; omega
 exact WP.ite (fun hb=>yG.bind fun _ _=>(Tb hT).bind fun n hn=>J7.bind fun _ _=>WP.pure (fin _ _ hn fun h=>by rw [hb] at h; cases h)) fun _=>J7.bind fun _ _=>WP.pure (fin 0 _ (ah9 _) fun _=>rfl)
theorem adR (hd:d≤64):WP (qD L ex) d d (CW d 8):=by
 unfold qD
 intro a
 have z:∀(k many:Nat),rL k 0 [] many=true→∀n:Nat,n≤4294967295→(false=false→n=0)→rL k n [] many=true:=fun k many h n _ h0=>by rw [h0 rfl]; exact h
 refine WA.here (WA.ite (fun h=>WA.next (WP.pure ?_)) fun _=>WA.ite (fun h=>(J6 hd).bind (fun _ h=>(he _ h).bind fun x hx=>J7.bind fun _ _=>WP.pure ?_) a) fun _ =>
  WA.ite (fun _=>IC hT he hd rfl (z _ _ rfl) fun _=>rfl) fun _=>WA.ite (fun _=>IC hT he hd rfl (z _ _ rfl) fun _=>rfl) fun _ =>
  WA.ite (fun _=>IC hT he hd rfl (z _ _ rfl) fun _=>rfl) fun _=>WA.ite (fun _=>IC hT he hd rfl (z _ _ rfl) fun _=>rfl) fun _ =>
  WA.ite (fun _=>IC hT he hd rfl ?_ fun _=>rfl) fun _=>WA.bind LW fun t ht=>?_)
 ·refine⟨⟨?_,?_⟩,.inl (ac5 8)⟩
  ·have:=(hT a).2
   simp [XE.o8,XE.pJ,nU,nH,rL,tT,lI,k_,zF]; omega
  ·show d+0≤64
   omega
 ·exact⟨⟨hx.1,by have:=hx.2; omega⟩,.inr (by have:=hx.2; omega)⟩
 ·intro n hn _
  simp [rL,tT,lI,k_,zF]; omega
 ·have hn:qR (tk L a).text=true:=UY ((hT a).1 (ht.1 ▸ ht.2))
  refine XX.bind fun _ _=>WP.ite (fun _=>(alI he hd hn).mono fun v hv=>hv.1) fun _=>XX.bind fun _ _=>WP.ite (fun _=>(Z1 he hd).bind fun l hl=>WP.pure ?_) fun _=>WP.pure ?_
  ·obtain⟨x,rfl,hx⟩:=hl
   refine⟨⟨?_,?_⟩,.inl (ac5 8)⟩
   ·simp [XE.o8,XE.pJ,nU,nH,rL,tT,lI,k_,hn,hx.1]
   ·show d+(mA x.o8+1)≤64
    have:=hx.2; omega
  ·refine⟨⟨?_,?_⟩,.inl (ac5 8)⟩
   ·simp [XE.o8,XE.pJ,nU,nH,rL,tT,lI,k_,hn]
   ·show d+0≤64
    omega
include hu
theorem XZ {kind:Nat}(hk:kind=5∨kind=6∨kind=7) (hd:d≤64):WP (AK L un kind) d d (CW d 8):=by
 unfold AK
 refine Ta.bind fun t _=>(J6 hd).bind fun _ h=>(hu _ h).bind fun x hx=>aLn.bind fun _ _=>WP.pure ?_
 obtain⟨⟨h1,h2⟩,h3⟩:=hx
 have e:yM kind [lW x.o8]=sX (decide (lJ x.o8.kind=8)) (lW x.o8)+1:=by
  rw [←FV]; rcases hk with rfl | rfl | rfl <;> rfl
 have h8:=adM x.o8.kind
 refine⟨⟨?_,?_⟩,.inl ?_⟩
 ·rcases hk with rfl | rfl | rfl <;> simp [XE.o8,XE.pJ,nU,nH,rL,tT,lI,k_,h1]
 ·show d+yM kind [lW x.o8]≤64
  rw [e]
  have:=Ie (b:=decide (lJ x.o8.kind=8)) (p:=lW x.o8) (m:=63 - d) (by show mA x.o8≤_; omega) (by
   rcases h3 with h3 | h3
   ·exact .inl (decide_eq_true (by omega))
   ·exact .inr (by show mA x.o8+1≤_; omega))
  omega
 ·rcases hk with rfl | rfl | rfl <;> exact ac5 8
theorem auO (hd:d≤64):WP (yB L ex un) d d (CW d 8):=by
 unfold yB
 exact Ta.bind fun t _=>WP.ite (fun _=>XZ hT he hu (.inl rfl) hd) fun _=>WP.ite (fun _=>XZ hT he hu (.inr (.inl rfl)) hd) fun _=>WP.ite (fun _=>XZ hT he hu (.inr (.inr rfl)) hd) fun _=>adR hT he hd
end
theorem abX {w:List UInt8}{n kd:Nat}(hl:nV w=some (n,kd)):(n,kd)∈([(0,17),(0,18),(0,19),(0,20),(0,21),(0,22),(1,12),(2,13),(3,11),(4,14),(4,15),(5,8),(5,9),(6,10)]:List (Nat×Nat)):=by
 unfold nV at hl
 by_cases h0:w=[61,61]
 ·rw [if_pos h0] at hl; cases hl; decide
 rw [if_neg h0] at hl
 by_cases h1:w=[33,61]
 ·rw [if_pos h1] at hl; cases hl; decide
 rw [if_neg h1] at hl
 by_cases h2:w=[60]
 ·rw [if_pos h2] at hl; cases hl; decide
 rw [if_neg h2] at hl
 by_cases h3:w=[60,61]
 ·rw [if_pos h3] at hl; cases hl; decide
 rw [if_neg h3] at hl
 by_cases h4:w=[62]
 ·rw [if_pos h4] at hl; cases hl; decide
 rw [if_neg h4] at hl
 by_cases h5:w=[62,61]
 ·rw [if_pos h5] at hl; cases hl; decide
 rw [if_neg h5] at hl
 by_cases h6:w=[124]
 ·rw [if_pos h6] at hl; cases hl; decide
 rw [if_neg h6] at hl
 by_cases h7:w=[94]
 ·rw [if_pos h7] at hl; cases hl; decide
 rw [if_neg h7] at hl
 by_cases h8:w=[38]
 ·rw [if_pos h8] at hl; cases hl; decide
 rw [if_neg h8] at hl
 by_cases h9:w=[60,60]
 ·rw [if_pos h9] at hl; cases hl; decide
 rw [if_neg h9] at hl
 by_cases h10:w=[62,62]
 ·rw [if_pos h10] at hl; cases hl; decide
 rw [if_neg h10] at hl
 by_cases h11:w=[43]
 ·rw [if_pos h11] at hl; cases hl; decide
 rw [if_neg h11] at hl
 by_cases h12:w=[45]
 ·rw [if_pos h12] at hl; cases hl; decide
 rw [if_neg h12] at hl
 by_cases h13:w=[42]
 ·rw [if_pos h13] at hl; cases hl; decide
 rw [if_neg h13] at hl
 cases hl
theorem Oj {t:Token}{k kind:Nat}(h:pO t k=some kind):lJ kind=k+1∧k≤6∧((kind=14∨kind=15)→∀n:Nat,n≤4294967295→rL kind n [] 1=true)∧(¬(kind=14∨kind=15)→rL kind 0 [] 2=true):=by
 unfold pO at h
 split at h
 ·split at h
  ·rename_i n kd hl
   split at h
   ·rename_i hn
    simp only [ab0] at h
    subst h; subst hn
    have hm:=abX hl
    simp only [List.mem_cons,af8,List.not_mem_nil,or_false] at hm
    rcases hm with ⟨rfl,rfl⟩ | ⟨rfl,rfl⟩ | ⟨rfl,rfl⟩ | ⟨rfl,rfl⟩ | ⟨rfl,rfl⟩ | ⟨rfl,rfl⟩ | ⟨rfl,rfl⟩ | ⟨rfl,rfl⟩ | ⟨rfl,rfl⟩ | ⟨rfl,rfl⟩ | ⟨rfl,rfl⟩ | ⟨rfl,rfl⟩ | ⟨rfl,rfl⟩ | ⟨rfl,rfl⟩
    all_goals (refine⟨rfl,by omega,fun h n hn=>?_,fun h=>?_⟩)
    all_goals (first | rfl | (exfalso; omega) | (simp [rL,tT,lI,k_,zF]; omega))
   ·cases h
  ·cases h
 ·cases h
theorem afR {kind p:Nat}{x y:XE}{t:Nat}(ht:lJ kind=t) (h7:t≤7) (hk:rL kind 0 [] 2=true) (hx:EW d x) (Kv:(t < lJ x.o8.kind∨lJ x.o8.kind=t∧1 < t)∨d+mA x.o8+1≤64) (hy:CW d (t+1) y) :
  CW d t (.mk kind p 0 [] [x,y]):=by
 obtain⟨⟨y1,y2⟩,y3⟩:=hy
 refine⟨⟨?_,?_⟩,.inl (Nat.le_of_eq ht.symm)⟩
 ·show(rL kind 0 [] 2 && (nU x.o8 && (nU y.o8 && true)))=true
  simp [hk,hx.1,y1]
 ·show d+yM kind [lW x.o8,lW y.o8]≤64
  have e:yM kind [lW x.o8,lW y.o8]=max (sX (mX t (lW x.o8).1) (lW x.o8)) (sX (decide (t < lJ (lW y.o8).1)) (lW y.o8)):=by
   unfold yM
   rw [ht,if_pos (by omega)]
  rw [e,FV,FV]
  have a1:=Ie (b:=mX t x.o8.kind) (p:=lW x.o8) (m:=64 - d) (by have:=hx.2; show mA x.o8≤_; omega) (by
   rcases Kv with h | h
   ·exact .inl (decide_eq_true h)
   ·exact .inr (by show mA x.o8+1≤_; omega))
  have a2:=Ie (b:=decide (t < lJ y.o8.kind)) (p:=lW y.o8) (m:=64 - d) (by show mA y.o8≤_; omega) (by
   rcases y3 with h | h
   ·exact .inl (decide_eq_true (by omega))
   ·exact .inr (by show mA y.o8+1≤_; omega))
  have:=hx.2
  omega
theorem akJ {kind p n:Nat}{x:XE}{t:Nat}(ht:lJ kind=t) (h7:t≤7) (hk:rL kind n [] 1=true) (hx:EW d x) (Kv:(t < lJ x.o8.kind∨lJ x.o8.kind=t∧1 < t)∨d+mA x.o8+1≤64) :
  CW d t (.mk kind p n [] [x]):=by
 refine⟨⟨?_,?_⟩,.inl (Nat.le_of_eq ht.symm)⟩
 ·show(rL kind n [] 1 && (nU x.o8 && true))=true
  simp [hk,hx.1]
 ·show d+yM kind [lW x.o8]≤64
  have e:yM kind [lW x.o8]=sX (mX t (lW x.o8).1) (lW x.o8):=by
   unfold yM
   rw [ht,if_pos (by omega)]
  rw [e,FV]
  have a1:=Ie (b:=mX t x.o8.kind) (p:=lW x.o8) (m:=64 - d) (by have:=hx.2; show mA x.o8≤_; omega) (by
   rcases Kv with h | h
   ·exact .inl (decide_eq_true h)
   ·exact .inr (by show mA x.o8+1≤_; omega))
  have:=hx.2
  omega
include hT
theorem XY {next:PM XE}{k:Nat}(hk:1≤k) (hn:WP next d d (CW d (k+2))):∀(n:Nat) (x:XE),CW d (k+1) x→WP (tP L next k n x) d d (CW d (k+1))
 | 0,_,_=>WP.fail
 | n+1,x,hx=>by
  unfold tP
  intro a
  refine WA.here ?_
  have Kv:(k+1 < lJ x.o8.kind∨lJ x.o8.kind=k+1∧1 < k+1)∨d+mA x.o8+1≤64:=by
   rcases hx.2 with h | h
   ·left; omega
   ·exact .inr h
  cases hs:pO (tk L a) k with
  | none=>exact WP.pure hx a
  | some kind =>
   obtain⟨h1,h2,h3,h4⟩:=Oj hs
   exact WA.next (WP.ite (fun h=>(Tb hT).bind fun c hc=>XY hk hn n _ (akJ h1 (by omega) (h3 h _ hc) hx.1 Kv)) fun h=>hn.bind fun y hy=>XY hk hn n _ (afR h1 (by omega) (h4 h) hx.1 Kv hy))
theorem ZY {un:PM XE}(hu:WP un d d (CW d 8)):∀j,j≤6→WP (pD L un j) d d (CW d (8 - j))
 | 0,_=>hu
 | j+1,hj=>by
  have h1:=ZY hu j (by omega)
  have e:8 - j=6 - j+2:=by omega
  have e2:8 - (j+1)=6 - j+1:=by omega
  rw [e] at h1
  rw [e2]
  exact h1.bind fun x hx=>XY hT (by omega) h1 _ _ ⟨hx.1,by rcases hx.2 with h | h; (left; omega); exact .inr h⟩
theorem alK {un:PM XE}(hu:WP un d d (CW d 8)):WP (Bj L un) d d (EW d):=by
 unfold Bj
 have h6:=ZY hT hu 6 (ac5 _)
 refine h6.bind fun x hx a=>WA.here ?_
 cases hs:pO (tk L a) 0 with
 | none=>exact WP.pure hx.1 a
 | some kind =>
  obtain⟨h1,h2,h3,h4⟩:=Oj hs
  have hne:¬(kind=14∨kind=15):=fun h=>by rcases h with rfl | rfl <;> exact absurd h1 (by decide)
  exact WA.next (h6.bind fun y hy=>WP.pure (afR (t:=1) h1 (by omega) (h4 hne) hx.1 (by rcases hx.2 with h | h; (left; left; omega); exact .inr h) hy).1)
theorem aCS:∀n d,d≤64→WP (EC L n) d d (CW d 8)
 | 0,_,_=>WP.fail
 | n+1,d,hd=>auO hT (fun d hd=>alK hT (aCS n d hd)) (aCS n) hd
theorem alJ (n d:Nat) (hd:d≤64):WP (B1 L n) d d (EW d):=alK hT (aCS hT n d hd)
end
end
section
open Go Hk
def SW (d:Nat) (s:XS):Prop:=pX s.o8=true∧d+qT s.o8≤64
def BW (d:Nat) (l:List XS):Prop:=nW (XS.pJ l)=true∧d+(qJ (nX (XS.pJ l))+1)≤64
theorem OT:∀{l:List XS},(∀x∈l,pX x.o8=true)→nW (XS.pJ l)=true
 | [],_=>rfl
 | x::r,h=>by simp [XS.pJ,nW,h x (by simp),OT (l:=r) fun y hy=>h y (by simp [hy])]
theorem QD {n:Nat}:∀{l:List XS},(∀x∈l,qT x.o8≤n)→qJ (nX (XS.pJ l))≤n
 | [],_=>ah9 _
 | x::r,h=>Nat.max_le.2 ⟨h x (by simp),QD (l:=r) fun y hy=>h y (by simp [hy])⟩
section
variable {L:List Token}{d:Nat}(hT:∀a,TF (tk L a))
include hT
theorem ZZ (n:Nat) (hd:d≤64):WP (Bu L n) d d (fun l=>∃x,l=[x]∧EW d x):=by
 unfold Bu
 exact(alJ hT n d hd).bind fun x hx=>yG.bind fun _ _=>WP.pure ⟨x,rfl,hx⟩
theorem auM (n pos:Nat) (hd:d≤64):WP (pN L n pos) d d (SW d):=by
 unfold pN
 refine(F6 hT).bind fun t ht=>XX.bind fun _ _=>WP.ite (fun _=>(alI (alJ hT _) hd ht).bind fun c hc=>yG.bind fun _ _=>WP.pure ?_) fun _=>XX.bind fun _ _ =>
  WP.ite (fun _=>(Z1 (alJ hT _) hd).bind fun i hi=>yG.bind fun _ _=>(ZZ hT n hd).bind fun l hl=>WP.pure ?_) fun _=>yG.bind fun _ _=>(ZZ hT n hd).bind fun l hl=>WP.pure ?_
 ·obtain⟨⟨⟨h1,h2⟩,_⟩,h3⟩:=hc
  refine⟨?_,h2⟩
  simp [XS.o8,XS.pJ,XE.pJ,pX,nW,lR,lL,lI,nH,k_,Ty.o8,GT.zero,P6,h1,h3]
 ·obtain⟨x,rfl,h1,h2⟩:=hi
  obtain⟨y,rfl,h3,h4⟩:=hl
  refine⟨?_,?_⟩
  ·simp [XS.o8,XS.pJ,XE.pJ,pX,nW,lR,lL,lI,nH,k_,Ty.o8,GT.zero,h1,h3,ht]
  ·show d+max (mA x.o8+1) (mA y.o8)≤64
   omega
 ·obtain⟨y,rfl,h3,h4⟩:=hl
  refine⟨?_,h4⟩
  simp [XS.o8,XS.pJ,XE.pJ,pX,nW,lR,lL,lI,nH,k_,Ty.o8,GT.zero,h3,ht]
theorem aCR {block:PM (List XS)}(hb:WP block d d (BW d)) (n:Nat) (hd:d≤64):WP (uL L block n) d d (SW d):=by
 unfold uL
 refine Ta.bind fun t _=>Bc.bind fun _ _=>WP.ite (fun _=>(F6 hT).bind fun nm hn=>yG.bind fun _ _=>(ZZ hT n hd).bind fun l hl=>WP.pure ?_) fun _=>Bc.bind fun _ _ =>
  WP.ite (fun _=>Tc.bind fun lab hlab=>(F6 hT).bind fun nm hn=>yG.bind fun _ _=>(Z2 hT hlab).bind fun ty hty=>yG.bind fun _ _=>WP.pure ?_) fun _=>Bc.bind fun _ _ =>
  WP.ite (fun _=>(alJ hT n d hd).bind fun x hx=>hb.bind fun b hb1=>Bc.bind fun _ _=>WP.ite (fun _=>hb.bind fun e he=>WP.pure ?_) fun _=>WP.pure ?_) fun _=>Bc.bind fun _ _ =>
  WP.ite (fun _=>(F6 hT).bind fun nm hn=>yG.bind fun _ _=>(alJ hT n d hd).bind fun x hx=>yG.bind fun _ _=>(Tb hT).bind fun m hm=>hb.bind fun b hb1=>WP.pure ?_) fun _=>Bc.bind fun _ _ =>
  WP.ite (fun _=>(ZZ hT n hd).bind fun l hl=>WP.pure ?_) fun _=>auM hT n _ hd
 ·obtain⟨y,rfl,h3,h4⟩:=hl
  refine⟨?_,h4⟩
  simp [XS.o8,XS.pJ,XE.pJ,pX,nW,lR,lL,lI,nH,k_,Ty.o8,GT.zero,h3,hn]
 ·refine⟨?_,by show d+0≤64; omega⟩
  simp [XS.o8,XS.pJ,XE.pJ,pX,nW,lR,lL,lI,nH,k_,hn,hty]
 ·obtain⟨h1,h2⟩:=hx
  obtain⟨h3,h4⟩:=hb1
  obtain⟨h5,h6⟩:=he
  refine⟨?_,?_⟩
  ·simp [XS.o8,XE.pJ,pX,lR,lL,lI,nH,k_,Ty.o8,GT.zero,h1,h3,h5]
  ·show d+max (mA x.o8) (max (qJ (nX (XS.pJ b))+1) (qJ (nX (XS.pJ e))+1))≤64
   omega
 ·obtain⟨h1,h2⟩:=hx
  obtain⟨h3,h4⟩:=hb1
  refine⟨?_,?_⟩
  ·simp [XS.o8,XE.pJ,XS.pJ,nW,pX,lR,lL,lI,nH,k_,Ty.o8,GT.zero,h1,h3]
  ·show d+max (mA x.o8) (qJ (nX (XS.pJ b))+1)≤64
   omega
 ·obtain⟨h1,h2⟩:=hx
  obtain⟨h3,h4⟩:=hb1
  refine⟨?_,?_⟩
  ·simp [XS.o8,XE.pJ,XS.pJ,nW,pX,lR,lL,lI,nH,k_,zF,Ty.o8,GT.zero,h1,h3,hn]; omega
  ·show d+max (mA x.o8) (qJ (nX (XS.pJ b))+1)≤64
   omega
 ·obtain⟨y,rfl,h3,h4⟩:=hl
  refine⟨?_,h4⟩
  simp [XS.o8,XS.pJ,XE.pJ,pX,nW,lR,lL,lI,nH,k_,Ty.o8,GT.zero,h3]
omit hT in
theorem Z3 {stmt:PM XS}(hs:WP stmt d d (SW d)):∀(m:Nat) (l:List XS),(∀x∈l,SW d x)→WP (vZ L stmt m l) d d (fun l=>∀x∈l,SW d x)
 | 0,_,_=>WP.fail
 | m+1,l,hl=>XX.bind fun _ _=>WP.ite (fun _=>WP.pure hl) fun _=>hs.bind fun x hx=>Z3 hs m _ (Fj hl hx)
theorem S_:∀n d,d≤64→WP (sE L n) d d (BW d)
 | 0,_,_=>WP.fail
 | n+1,d,hd=>(J6 hd).bind fun _ h=>(Z3 (aCR hT (S_ n _ h) n h) _ _ Ef).bind fun l hl=>J7.bind fun _ _=>WP.pure
   ⟨OT fun x hx=>(hl x hx).1,by
    have:=QD (l:=l) (n:=63 - d) fun x hx=>by have:=(hl x hx).2; omega
    omega⟩
def FW (f:XF):Prop:=o0 f.o8=true∧vB f.o8≤64
theorem aCQ:WP (wL L) 0 0 FW:=by
 unfold wL
 refine yG.bind fun _ _=>(F6 hT).bind fun nm hn=>yG.bind fun _ _=>(alL (auN hT)).bind fun ps hps=>yG.bind fun _ _=>Bc.bind fun _ _ =>
  WP.ite (fun _=>Tc.bind fun l hl=>(VP hl).bind fun ty hty=>(S_ hT 65 0 (by omega)).bind fun b hb=>WP.pure ?_) fun _=>(S_ hT 65 0 (by omega)).bind fun b hb=>WP.pure ?_
 ·obtain⟨h1,h2⟩:=hb
  have h3:ty.o8.len=0:=by show(ty.len:Int)=0; rw [hty.2.1]; rfl
  have h4:ty.o8.elem≠2:=fun h=>hty.2.2.1 (by have:(ty.elem:Int)=2:=h; omega)
  refine⟨?_,by show qJ (nX (XS.pJ b))+1≤64; omega⟩
  simp [XF.o8,o0,hn,h1,hty.1,h3,h4]
  exact hps
 ·obtain⟨h1,h2⟩:=hb
  refine⟨?_,by show qJ (nX (XS.pJ b))+1≤64; omega⟩
  simp [XF.o8,o0,hn,h1,Ty.o8,GT.zero]
  exact hps
theorem Z0:∀(m:Nat) (l:List XF),(∀x∈l,FW x)→WP (o7 L m l) 0 0 (fun l=>∀x∈l,FW x)
 | 0,_,_=>WP.fail
 | m+1,l,hl=>Ta.bind fun _ _=>WP.ite (fun _=>WP.pure hl) fun _=>(aCQ hT).bind fun x hx=>Z0 m _ (Fj hl hx)
end
theorem Fb (s:List UInt8):((mW s).1.map XF.o8).all o0=true∧qJ (((mW s).1.map XF.o8).map vB)≤64:=by
 have h:∀x∈(mW s).1,FW x:=by
  unfold mW
  split
  ·cases hp:o7 (oI s).1 131073 [] 0 0 with
   | bad e p a d=>exact Ef
   | ok l a d=>exact(Z0 (apY s) _ _ Ef 0 l a d hp).2
  ·exact Ef
 have h2:∀{l:List XF},(∀x∈l,FW x)→qJ ((l.map XF.o8).map vB)≤64:=fun {l}=>by
  induction l with
  | nil=>intro _; exact ah9 _
  | cons x r ih=>intro h; exact Nat.max_le.2 ⟨(h x (by simp)).2,ih fun y hy=>h y (by simp [hy])⟩
 refine⟨?_,h2 h⟩
 rw [List.all_map,List.all_eq_true]
 exact fun x hx=>(h x hx).1
theorem Ej (s:List UInt8):qE ((mW s).1.map XF.o8)=((((mW s).1.map XF.o8).map vF).flatten,0):=by
 have h:=Fb s
 unfold qE
 rw [if_pos h.1,if_neg (by omega)]
end
section
open Go Hk

end
end Go.Proofs.YtlddmnojanpdoaaGreatDoor
