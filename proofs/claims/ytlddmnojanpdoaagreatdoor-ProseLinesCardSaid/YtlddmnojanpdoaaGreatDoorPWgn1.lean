/-
  The texts WG.BB, WG.LA, WG.LB, WG.LC, one behind another. No conditions.
-/
import Derived.Test.YtlddmnojanpdoaaGreatDoorPWg2
import Derived.Test.YtlddmnojanpdoaaGreatDoorPSga1
import Derived.Test.YtlddmnojanpdoaaGreatDoorPLg1
import Derived.Test.YtlddmnojanpdoaaGreatDoorPWg1
set_option linter.unusedVariables false
set_option linter.unusedSimpArgs false
set_option linter.all false
open Bool renaming and_eq_true → ad2
open List renaming all_eq_true → ag3, cons_append → af5, length_map → ak1, length_nil → ad3, map_cons → ak9, mem_of_getElem? → ae3, takeWhile_cons → ak8
open Nat renaming add_zero → ak6, le_refl → ac9, zero_le → ak5
open Option renaming bind_some → ad0
open Option.some renaming injEq → ab3
open Prod.mk renaming injEq → af1
namespace Go.Proofs.YtlddmnojanpdoaaGreatDoor
section
open Go Hk
def Ty.pC (t:Ty):GT:=⟨t.elem,t.len,t.label⟩
mutual
def XE.pC:XE→GE
 | .mk k p n name args=>.mk k p n name (XE.pY args)
def XE.pY:List XE→List GE
 | []=>[]
 | x::r=>x.pC::XE.pY r
end
theorem XE.CG:∀l:List XE,XE.pY l=l.map XE.pC
 | []=>rfl
 | x::r=>by simp [XE.pY,XE.CG r]
mutual
def XS.pC:XS→GS
 | .mk k p m name ty args body els has=>.mk k p m name ty.pC (XE.pY args) (XS.pY body) (XS.pY els) has
def XS.pY:List XS→List GS
 | []=>[]
 | x::r=>x.pC::XS.pY r
end
def XP.pC (p:XP):GP:=⟨p.pos,p.name,p.ty.pC,p.out⟩
def XF.pC (f:XF):GF:=⟨f.pos,f.name,f.params.map XP.pC,f.has,f.result.pC,XS.pY f.body⟩
def eW (x:XE):Nat:=wE x.pC+4
def sW (x:XS):Nat:=wS x.pC+4
def pW (p:XP):Nat:=wP p.pC+4
def fW (f:XF):Nat:=wF f.pC
def lw {α:Type}(w:α→Nat):List α→Nat
 | []=>0
 | x::r=>w x+lw w r
theorem Fa {α:Type}{w:α→Nat}:∀{l:List α}{x:α},lw w (l++[x])=lw w l+w x
 | [],x=>by simp [lw]
 | y::r,x=>by simp only [af5,lw,Fa (l:=r)]; omega
theorem abJ {α:Type}{w:α→Nat}:∀{l m:List α},lw w (l++m)=lw w l+lw w m
 | [],m=>by simp [lw]
 | y::r,m=>by simp only [af5,lw,abJ (l:=r)]; omega
theorem UN:∀l:List XE,Fm (XE.pY l)=lw eW l
 | []=>rfl
 | x::r=>by simp only [XE.pY,Fm,lw,eW,UN r]
theorem UO:∀l:List XS,Gq (XS.pY l)=lw sW l
 | []=>rfl
 | x::r=>by simp only [XS.pY,Gq,lw,sW,UO r]
theorem aeU:∀l:List XP,Wj (l.map XP.pC)=lw pW l
 | []=>rfl
 | x::r=>by simp only [ak9,Wj,lw,pW,aeU r]
theorem aeT:∀l:List XF,MT (l.map XF.pC)=lw fW l
 | []=>rfl
 | x::r=>by simp only [ak9,MT,lw,fW,aeT r]
theorem FB {k p n:Nat}{name:List UInt8}{args:List XE}:eW (.mk k p n name args)=name.length+64+lw eW args:=by
 simp only [eW,XE.pC,wE,UN]; omega
theorem Hq {k p m:Nat}{name:List UInt8}{ty:Ty}{args:List XE}{b e:List XS}{has:Bool}:sW (.mk k p m name ty args b e has)=name.length+124+lw eW args+lw sW b+lw sW e:=by
 simp only [sW,XS.pC,wS,UN,UO]; omega
section
variable (L:List Token)
def IA:Nat→Nat
 | 0=>0
 | a+1=>IA a+(tk L a).text.length+200
def PA {α:Type}(x:PM α) (a c:Nat) (w:α→Nat):Prop:=∀d v a' d',x a d=.ok v a' d'→IA L a+w v≤IA L a'+c
def x9 {α:Type}(x:PM α) (w:α→Nat):Prop:=∀a c,PA L x a c (fun v=>c+w v)
variable {L} {α β:Type}
theorem PA.bind {x:PM α}{f:α→PM β}{a c:Nat}{wx:α→Nat}{w:β→Nat}(hx:PA L x a c wx) (hf:∀v a1,PA L (f v) a1 (wx v) w):PA L (x >>= f) a c w:=by
 intro d v a' d' h
 simp only [mO,PM.bind] at h
 cases h1:x a d with
 | ok u a1 d1 =>
  rw [h1] at h
  have e1:=hx d u a1 d1 h1
  have e2:=hf u a1 d1 v a' d' h
  omega
 | bad e p a1 d1=>rw [h1] at h; cases h
theorem PA.pure {v:α}{a c:Nat}{w:α→Nat}(h:w v≤c):PA L (Pure.pure v:PM α) a c w:=by
 intro d u a' d' e
 simp only [yI,Out.ok.injEq] at e
 obtain⟨rfl,rfl,_⟩:=e
 omega
theorem PA.fail {e a c:Nat}{w:α→Nat}:PA L (xY L e:PM α) a c w:=by intro d u a' d' h; cases h
theorem PA.ite {p:Prop} [Decidable p] {x y:PM α}{a c:Nat}{w:α→Nat}(hx:PA L x a c w) (hy:PA L y a c w):PA L (if p then x else y) a c w:=by
 split
 ·exact hx
 ·exact hy
theorem PA.here {f:Token→PM α}{a c:Nat}{w:α→Nat}(h:PA L (f (tk L a)) a c w):PA L (o7 L >>= f) a c w:=fun d=>h d
theorem PA.next {f:Unit→PM α}{a c:Nat}{w:α→Nat}(h:PA L (f ()) (a+1) (c+(tk L a).text.length+200) w):PA L (w_ >>= f) a c w:=by
 intro d v a' d' e
 have:=h d v a' d' e
 simp only [IA] at this
 omega
theorem PA.kind {k:Nat}{f:Token→PM α}{a c:Nat}{w:α→Nat}(h:PA L (f (tk L a)) (a+1) (c+(tk L a).text.length+200) w):PA L (qO L k >>= f) a c w:=by
 intro d v a' d' e
 simp only [mO,PM.bind,qO] at e
 split at e
 ·rename_i h1
  split at h1
  ·cases h1
   have:=h _ v a' d' e
   simp only [IA] at this
   omega
  ·cases h1
 ·cases e
theorem PA.le {x:PM α}{a c c':Nat}{w w':α→Nat}(h:PA L x a c w) (hc:c≤c') (hw:∀v,w' v≤w v):PA L x a c' w':=by
 intro d v a' d' e
 have:=h d v a' d' e
 have:=hw v
 omega
theorem Tg {s:List UInt8}:x9 L (EF L s) (fun _=>0):=by
 intro a c d v a' d' e; dsimp only; simp only [EF,Out.ok.injEq] at e; obtain⟨_,rfl,_⟩:=e; omega
theorem aDa:x9 L pUp (fun _=>0):=by
 intro a c d v a' d' e; dsimp only; simp only [pUp,Out.ok.injEq] at e; obtain⟨_,rfl,_⟩:=e; omega
theorem B6 {a:Nat}:IA L a+200≤IA L (a+1):=by simp only [IA]; omega
theorem AM {s:List UInt8}:x9 L (o9 L s) (fun b=>if b then 200 else 0):=by
 intro a c d v a' d' e; dsimp only
 simp only [o9,Out.ok.injEq] at e
 obtain⟨rfl,rfl,_⟩:=e
 split
 ·have:=B6 (L:=L) (a:=a); omega
 ·omega
theorem x_ {s:List UInt8}:x9 L (oQ L s) (fun _=>200):=by
 intro a c d v a' d' e; dsimp only
 simp only [oQ] at e
 split at e
 ·cases e; have:=B6 (L:=L) (a:=a); omega
 ·cases e
theorem Ds {k:Nat}:x9 L (qO L k) (fun t=>t.text.length+200):=by
 intro a c d v a' d' e; dsimp only
 simp only [qO] at e
 split at e
 ·cases e; simp only [IA]; omega
 ·cases e
theorem HO {s:List UInt8}:x9 L (tS L s) (fun _=>200):=by
 intro a c d v a' d' e; dsimp only
 simp only [tS] at e
 split at e
 ·split at e
  ·cases e
  ·cases e; have:=B6 (L:=L) (a:=a); omega
 ·cases e
theorem HP {s:List UInt8}:x9 L (tT L s) (fun _=>200):=by
 intro a c d v a' d' e; dsimp only
 simp only [tT] at e
 split at e
 ·cases e; have:=B6 (L:=L) (a:=a); omega
 ·cases e
theorem OU:x9 L (rO L) (fun _=>200):=by
 intro a c d v a' d' e; dsimp only
 simp only [rO] at e
 split at e
 ·cases e; have:=B6 (L:=L) (a:=a); omega
 ·split at e
  ·cases e; have:=B6 (L:=L) (a:=a); omega
  ·cases e
theorem Q2 {l:Nat}:x9 L (pR L l) (fun _=>0):=by
 intro a c d v a' d' e; dsimp only
 simp only [pR] at e
 have:=B6 (L:=L) (a:=a)
 split at e
 ·cases e; omega
 ·split at e
  ·cases e; omega
  ·cases e
theorem Zo:x9 L (xZ L) (fun _=>0):=fun a c =>
 (x_ a c).bind fun _ a1=>PA.here (PA.ite PA.fail ((Ds a1 _).bind fun _ a2=>(x_ a2 _).bind fun _ a3=>PA.pure (by(try dsimp only); omega)))
theorem U5 {l:Nat}:x9 L (uL L l) (fun _=>0):=fun a c =>
 (AM a c).bind fun b a1=>PA.ite ((Zo a1 _).bind fun _ a2=>PA.pure (by(try dsimp only); omega)) ((Q2 a1 _).bind fun t a2=>PA.ite ((Tg a2 _).bind fun _ a3=>PA.ite ((Zo a3 _).bind fun _ a4=>PA.pure (by(try dsimp only); omega)) (PA.pure (by(try dsimp only); omega))) (PA.pure (by(try dsimp only); omega)))
theorem agZ:x9 L (sM L) pW:=fun a c =>
 (AM a c).bind fun _ a1=>(OU a1 _).bind fun _ a2=>(Ds a2 _).bind fun t a3=>(x_ a3 _).bind fun _ a4=>(U5 a4 _).bind fun _ a5=>PA.pure (by(try dsimp only); simp only [pW,wP,XP.pC]; omega)
theorem Zp {one:PM α}{w:α→Nat}(h:x9 L one w):∀(n:Nat) (l:List α) (a c:Nat),PA L (vD L one n l) a (c+lw w l) (fun l'=>c+lw w l')
 | 0,_,_,_=>PA.fail
 | n+1,l,a,c=>(h a _).bind fun x a1=>(AM a1 _).bind fun b a2=>PA.ite
   (by
    have:=Zp h n (l++[x]) a2 c
    refine this.le ?_ fun _=>ac9 _
    rw [Fa]; omega)
   (PA.pure (by(try dsimp only); rw [Fa]; omega))
theorem Zn {one:PM α}{w:α→Nat}{s:List UInt8}(h:x9 L one w):x9 L (vW L s one) (lw w):=fun a c =>
 (Tg a c).bind fun _ a1=>PA.ite (PA.pure (by(try dsimp only); simp only [lw]; omega)) (by
  have:=Zp h 131073 [] a1 c
  simp only [lw,ak6] at this
  exact this.le (by(try dsimp only); omega) fun _=>ac9 _)
section
variable {ex un:PM XE}(he:x9 L ex eW)
include he
theorem U4:x9 L (tF L ex) (lw eW):=fun a c =>
 (HO a c).bind fun _ a1=>(he a1 _).bind fun x a2=>(HP a2 _).bind fun _ a3=>PA.pure (by(try dsimp only); simp only [lw]; omega)
theorem Zk {t:Token}{a c:Nat}:PA L (xX L ex t) a (c+t.text.length) (fun x=>c+eW x) :=
 (HO a _).bind fun _ a1=>(Zn he a1 _).bind fun l a2=>(HP a2 _).bind fun _ a3=>PA.pure (by(try dsimp only); rw [FB]; omega)
theorem Zj:∀(n:Nat) (b:Bool) (l:List XE) (a c:Nat),PA L (rT L ex n b l) a (c+lw eW l) (fun l'=>c+lw eW l')
 | 0,_,_,_,_=>PA.pure (ac9 _)
 | n+1,b,l,a,c=>by
  have h1:∀(u:Unit) (a1:Nat) (c1:Nat),c+lw eW l≤c1→PA L (do let x ←ex; rT L ex n false (l++[x]):PM (List XE)) a1 c1 (fun l'=>c+lw eW l'):=fun _ a1 c1 hc=>by
   have h2:PA L (do let x ←ex; rT L ex n false (l++[x]):PM (List XE)) a1 (c+lw eW l) (fun l'=>c+lw eW l'):=(he a1 _).bind fun x a2=>by
    have:=Zj n false (l++[x]) a2 c
    refine this.le ?_ fun _=>ac9 _
    rw [Fa]; omega
   exact h2.le hc fun _=>ac9 _
  cases b
  ·exact(x_ a _).bind fun u a1=>h1 u a1 _ (by(try dsimp only); omega)
  ·exact PA.bind (x:=(Pure.pure PUnit.unit:PM PUnit)) (wx:=fun _=>c+lw eW l) (PA.pure (ac9 _)) fun u a1=>h1 u a1 _ (ac9 _)
theorem Kt {kind many:Nat}{number:Bool}:x9 L (uX L ex kind many number) eW:=fun a c =>
 PA.here (PA.next ((HO _ _).bind fun _ a1=>by
  have h:=Zj he many true [] a1 (c+200)
  simp only [lw,ak6] at h
  refine PA.bind (h.le (by(try dsimp only); omega) fun _=>ac9 _) fun l a2=>PA.ite
   ((x_ a2 _).bind fun _ a3=>(Ds a3 _).bind fun _ a4=>(HP a4 _).bind fun _ a5=>PA.pure (by(try dsimp only); rw [FB]; simp; omega))
   ((HP a2 _).bind fun _ a3=>PA.pure (by(try dsimp only); rw [FB]; simp; omega))))
theorem WL:x9 L (oA L ex) eW:=fun a c =>
 PA.here (PA.ite (PA.next (PA.pure (by(try dsimp only); rw [FB]; simp [lw]; omega)))
  (PA.ite ((HO a c).bind fun _ a1=>(he a1 _).bind fun x a2=>(HP a2 _).bind fun _ a3=>PA.pure (by(try dsimp only); omega))
  (PA.ite (Kt he a c) (PA.ite (Kt he a c) (PA.ite (Kt he a c) (PA.ite (Kt he a c) (PA.ite (Kt he a c)
  (PA.kind ((Tg _ _).bind fun _ a1=>PA.ite
   ((Zk he (c:=c)).le (by(try dsimp only); omega) fun _=>ac9 _)
   ((Tg a1 _).bind fun _ a2=>PA.ite ((U4 he a2 _).bind fun l a3=>PA.pure (by(try dsimp only); rw [FB]; omega)) (PA.pure (by(try dsimp only); rw [FB]; simp only [lw]; omega))))))))))))
variable (hu:x9 L un eW)
include hu
theorem ag0:x9 L (uY L ex un) eW:=by
 have hs:∀kind a c,PA L (Ag L un kind) a c (fun x=>c+eW x):=fun kind a c=>PA.here ((HO a c).bind fun _ a1=>(hu a1 _).bind fun x a2=>(aDa a2 _).bind fun _ a3=>PA.pure (by(try dsimp only); rw [FB]; simp only [lw,ad3]; omega))
 exact fun a c=>PA.here (PA.ite (hs _ a c) (PA.ite (hs _ a c) (PA.ite (hs _ a c) (WL he a c))))
end
theorem Th {next:PM XE}(hn:x9 L next eW) (k:Nat):∀(n:Nat) (x:XE) (a c:Nat),PA L (q7 L next k n x) a (c+eW x) (fun y=>c+eW y)
 | 0,_,_,_=>PA.fail
 | n+1,x,a,c=>PA.here (by
   cases h:oK (tk L a) k with
   | none=>exact PA.pure (ac9 _)
   | some kind =>
    refine PA.next (PA.ite ((Ds _ _).bind fun t a1=>?_) ((hn _ _).bind fun y a1=>?_))
    ·exact(Th hn k n _ a1 c).le (by(try dsimp only); rw [FB]; simp only [lw,ad3]; omega) fun _=>ac9 _
    ·exact(Th hn k n _ a1 c).le (by(try dsimp only); rw [FB]; simp only [lw,ad3]; omega) fun _=>ac9 _)
theorem JL {un:PM XE}(hu:x9 L un eW):∀j,x9 L (nR L un j) eW
 | 0=>hu
 | j+1=>fun a c=>(JL hu j a c).bind fun x a1=>Th (JL hu j) (6 - j) 131073 x a1 c
theorem Zm {un:PM XE}(hu:x9 L un eW):x9 L (vQ L un) eW:=fun a c =>
 (JL hu 6 a c).bind fun x a1=>PA.here (by
  cases h:oK (tk L a1) 0 with
  | none=>exact PA.pure (ac9 _)
  | some kind=>exact PA.next ((JL hu 6 _ _).bind fun y a2=>PA.pure (by(try dsimp only); rw [FB]; simp only [lw,ad3]; omega)))
theorem apH:∀n,x9 L (Aq L n) eW
 | 0=>fun _ _=>PA.fail
 | n+1=>ag0 (Zm (apH n)) (apH n)
theorem Zl (n:Nat):x9 L (AE L n) eW:=Zm (apH n)
theorem U2 (n:Nat):x9 L (y9 L n) (lw eW):=fun a c=>(Zl n a c).bind fun x a1=>(x_ a1 _).bind fun _ a2=>PA.pure (by(try dsimp only); simp only [lw]; omega)
theorem agY (n pos:Nat):x9 L (pG L n pos) sW:=fun a c =>
 PA.kind ((Tg _ _).bind fun _ a1=>PA.ite
  (((Zk (Zl (n - 1)) (c:=c+200)).le (by(try dsimp only); omega) fun _=>ac9 _).bind fun x a2=>(x_ a2 _).bind fun _ a3=>PA.pure (by(try dsimp only); rw [Hq]; simp only [lw,ad3]; omega))
  ((Tg a1 _).bind fun _ a2=>PA.ite
   ((U4 (Zl (n - 1)) a2 _).bind fun i a3=>(x_ a3 _).bind fun _ a4=>(U2 n a4 _).bind fun l a5=>PA.pure (by(try dsimp only); rw [Hq,abJ]; simp only [lw]; omega))
   ((x_ a2 _).bind fun _ a3=>(U2 n a3 _).bind fun l a4=>PA.pure (by(try dsimp only); rw [Hq]; simp only [lw]; omega))))
theorem apG {block:PM (List XS)}(hb:x9 L block (lw sW)) (n:Nat):x9 L (qM L block n) sW:=fun a c =>
 PA.here ((AM a c).bind fun _ a1=>PA.ite
  ((Ds a1 _).bind fun t a2=>(x_ a2 _).bind fun _ a3=>(U2 n a3 _).bind fun l a4=>PA.pure (by(try dsimp only); rw [Hq]; simp only [lw]; omega))
  ((AM a1 _).bind fun _ a2=>PA.ite
   ((OU a2 _).bind fun _ a3=>(Ds a3 _).bind fun t a4=>(x_ a4 _).bind fun _ a5=>(U5 a5 _).bind fun ty a6=>(x_ a6 _).bind fun _ a7=>PA.pure (by(try dsimp only); rw [Hq]; simp only [lw]; omega))
   ((AM a2 _).bind fun b a3=>by
    cases b
    ·exact(AM a3 _).bind fun _ a4=>PA.ite
      ((Ds a4 _).bind fun t a5=>(x_ a5 _).bind fun _ a6=>(Zl n a6 _).bind fun x a7=>(x_ a7 _).bind fun _ a8=>(Ds a8 _).bind fun m a9=>(hb a9 _).bind fun bl a10=>PA.pure (by(try dsimp only); rw [Hq]; simp only [lw]; omega))
      ((AM a4 _).bind fun b a5=>by
       cases b
       ·exact(agY n _ a5 c).le (by(try dsimp only); omega) fun _=>ac9 _
       ·exact(U2 n a5 _).bind fun l a6=>PA.pure (by(try dsimp only); rw [Hq]; simp only [lw,ad3,if_true]; omega))
    ·exact(Zl n a3 _).bind fun x a4=>(hb a4 _).bind fun bl a5=>(AM a5 _).bind fun _ a6=>PA.ite
      ((hb a6 _).bind fun e a7=>PA.pure (by(try dsimp only); rw [Hq]; simp only [lw,ad3,if_true]; omega))
      (PA.pure (by(try dsimp only); rw [Hq]; simp only [lw,ad3,if_true]; omega)))))
theorem U6 {stmt:PM XS}(hs:x9 L stmt sW):∀(m:Nat) (l:List XS) (a c:Nat),PA L (vE L stmt m l) a (c+lw sW l) (fun l'=>c+lw sW l')
 | 0,_,_,_=>PA.fail
 | m+1,l,a,c=>(Tg a _).bind fun _ a1=>PA.ite (PA.pure (by(try dsimp only); omega)) ((hs a1 _).bind fun x a2=>(U6 hs m (l++[x]) a2 c).le (by(try dsimp only); rw [Fa]; omega) fun _=>ac9 _)
theorem OT:∀n,x9 L (rD L n) (lw sW)
 | 0=>fun _ _=>PA.fail
 | n+1=>fun a c=>(HO a c).bind fun _ a1=>by
   have h:=U6 (apG (OT n) n) 131073 [] a1 c
   simp only [lw,ak6] at h
   exact(h.le (by(try dsimp only); omega) fun _=>ac9 _).bind fun l a2=>(HP a2 _).bind fun _ a3=>PA.pure (by(try dsimp only); omega)
theorem anL {p:Nat}{name:List UInt8}{ps:List XP}{has:Bool}{ty:Ty}{b:List XS}:fW ⟨p,name,ps,has,ty,b⟩=name.length+120+lw pW ps+lw sW b:=by
 simp only [fW,XF.pC,wF,aeU,UO]
theorem apF:x9 L (wH L) fW:=fun a c =>
 (x_ a c).bind fun _ a1=>(Ds a1 _).bind fun t a2=>(x_ a2 _).bind fun _ a3=>(Zn agZ a3 _).bind fun ps a4=>(x_ a4 _).bind fun _ a5=>(AM a5 _).bind fun _ a6=>PA.ite
  ((OU a6 _).bind fun _ a7=>(Q2 a7 _).bind fun ty a8=>(OT 65 a8 _).bind fun b a9=>PA.pure (by(try dsimp only); rw [anL]; omega))
  ((OT 65 a6 _).bind fun b a7=>PA.pure (by(try dsimp only); rw [anL]; omega))
theorem U3:∀(m:Nat) (l:List XF) (a c:Nat),PA L (pO L m l) a (c+lw fW l) (fun l'=>c+lw fW l')
 | 0,_,_,_=>PA.fail
 | m+1,l,a,c=>PA.here (PA.ite (PA.pure (ac9 _)) ((apF a _).bind fun f a1=>(U3 m (l++[f]) a1 c).le (by(try dsimp only); rw [Fa]; omega) fun _=>ac9 _))
end
end
section
open Go Hk
def Km (t:List UInt8):Prop:=(∃b r,t=b::r∧o6 b=true)∧(∀c∈t,isWord c=true)∧t.length≤40∧t ∉ tH
theorem Yb {d:List UInt8}{a n:Nat}{x:Token}(h:uC d a=some (x,n)) (hk:x.kind=1):Km x.text:=by
 unfold uC at h
 cases d with
 | nil=>cases h
 | cons b r =>
  simp only [] at h
  by_cases h1:o6 b=true
  ·rw [if_pos h1] at h
   split at h
   ·cases h
   ·rename_i h40
    simp only [ab3,af1] at h
    obtain⟨rfl,_⟩:=h
    have hw:¬nL (b::r)∈tH:=fun hm=>by simp [hm] at hk
    exact⟨⟨b,nL r,by simp [nL,ak8,isWord,h1],h1⟩,IF _,Nat.le_of_not_lt h40,hw⟩
  ·rw [if_neg h1] at h
   split at h
   ·split at h
    ·cases h
    ·simp only [ab3,af1] at h
     obtain⟨rfl,_⟩:=h
     cases hk
   ·split at h
    ·cases h
    ·simp only [ab3,af1] at h
     obtain⟨rfl,_⟩:=h
     cases hk
theorem V_:∀{l:List UInt8},(∀c∈l,isWord c=true)→nL l=l
 | [],_=>rfl
 | b::r,h=>by
  have ih:=V_ (l:=r) fun c hc=>h c (by simp [hc])
  unfold nL at ih ⊢
  simp [ak8,h b (by simp),ih]
theorem akZ {t:List UInt8}(h:Km t) (p:Nat):uC t p=some (⟨1,p,0,t⟩,t.length):=by
 obtain⟨⟨b,r,rfl,hb⟩,hw,h40,hm⟩:=h
 unfold uC
 simp only [V_ hw,hb,if_true]
 rw [if_neg (by omega),if_neg hm]
theorem Sg {t:List UInt8}(h:Km t):pH t=true:=by
 have h1:=akZ h 0
 obtain⟨⟨b,r,rfl,hb⟩,hw,h40,hm⟩:=h
 have hb2:=Io hb
 have e:oT (b::r)=([⟨1,0,0,b::r⟩,⟨0,(b::r).length,0,[]⟩],0,0):=by
  unfold oT
  rw [if_neg (by omega)]
  rw [rF (yJ (a:=0) (b:=b) rfl hb2.1 hb2.2) (by simp) (by rw [List.drop_zero]; exact h1) rfl]
  rw [AW]
  ·rfl
  ·have:=vK (b::r) (0+max 1 (b::r).length)
   omega
 unfold pH
 rw [e]
 simp
def TF (x:Token):Prop:=(x.kind=1→Km x.text)∧x.num≤4294967295
theorem T1 (s:List UInt8) (a:Nat) (out:List Token) (ho:∀x∈out,TF x):∀x∈(lexFrom s a out).1,TF x:=by
 fun_induction lexFrom s a out with
 | case1 a out h h3=>intro x hx; cases hx
 | case2 a out h t n h3 ih =>
  refine ih fun x hx=>?_
  rcases List.mem_append.1 hx with hx | hx
  ·exact ho x hx
  ·obtain rfl:=List.mem_singleton.1 hx
   exact⟨fun hk=>Yb h3 hk,(Vr h3).1.2.1⟩
 | case3 a out h =>
  intro x hx
  rcases List.mem_append.1 hx with hx | hx
  ·exact ho x hx
  ·obtain rfl:=List.mem_singleton.1 hx
   exact⟨fun hk=>(by cases hk),ak5 _⟩
theorem R8 (s:List UInt8):∀x∈(oT s).1,TF x:=by
 unfold oT
 split
 ·intro x hx; cases hx
 ·exact T1 s 0 [] (fun x hx=>by cases hx)
theorem Qa {t:List UInt8}(h:pH t=true):Km t:=by
 unfold pH at h
 split at h
 ·rename_i x y p hl
  have h1:=R8 t x (by rw [hl]; simp)
  simp only [ad2,beq_iff_eq] at h
  exact h.2 ▸ h1.1 h.1
 ·cases h
theorem aiL (s:List UInt8) (a:Nat):TF (tk (oT s).1 a):=by
 have h:=R8 s
 unfold tk
 cases hg:(oT s).1[a]? with
 | none=>exact⟨fun hk=>(by cases hk),ak5 _⟩
 | some x=>exact h x (ae3 hg)
def WA {α:Type}(x:PM α) (a d d':Nat) (R:α→Prop):Prop:=∀v a1 d1,x a d=.ok v a1 d1→d1=d'∧R v
def WP {α:Type}(x:PM α) (d d':Nat) (R:α→Prop):Prop:=∀a,WA x a d d' R
section
variable {L:List Token}{α β:Type}{R:α→Prop}{S:β→Prop}{a d d' d'':Nat}
theorem WA.bind {x:PM α}{f:α→PM β}(hx:WA x a d d' R) (hf:∀v,R v→WP (f v) d' d'' S):WA (x >>= f) a d d'' S:=by
 intro v a1 dd h
 rw [mO] at h
 unfold PM.bind at h
 cases hx1:x a d with
 | bad e p a1 d1=>rw [hx1] at h; cases h
 | ok v1 a2 d2 =>
  rw [hx1] at h
  obtain⟨rfl,hR⟩:=hx _ _ _ hx1
  exact hf v1 hR a2 _ _ _ h
theorem WP.bind {x:PM α}{f:α→PM β}(hx:WP x d d' R) (hf:∀v,R v→WP (f v) d' d'' S):WP (x >>= f) d d'' S:=fun a=>(hx a).bind hf
theorem WP.pure {v:α}(h:R v):WP (Pure.pure v:PM α) d d R:=by intro a v' a1 d1 h'; cases h'; exact⟨rfl,h⟩
theorem WP.fail {e:Nat}:WP (xY L e:PM α) d d' R:=by intro a v a1 d1 h; cases h
theorem WP.ite {c:Prop} [Decidable c] {x y:PM α}(hx:c→WP x d d' R) (hy:¬c→WP y d d' R):WP (if c then x else y) d d' R:=by
 split
 ·rename_i h; exact hx h
 ·rename_i h; exact hy h
theorem WA.ite {c:Prop} [Decidable c] {x y:PM α}(hx:c→WA x a d d' R) (hy:¬c→WA y a d d' R):WA (if c then x else y) a d d' R:=by
 split
 ·rename_i h; exact hx h
 ·rename_i h; exact hy h
theorem WA.here {f:Token→PM α}(h:WA (f (tk L a)) a d d' R):WA (o7 L >>= f) a d d' R:=fun v a1 d1 h'=>h v a1 d1 h'
theorem WA.next {f:Unit→PM α}(h:WP (f ()) d d' R):WA (w_ >>= f) a d d' R:=fun v a1 d1 h'=>h (a+1) v a1 d1 h'
theorem WP.mono {x:PM α}{R':α→Prop}(h:WP x d d' R) (hm:∀v,R v→R' v):WP x d d' R':=fun a v a1 d1 h'=>⟨(h a v a1 d1 h').1,hm v (h a v a1 d1 h').2⟩
abbrev TT {α:Type}:α→Prop:=fun _=>True
theorem QE:WP (o7 L) d d TT:=by intro a v a1 d1 h; cases h; exact⟨rfl,trivial⟩
theorem UP {w:List UInt8}:WP (EF L w) d d TT:=by intro a v a1 d1 h; cases h; exact⟨rfl,trivial⟩
theorem aFi:WP pUp (d+1) d TT:=by intro a v a1 d1 h; cases h; exact⟨rfl,trivial⟩
theorem A1 {w:List UInt8}:WP (o9 L w) d d TT:=by intro a v a1 d1 h; cases h; exact⟨rfl,trivial⟩
theorem yH {w:List UInt8}:WP (oQ L w) d d TT:=by
 intro a v a1 d1 h; unfold oQ at h
 split at h
 ·cases h; exact⟨rfl,trivial⟩
 ·cases h
theorem IT {w:List UInt8}(hd:d≤64):WP (tS L w) d (d+1) (fun _=>d+1≤64):=by
 intro a v a1 d1 h; unfold tS at h
 split at h
 ·split at h
  ·cases h
  ·cases h; exact⟨rfl,by omega⟩
 ·cases h
theorem IU {w:List UInt8}:WP (tT L w) (d+1) d TT:=by
 intro a v a1 d1 h; unfold tT at h
 split at h
 ·cases h; exact⟨rfl,trivial⟩
 ·cases h
theorem Kf {k:Nat}:WA (qO L k) a d d (fun t=>t=tk L a∧t.kind=k):=by
 intro v a1 d1 h; unfold qO at h
 split at h
 ·rename_i hk; cases h; exact⟨rfl,rfl,hk⟩
 ·cases h
theorem QG:WP (rO L) d d (fun l=>l=0∨l=1):=by
 intro a v a1 d1 h; unfold rO at h
 split at h
 ·cases h; exact⟨rfl,.inr rfl⟩
 ·split at h
  ·cases h; exact⟨rfl,.inl rfl⟩
  ·cases h
theorem S8 {l:Nat}(hl:l=0∨l=1):WP (pR L l) d d (fun t=>rV t.pC=true∧t.len=0∧t.elem≠2∧t.label=l):=by
 intro a v a1 d1 h; unfold pR at h
 split at h
 ·cases h; refine⟨rfl,?_,rfl,(fun h=>by cases h),rfl⟩; rcases hl with rfl | rfl <;> decide
 ·split at h
  ·cases h; refine⟨rfl,?_,rfl,(fun h=>by cases h),rfl⟩; rcases hl with rfl | rfl <;> decide
  ·cases h
variable (hT:∀a,TF (tk L a))
include hT
theorem Fo:WP (qO L 1) d d (fun t=>pH t.text=true):=fun a v a1 d1 h=>by
 obtain⟨h1,h2,h3⟩:=Kf v a1 d1 h
 exact⟨h1,by subst h2; exact Sg ((hT a).1 h3)⟩
theorem QF:WP (qO L 2) d d (fun t=>t.num≤4294967295):=fun a v a1 d1 h=>by
 obtain⟨h1,h2,h3⟩:=Kf v a1 d1 h
 exact⟨h1,by subst h2; exact(hT a).2⟩
theorem ae0:WP (xZ L) d d (fun n=>n≠0∧n≤4294967295):=by
 unfold xZ
 refine yH.bind fun _ _ a=>WA.here (WA.ite (fun _=>WP.fail a) fun h=>WA.bind Kf fun n hn=>yH.bind fun _ _=>WP.pure ?_)
 obtain⟨rfl,hk⟩:=hn
 exact⟨fun h0=>h ⟨hk,h0⟩,(hT a).2⟩
theorem Wq {l:Nat}(hl:l=0∨l=1):WP (uL L l) d d (fun t=>rV t.pC=true):=by
 unfold uL
 refine A1.bind fun _ _=>WP.ite (fun _=>(ae0 hT).bind fun n hn=>WP.pure ?_) fun _=>(S8 hl).bind fun t ht=>WP.ite (fun he=>UP.bind fun _ _=>WP.ite (fun _=>(ae0 hT).bind fun n hn=>WP.pure ?_) fun _=>WP.pure ht.1) fun _=>WP.pure ht.1
 ·rcases hl with rfl | rfl <;> simp [rV,Ty.pC,vB] <;> omega
 ·rcases hl with rfl | rfl <;> simp [rV,Ty.pC,vB,he,ht.2.2.2] <;> omega
theorem amD:WP (sM L) d d (fun p=>uF p.pC=true):=by
 unfold sM
 refine A1.bind fun _ _=>QG.bind fun l hl=>(Fo hT).bind fun t ht=>yH.bind fun _ _=>(Wq hT hl).bind fun ty hty=>WP.pure ?_
 simp [uF,XP.pC,ht,hty]
omit hT
theorem ER {l:List α}{x:α}(hl:∀y∈l,R y) (hx:R x):∀y∈l++[x],R y:=fun y hy=>by
 rcases List.mem_append.1 hy with hy | hy
 ·exact hl y hy
 ·rw [List.mem_singleton.1 hy]; exact hx
theorem DO:∀y∈([]:List α),R y:=fun y hy=>by cases hy
theorem ae1 {one:PM α}(h1:WP one d d R):∀(n:Nat) (l:List α),(∀x∈l,R x)→WP (vD L one n l) d d (fun l=>∀x∈l,R x)
 | 0,_,_=>WP.fail
 | n+1,l,hl=>h1.bind fun x hx=>A1.bind fun _ _=>WP.ite (fun _=>ae1 h1 n _ (ER hl hx)) fun _=>WP.pure (ER hl hx)
theorem aeZ {one:PM α}{w:List UInt8}(h1:WP one d d R):WP (vW L w one) d d (fun l=>∀x∈l,R x) :=
 UP.bind fun _ _=>WP.ite (fun _=>WP.pure DO) fun _=>ae1 h1 _ _ DO
end
def EW (d:Nat) (x:XE):Prop:=mY x.pC=true∧d+lS x.pC≤64
def CW (d t:Nat) (x:XE):Prop:=EW d x∧(t≤lD x.pC.kind∨d+lS x.pC+1≤64)
theorem zL:∀x:GE,(lU x).1=x.kind
 | .mk ..=>rfl
theorem ae2:∀{l:List XE},(∀x∈l,mY x.pC=true)→mZ (XE.pY l)=true
 | [],_=>rfl
 | x::r,h=>by simp [XE.pY,mZ,h x (by simp),ae2 (l:=r) fun y hy=>h y (by simp [hy])]
theorem acR {n:Nat}:∀{l:List XE},(∀x∈l,lS x.pC≤n)→uR (rP (XE.pY l))≤n
 | [],_=>ak5 _
 | x::r,h=>Nat.max_le.2 ⟨h x (by simp),acR (l:=r) fun y hy=>h y (by simp [hy])⟩
theorem aeO (l:List XE):(XE.pY l).length=l.length:=by rw [XE.CG,ak1]
theorem YF (k:Int):lD k≤8:=by
 unfold lD
 cases h:([8,8,8,8,8,8,8,8,6,6,7,4,2,3,5,5,8,1,1,1,1,1,1,8,8,8,8]:List Nat)[k.toNat]? with
 | none=>exact ac9 _
 | some x=>exact(by decide:∀x∈([8,8,8,8,8,8,8,8,6,6,7,4,2,3,5,5,8,1,1,1,1,1,1,8,8,8,8]:List Nat),x≤8) x (ae3 h)
theorem Hj {b:Bool}{p:Part}{m:Nat}(h:p.2.2≤m) (h2:b=true∨p.2.2+1≤m):qP b p≤m:=by
 unfold qP
 cases b
 ·rcases h2 with h2 | h2
  ·cases h2
  ·exact h2
 ·exact h
section
variable {L:List Token}{d:Nat}(hT:∀a,TF (tk L a))
section
variable {ex un:PM XE}(he:∀d,d≤64→WP ex d d (EW d)) (hu:∀d,d≤64→WP un d d (CW d 8))
include he
theorem Wp (hd:d≤64):WP (tF L ex) d d (fun l=>∃x,l=[x]∧EW (d+1) x):=by
 unfold tF
 exact(IT hd).bind fun _ h=>(he _ h).bind fun x hx=>IU.bind fun _ _=>WP.pure ⟨x,rfl,hx⟩
theorem aeW (hd:d≤64) {t:Token}(ht:pH t.text=true):WP (xX L ex t) d d (fun x=>CW d 8 x∧x.pC.kind=4):=by
 unfold xX
 refine(IT hd).bind fun _ h=>(aeZ (he _ h)).bind fun l hl=>IU.bind fun _ _=>WP.pure ?_
 have h1:=ae2 fun x hx=>(hl x hx).1
 have h2:=acR (l:=l) (n:=63 - d) fun x hx=>by have:=(hl x hx).2; omega
 refine⟨⟨⟨?_,?_⟩,.inl (ac9 8)⟩,rfl⟩
 ·simp [XE.pC,mY,rK,uB,lM,lF,ht,h1]
 ·show d+(uR (rP (XE.pY l))+1)≤64
  omega
theorem aeV (hd:d≤64):∀(n:Nat) (b:Bool) (l:List XE),(∀x∈l,EW d x)→WP (rT L ex n b l) d d (fun r=>(∀x∈r,EW d x)∧r.length=l.length+n)
 | 0,_,l,hl=>WP.pure ⟨hl,rfl⟩
 | n+1,b,l,hl=>by
  unfold rT
  have h1:WP (do let x ←ex; rT L ex n false (l++[x]):PM (List XE)) d d (fun r=>(∀x∈r,EW d x)∧r.length=l.length+(n+1)) :=
   (he _ hd).bind fun x hx=>(aeV hd n _ _ (ER hl hx)).mono fun r hr=>⟨hr.1,by rw [hr.2]; simp; omega⟩
  cases b
  ·exact yH.bind fun _ _=>h1
  ·exact(WP.pure (v:=PUnit.unit) (R:=TT) trivial).bind fun _ _=>h1
include hT
theorem HD {kind many a:Nat}{number:Bool}(hd:d≤64) (h8:lD kind=8) (hk:∀n:Nat,n≤4294967295→(number=false→n=0)→rK kind n [] many=true) (hn:∀l,wG kind l=uR l+1) :
  WA (uX L ex kind many number) a d d (CW d 8):=by
 unfold uX
 refine WA.here (WA.next ((IT hd).bind fun _ h=>(aeV he h _ _ _ DO).bind fun l hl=>?_))
 have fin:∀(n p:Nat),n≤4294967295→(number=false→n=0)→CW d 8 (.mk kind p n [] l):=fun n p h1 h2=>by
  have e1:=ae2 fun x hx=>(hl.1 x hx).1
  have e2:=acR (l:=l) (n:=63 - d) fun x hx=>by have:=(hl.1 x hx).2; omega
  have e3:(XE.pY l).length=many:=by rw [aeO,hl.2]; simp
  refine⟨⟨?_,?_⟩,.inl (Nat.le_of_eq h8.symm)⟩
  ·show(rK kind n [] (XE.pY l).length && mZ (XE.pY l))=true
   rw [e3,hk n h1 h2,e1]; rfl
  ·show d+wG kind (rP (XE.pY l))≤64
   rw [hn]; omega
 exact WP.ite (fun hb=>yH.bind fun _ _=>(QF hT).bind fun n hn=>IU.bind fun _ _=>WP.pure (fin _ _ hn fun h=>by rw [hb] at h; cases h)) fun _=>IU.bind fun _ _=>WP.pure (fin 0 _ (ak5 _) fun _=>rfl)
theorem YJ (hd:d≤64):WP (oA L ex) d d (CW d 8):=by
 unfold oA
 intro a
 have z:∀(k many:Nat),rK k 0 [] many=true→∀n:Nat,n≤4294967295→(false=false→n=0)→rK k n [] many=true:=fun k many h n _ h0=>by rw [h0 rfl]; exact h
 refine WA.here (WA.ite (fun h=>WA.next (WP.pure ?_)) fun _=>WA.ite (fun h=>(IT hd).bind (fun _ h=>(he _ h).bind fun x hx=>IU.bind fun _ _=>WP.pure ?_) a) fun _ =>
  WA.ite (fun _=>HD hT he hd rfl (z _ _ rfl) fun _=>rfl) fun _=>WA.ite (fun _=>HD hT he hd rfl (z _ _ rfl) fun _=>rfl) fun _ =>
  WA.ite (fun _=>HD hT he hd rfl (z _ _ rfl) fun _=>rfl) fun _=>WA.ite (fun _=>HD hT he hd rfl (z _ _ rfl) fun _=>rfl) fun _ =>
  WA.ite (fun _=>HD hT he hd rfl ?_ fun _=>rfl) fun _=>WA.bind Kf fun t ht=>?_)
 ·refine⟨⟨?_,?_⟩,.inl (ac9 8)⟩
  ·have:=(hT a).2
   simp [XE.pC,XE.pY,mY,mZ,rK,uB,lM,lF,vB]; omega
  ·show d+0≤64
   omega
 ·exact⟨⟨hx.1,by have:=hx.2; omega⟩,.inr (by have:=hx.2; omega)⟩
 ·intro n hn _
  simp [rK,uB,lM,lF,vB]; omega
 ·have hn:pH (tk L a).text=true:=Sg ((hT a).1 (ht.1 ▸ ht.2))
  refine UP.bind fun _ _=>WP.ite (fun _=>(aeW he hd hn).mono fun v hv=>hv.1) fun _=>UP.bind fun _ _=>WP.ite (fun _=>(Wp he hd).bind fun l hl=>WP.pure ?_) fun _=>WP.pure ?_
  ·obtain⟨x,rfl,hx⟩:=hl
   refine⟨⟨?_,?_⟩,.inl (ac9 8)⟩
   ·simp [XE.pC,XE.pY,mY,mZ,rK,uB,lM,lF,hn,hx.1]
   ·show d+(lS x.pC+1)≤64
    have:=hx.2; omega
  ·refine⟨⟨?_,?_⟩,.inl (ac9 8)⟩
   ·simp [XE.pC,XE.pY,mY,mZ,rK,uB,lM,lF,hn]
   ·show d+0≤64
    omega
include hu
theorem UR {kind:Nat}(hk:kind=5∨kind=6∨kind=7) (hd:d≤64):WP (Ag L un kind) d d (CW d 8):=by
 unfold Ag
 refine QE.bind fun t _=>(IT hd).bind fun _ h=>(hu _ h).bind fun x hx=>aFi.bind fun _ _=>WP.pure ?_
 obtain⟨⟨h1,h2⟩,h3⟩:=hx
 have e:wG kind [lU x.pC]=qP (decide (lD x.pC.kind=8)) (lU x.pC)+1:=by
  rw [←zL]; rcases hk with rfl | rfl | rfl <;> rfl
 have h8:=YF x.pC.kind
 refine⟨⟨?_,?_⟩,.inl ?_⟩
 ·rcases hk with rfl | rfl | rfl <;> simp [XE.pC,XE.pY,mY,mZ,rK,uB,lM,lF,h1]
 ·show d+wG kind [lU x.pC]≤64
  rw [e]
  have:=Hj (b:=decide (lD x.pC.kind=8)) (p:=lU x.pC) (m:=63 - d) (by show lS x.pC≤_; omega) (by
   rcases h3 with h3 | h3
   ·exact .inl (decide_eq_true (by omega))
   ·exact .inr (by show lS x.pC+1≤_; omega))
  omega
 ·rcases hk with rfl | rfl | rfl <;> exact ac9 8
theorem amE (hd:d≤64):WP (uY L ex un) d d (CW d 8):=by
 unfold uY
 exact QE.bind fun t _=>WP.ite (fun _=>UR hT he hu (.inl rfl) hd) fun _=>WP.ite (fun _=>UR hT he hu (.inr (.inl rfl)) hd) fun _=>WP.ite (fun _=>UR hT he hu (.inr (.inr rfl)) hd) fun _=>YJ hT he hd
end
theorem XA {w:List UInt8}{n kd:Nat}(hl:nT w=some (n,kd)):(n,kd)∈([(0,17),(0,18),(0,19),(0,20),(0,21),(0,22),(1,12),(2,13),(3,11),(4,14),(4,15),(5,8),(5,9),(6,10)]:List (Nat×Nat)):=by
 unfold nT at hl
 by_cases h0:w=[61,61]
 ·rw [if_pos h0] at hl; cases hl; decide
 rw [if_neg h0] at hl
 by_cases h1:w=[33,61]
 ·rw [if_pos h1] at hl; cases hl; decide
 rw [if_neg h1] at hl
 by_cases h2:w=[60]
 ·rw [if_pos h2] at hl; cases hl; decide
 rw [if_neg h2] at hl
 by_cases h3:w=[60,61]
 ·rw [if_pos h3] at hl; cases hl; decide
 rw [if_neg h3] at hl
 by_cases h4:w=[62]
 ·rw [if_pos h4] at hl; cases hl; decide
 rw [if_neg h4] at hl
 by_cases h5:w=[62,61]
 ·rw [if_pos h5] at hl; cases hl; decide
 rw [if_neg h5] at hl
 by_cases h6:w=[124]
 ·rw [if_pos h6] at hl; cases hl; decide
 rw [if_neg h6] at hl
 by_cases h7:w=[94]
 ·rw [if_pos h7] at hl; cases hl; decide
 rw [if_neg h7] at hl
 by_cases h8:w=[38]
 ·rw [if_pos h8] at hl; cases hl; decide
 rw [if_neg h8] at hl
 by_cases h9:w=[60,60]
 ·rw [if_pos h9] at hl; cases hl; decide
 rw [if_neg h9] at hl
 by_cases h10:w=[62,62]
 ·rw [if_pos h10] at hl; cases hl; decide
 rw [if_neg h10] at hl
 by_cases h11:w=[43]
 ·rw [if_pos h11] at hl; cases hl; decide
 rw [if_neg h11] at hl
 by_cases h12:w=[45]
 ·rw [if_pos h12] at hl; cases hl; decide
 rw [if_neg h12] at hl
 by_cases h13:w=[42]
 ·rw [if_pos h13] at hl; cases hl; decide
 rw [if_neg h13] at hl
 cases hl
theorem Mp {t:Token}{k kind:Nat}(h:oK t k=some kind):lD kind=k+1∧k≤6∧((kind=14∨kind=15)→∀n:Nat,n≤4294967295→rK kind n [] 1=true)∧(¬(kind=14∨kind=15)→rK kind 0 [] 2=true):=by
 unfold oK at h
 split at h
 ·split at h
  ·rename_i n kd hl
   split at h
   ·rename_i hn
    simp only [ab3] at h
    subst h; subst hn
    have hm:=XA hl
    simp only [List.mem_cons,af1,List.not_mem_nil,or_false] at hm
    rcases hm with ⟨rfl,rfl⟩ | ⟨rfl,rfl⟩ | ⟨rfl,rfl⟩ | ⟨rfl,rfl⟩ | ⟨rfl,rfl⟩ | ⟨rfl,rfl⟩ | ⟨rfl,rfl⟩ | ⟨rfl,rfl⟩ | ⟨rfl,rfl⟩ | ⟨rfl,rfl⟩ | ⟨rfl,rfl⟩ | ⟨rfl,rfl⟩ | ⟨rfl,rfl⟩ | ⟨rfl,rfl⟩
    all_goals (refine⟨rfl,by omega,fun h n hn=>?_,fun h=>?_⟩)
    all_goals (first | rfl | (exfalso; omega) | (simp [rK,uB,lM,lF,vB]; omega))
   ·cases h
  ·cases h
 ·cases h
theorem ZI {kind p:Nat}{x y:XE}{t:Nat}(ht:lD kind=t) (h7:t≤7) (hk:rK kind 0 [] 2=true) (hx:EW d x) (Nq:(t < lD x.pC.kind∨lD x.pC.kind=t∧1 < t)∨d+lS x.pC+1≤64) (hy:CW d (t+1) y) :
  CW d t (.mk kind p 0 [] [x,y]):=by
 obtain⟨⟨y1,y2⟩,y3⟩:=hy
 refine⟨⟨?_,?_⟩,.inl (Nat.le_of_eq ht.symm)⟩
 ·show(rK kind 0 [] 2 && (mY x.pC && (mY y.pC && true)))=true
  simp [hk,hx.1,y1]
 ·show d+wG kind [lU x.pC,lU y.pC]≤64
  have e:wG kind [lU x.pC,lU y.pC]=max (qP (mK t (lU x.pC).1) (lU x.pC)) (qP (decide (t < lD (lU y.pC).1)) (lU y.pC)):=by
   unfold wG
   rw [ht,if_pos (by omega)]
  rw [e,zL,zL]
  have a1:=Hj (b:=mK t x.pC.kind) (p:=lU x.pC) (m:=64 - d) (by have:=hx.2; show lS x.pC≤_; omega) (by
   rcases Nq with h | h
   ·exact .inl (decide_eq_true h)
   ·exact .inr (by show lS x.pC+1≤_; omega))
  have a2:=Hj (b:=decide (t < lD y.pC.kind)) (p:=lU y.pC) (m:=64 - d) (by show lS y.pC≤_; omega) (by
   rcases y3 with h | h
   ·exact .inl (decide_eq_true (by omega))
   ·exact .inr (by show lS y.pC+1≤_; omega))
  have:=hx.2
  omega
theorem ad9 {kind p n:Nat}{x:XE}{t:Nat}(ht:lD kind=t) (h7:t≤7) (hk:rK kind n [] 1=true) (hx:EW d x) (Nq:(t < lD x.pC.kind∨lD x.pC.kind=t∧1 < t)∨d+lS x.pC+1≤64) :
  CW d t (.mk kind p n [] [x]):=by
 refine⟨⟨?_,?_⟩,.inl (Nat.le_of_eq ht.symm)⟩
 ·show(rK kind n [] 1 && (mY x.pC && true))=true
  simp [hk,hx.1]
 ·show d+wG kind [lU x.pC]≤64
  have e:wG kind [lU x.pC]=qP (mK t (lU x.pC).1) (lU x.pC):=by
   unfold wG
   rw [ht,if_pos (by omega)]
  rw [e,zL]
  have a1:=Hj (b:=mK t x.pC.kind) (p:=lU x.pC) (m:=64 - d) (by have:=hx.2; show lS x.pC≤_; omega) (by
   rcases Nq with h | h
   ·exact .inl (decide_eq_true h)
   ·exact .inr (by show lS x.pC+1≤_; omega))
  have:=hx.2
  omega
include hT
theorem UQ {next:PM XE}{k:Nat}(hk:1≤k) (hn:WP next d d (CW d (k+2))):∀(n:Nat) (x:XE),CW d (k+1) x→WP (q7 L next k n x) d d (CW d (k+1))
 | 0,_,_=>WP.fail
 | n+1,x,hx=>by
  unfold q7
  intro a
  refine WA.here ?_
  have Nq:(k+1 < lD x.pC.kind∨lD x.pC.kind=k+1∧1 < k+1)∨d+lS x.pC+1≤64:=by
   rcases hx.2 with h | h
   ·left; omega
   ·exact .inr h
  cases hs:oK (tk L a) k with
  | none=>exact WP.pure hx a
  | some kind =>
   obtain⟨h1,h2,h3,h4⟩:=Mp hs
   exact WA.next (WP.ite (fun h=>(QF hT).bind fun c hc=>UQ hk hn n _ (ad9 h1 (by omega) (h3 h _ hc) hx.1 Nq)) fun h=>hn.bind fun y hy=>UQ hk hn n _ (ZI h1 (by omega) (h4 h) hx.1 Nq hy))
theorem Wm {un:PM XE}(hu:WP un d d (CW d 8)):∀j,j≤6→WP (nR L un j) d d (CW d (8 - j))
 | 0,_=>hu
 | j+1,hj=>by
  have h1:=Wm hu j (by omega)
  have e:8 - j=6 - j+2:=by omega
  have e2:8 - (j+1)=6 - j+1:=by omega
  rw [e] at h1
  rw [e2]
  exact h1.bind fun x hx=>UQ hT (by omega) h1 _ _ ⟨hx.1,by rcases hx.2 with h | h; (left; omega); exact .inr h⟩
theorem aeY {un:PM XE}(hu:WP un d d (CW d 8)):WP (vQ L un) d d (EW d):=by
 unfold vQ
 have h6:=Wm hT hu 6 (ac9 _)
 refine h6.bind fun x hx a=>WA.here ?_
 cases hs:oK (tk L a) 0 with
 | none=>exact WP.pure hx.1 a
 | some kind =>
  obtain⟨h1,h2,h3,h4⟩:=Mp hs
  have hne:¬(kind=14∨kind=15):=fun h=>by rcases h with rfl | rfl <;> exact absurd h1 (by decide)
  exact WA.next (h6.bind fun y hy=>WP.pure (ZI (t:=1) h1 (by omega) (h4 hne) hx.1 (by rcases hx.2 with h | h; (left; left; omega); exact .inr h) hy).1)
theorem av6:∀n d,d≤64→WP (Aq L n) d d (CW d 8)
 | 0,_,_=>WP.fail
 | n+1,d,hd=>amE hT (fun d hd=>aeY hT (av6 n d hd)) (av6 n) hd
theorem aeX (n d:Nat) (hd:d≤64):WP (AE L n) d d (EW d):=aeY hT (av6 hT n d hd)
end
end
section
open Go Hk
def SW (d:Nat) (s:XS):Prop:=pQ s.pC=true∧d+qN s.pC≤64
def BW (d:Nat) (l:List XS):Prop:=oI (XS.pY l)=true∧d+(pV (nZ (XS.pY l))+1)≤64
theorem MK:∀{l:List XS},(∀x∈l,pQ x.pC=true)→oI (XS.pY l)=true
 | [],_=>rfl
 | x::r,h=>by simp [XS.pY,oI,h x (by simp),MK (l:=r) fun y hy=>h y (by simp [hy])]
theorem On {n:Nat}:∀{l:List XS},(∀x∈l,qN x.pC≤n)→pV (nZ (XS.pY l))≤n
 | [],_=>ak5 _
 | x::r,h=>Nat.max_le.2 ⟨h x (by simp),On (l:=r) fun y hy=>h y (by simp [hy])⟩
section
variable {L:List Token}{d:Nat}(hT:∀a,TF (tk L a))
include hT
theorem Wn (n:Nat) (hd:d≤64):WP (y9 L n) d d (fun l=>∃x,l=[x]∧EW d x):=by
 unfold y9
 exact(aeX hT n d hd).bind fun x hx=>yH.bind fun _ _=>WP.pure ⟨x,rfl,hx⟩
theorem amC (n pos:Nat) (hd:d≤64):WP (pG L n pos) d d (SW d):=by
 unfold pG
 refine(Fo hT).bind fun t ht=>UP.bind fun _ _=>WP.ite (fun _=>(aeW (aeX hT _) hd ht).bind fun c hc=>yH.bind fun _ _=>WP.pure ?_) fun _=>UP.bind fun _ _ =>
  WP.ite (fun _=>(Wp (aeX hT _) hd).bind fun i hi=>yH.bind fun _ _=>(Wn hT n hd).bind fun l hl=>WP.pure ?_) fun _=>yH.bind fun _ _=>(Wn hT n hd).bind fun l hl=>WP.pure ?_
 ·obtain⟨⟨⟨h1,h2⟩,_⟩,h3⟩:=hc
  refine⟨?_,h2⟩
  simp [XS.pC,XS.pY,XE.pY,pQ,oI,lW,lO,lM,mZ,lF,Ty.pC,GT.zero,Rm,h1,h3]
 ·obtain⟨x,rfl,h1,h2⟩:=hi
  obtain⟨y,rfl,h3,h4⟩:=hl
  refine⟨?_,?_⟩
  ·simp [XS.pC,XS.pY,XE.pY,pQ,oI,lW,lO,lM,mZ,lF,Ty.pC,GT.zero,h1,h3,ht]
  ·show d+max (lS x.pC+1) (lS y.pC)≤64
   omega
 ·obtain⟨y,rfl,h3,h4⟩:=hl
  refine⟨?_,h4⟩
  simp [XS.pC,XS.pY,XE.pY,pQ,oI,lW,lO,lM,mZ,lF,Ty.pC,GT.zero,h3,ht]
theorem av5 {block:PM (List XS)}(hb:WP block d d (BW d)) (n:Nat) (hd:d≤64):WP (qM L block n) d d (SW d):=by
 unfold qM
 refine QE.bind fun t _=>A1.bind fun _ _=>WP.ite (fun _=>(Fo hT).bind fun nm hn=>yH.bind fun _ _=>(Wn hT n hd).bind fun l hl=>WP.pure ?_) fun _=>A1.bind fun _ _ =>
  WP.ite (fun _=>QG.bind fun lab hlab=>(Fo hT).bind fun nm hn=>yH.bind fun _ _=>(Wq hT hlab).bind fun ty hty=>yH.bind fun _ _=>WP.pure ?_) fun _=>A1.bind fun _ _ =>
  WP.ite (fun _=>(aeX hT n d hd).bind fun x hx=>hb.bind fun b hb1=>A1.bind fun _ _=>WP.ite (fun _=>hb.bind fun e he=>WP.pure ?_) fun _=>WP.pure ?_) fun _=>A1.bind fun _ _ =>
  WP.ite (fun _=>(Fo hT).bind fun nm hn=>yH.bind fun _ _=>(aeX hT n d hd).bind fun x hx=>yH.bind fun _ _=>(QF hT).bind fun m hm=>hb.bind fun b hb1=>WP.pure ?_) fun _=>A1.bind fun _ _ =>
  WP.ite (fun _=>(Wn hT n hd).bind fun l hl=>WP.pure ?_) fun _=>amC hT n _ hd
 ·obtain⟨y,rfl,h3,h4⟩:=hl
  refine⟨?_,h4⟩
  simp [XS.pC,XS.pY,XE.pY,pQ,oI,lW,lO,lM,mZ,lF,Ty.pC,GT.zero,h3,hn]
 ·refine⟨?_,by show d+0≤64; omega⟩
  simp [XS.pC,XS.pY,XE.pY,pQ,oI,lW,lO,lM,mZ,lF,hn,hty]
 ·obtain⟨h1,h2⟩:=hx
  obtain⟨h3,h4⟩:=hb1
  obtain⟨h5,h6⟩:=he
  refine⟨?_,?_⟩
  ·simp [XS.pC,XE.pY,pQ,lW,lO,lM,mZ,lF,Ty.pC,GT.zero,h1,h3,h5]
  ·show d+max (lS x.pC) (max (pV (nZ (XS.pY b))+1) (pV (nZ (XS.pY e))+1))≤64
   omega
 ·obtain⟨h1,h2⟩:=hx
  obtain⟨h3,h4⟩:=hb1
  refine⟨?_,?_⟩
  ·simp [XS.pC,XE.pY,XS.pY,oI,pQ,lW,lO,lM,mZ,lF,Ty.pC,GT.zero,h1,h3]
  ·show d+max (lS x.pC) (pV (nZ (XS.pY b))+1)≤64
   omega
 ·obtain⟨h1,h2⟩:=hx
  obtain⟨h3,h4⟩:=hb1
  refine⟨?_,?_⟩
  ·simp [XS.pC,XE.pY,XS.pY,oI,pQ,lW,lO,lM,mZ,lF,vB,Ty.pC,GT.zero,h1,h3,hn]; omega
  ·show d+max (lS x.pC) (pV (nZ (XS.pY b))+1)≤64
   omega
 ·obtain⟨y,rfl,h3,h4⟩:=hl
  refine⟨?_,h4⟩
  simp [XS.pC,XS.pY,XE.pY,pQ,oI,lW,lO,lM,mZ,lF,Ty.pC,GT.zero,h3]
omit hT in
theorem Wr {stmt:PM XS}(hs:WP stmt d d (SW d)):∀(m:Nat) (l:List XS),(∀x∈l,SW d x)→WP (vE L stmt m l) d d (fun l=>∀x∈l,SW d x)
 | 0,_,_=>WP.fail
 | m+1,l,hl=>UP.bind fun _ _=>WP.ite (fun _=>WP.pure hl) fun _=>hs.bind fun x hx=>Wr hs m _ (ER hl hx)
theorem QD:∀n d,d≤64→WP (rD L n) d d (BW d)
 | 0,_,_=>WP.fail
 | n+1,d,hd=>(IT hd).bind fun _ h=>(Wr (av5 hT (QD n _ h) n h) _ _ DO).bind fun l hl=>IU.bind fun _ _=>WP.pure
   ⟨MK fun x hx=>(hl x hx).1,by
    have:=On (l:=l) (n:=63 - d) fun x hx=>by have:=(hl x hx).2; omega
    omega⟩
def FW (f:XF):Prop:=qE f.pC=true∧wD f.pC≤64
theorem av4:WP (wH L) 0 0 FW:=by
 unfold wH
 refine yH.bind fun _ _=>(Fo hT).bind fun nm hn=>yH.bind fun _ _=>(aeZ (amD hT)).bind fun ps hps=>yH.bind fun _ _=>A1.bind fun _ _ =>
  WP.ite (fun _=>QG.bind fun l hl=>(S8 hl).bind fun ty hty=>(QD hT 65 0 (by omega)).bind fun b hb=>WP.pure ?_) fun _=>(QD hT 65 0 (by omega)).bind fun b hb=>WP.pure ?_
 ·obtain⟨h1,h2⟩:=hb
  have h3:ty.pC.len=0:=by show(ty.len:Int)=0; rw [hty.2.1]; rfl
  have h4:ty.pC.elem≠2:=fun h=>hty.2.2.1 (by have:(ty.elem:Int)=2:=h; omega)
  refine⟨?_,by show pV (nZ (XS.pY b))+1≤64; omega⟩
  simp [XF.pC,qE,hn,h1,hty.1,h3,h4]
  exact hps
 ·obtain⟨h1,h2⟩:=hb
  refine⟨?_,by show pV (nZ (XS.pY b))+1≤64; omega⟩
  simp [XF.pC,qE,hn,h1,Ty.pC,GT.zero]
  exact hps
theorem Wo:∀(m:Nat) (l:List XF),(∀x∈l,FW x)→WP (pO L m l) 0 0 (fun l=>∀x∈l,FW x)
 | 0,_,_=>WP.fail
 | m+1,l,hl=>QE.bind fun _ _=>WP.ite (fun _=>WP.pure hl) fun _=>(av4 hT).bind fun x hx=>Wo m _ (ER hl hx)
end
theorem EH (s:List UInt8):((nM s).1.map XF.pC).all qE=true∧pV (((nM s).1.map XF.pC).map wD)≤64:=by
 have h:∀x∈(nM s).1,FW x:=by
  unfold nM
  split
  ·cases hp:pO (oT s).1 131073 [] 0 0 with
   | bad e p a d=>exact DO
   | ok l a d=>exact(Wo (aiL s) _ _ DO 0 l a d hp).2
  ·exact DO
 have h2:∀{l:List XF},(∀x∈l,FW x)→pV ((l.map XF.pC).map wD)≤64:=fun {l}=>by
  induction l with
  | nil=>intro _; exact ak5 _
  | cons x r ih=>intro h; exact Nat.max_le.2 ⟨(h x (by simp)).2,ih fun y hy=>h y (by simp [hy])⟩
 refine⟨?_,h2 h⟩
 rw [List.all_map,ag3]
 exact fun x hx=>(h x hx).1
theorem DT (s:List UInt8):xQ ((nM s).1.map XF.pC)=((((nM s).1.map XF.pC).map qI).flatten,0):=by
 have h:=EH s
 unfold xQ
 rw [if_pos h.1,if_neg (by omega)]
end
section
open Go Hk
theorem Ak:∀(t u:List UInt8) (s:PL),x7 (t++u) s=(x7 t s).bind (x7 u)
 | [],u,s=>rfl
 | c::r,u,s=>by
  simp only [af5,x7]
  cases yL s c with
  | none=>rfl
  | some s'=>simp only [ad0]; exact Ak r u s'
def Jh (pv:UInt8):List UInt8→UInt8
 | []=>pv
 | c::r=>Jh c r
theorem Lp:∀(t u:List UInt8) (pv:UInt8),Jh pv (t++u)=Jh (Jh pv t) u
 | [],_,_=>rfl
 | c::r,u,_=>Lp r u c
def Piece (t:List UInt8):Prop:=∀c∈t,c≠10∧c≠123∧c≠125
theorem Piece.app {t u:List UInt8}(h:Piece t) (k:Piece u):Piece (t++u):=fun c hc=>(List.mem_append.1 hc).elim (h c) (k c)
theorem Piece.cons {c:UInt8}{t:List UInt8}(h:c≠10∧c≠123∧c≠125) (k:Piece t):Piece (c::t):=fun x hx=>(List.mem_cons.1 hx).elim (fun e=>e ▸ h) (k x)
theorem Piece.nil:Piece []:=fun c hc=>by cases hc
theorem Gj:∀(t:List UInt8) (pv:UInt8) (n bl:Int),Piece t→x7 t ⟨pv,n,bl,false⟩=some ⟨Jh pv t,n,bl,false⟩
 | [],_,_,_,_=>rfl
 | c::r,pv,n,bl,h=>by
  obtain⟨h1,h2,h3⟩:=h c (by simp)
  simp only [x7,yL,h1,h2,h3,if_false,false_and,Bool.false_eq_true,ad0]
  exact Gj r c n bl fun x hx=>h x (by simp [hx])
def NP (t:List UInt8):Prop:=Piece t∧(∃c r,t=c::r∧c≠32)∧∀pv,Jh pv t≠32
theorem NP.app {t m u:List UInt8}(h:NP t) (hm:Piece m) (k:NP u):NP (t++(m++u)):=by
 obtain⟨c,r,rfl,hc⟩:=h.2.1
 exact⟨h.1.app (hm.app k.1),⟨c,r++(m++u),rfl,hc⟩,fun pv=>by rw [Lp,Lp]; exact k.2.2 _⟩
theorem NP.one {c:UInt8}(h:c≠10∧c≠123∧c≠125∧c≠32):NP [c]:=⟨Piece.cons ⟨h.1,h.2.1,h.2.2.1⟩ Piece.nil,⟨c,[],rfl,h.2.2.2⟩,fun _=>h.2.2.2⟩
theorem NP.all {t:List UInt8}(h:t≠[]) (k:∀c∈t,c≠10∧c≠123∧c≠125∧c≠32):NP t:=by
 refine⟨fun c hc=>⟨(k c hc).1,(k c hc).2.1,(k c hc).2.2.1⟩,?_,?_⟩
 ·cases t with
  | nil=>exact absurd rfl h
  | cons c r=>exact⟨c,r,rfl,(k c (by simp)).2.2.2⟩
 ·intro pv
  have:∀(t:List UInt8) (pv:UInt8),(t≠[]∨pv≠32)→(∀c∈t,c≠32)→Jh pv t≠32:=fun t=>by
   induction t with
   | nil=>intro pv hp _; exact hp.elim (fun h=>absurd rfl h) id
   | cons c r ih=>intro pv _ hk; exact ih c (.inr (hk c (by simp))) fun x hx=>hk x (by simp [hx])
  exact this t pv (.inl h) fun c hc=>(k c hc).2.2.2
theorem Ws {c:UInt8}(h:isWord c=true):c≠10∧c≠123∧c≠125∧c≠32 :=
 ⟨by rintro rfl; revert h; decide,by rintro rfl; revert h; decide,by rintro rfl; revert h; decide,by rintro rfl; revert h; decide⟩
theorem AY {t:List UInt8}(h:pH t=true):NP t:=by
 obtain⟨⟨b,r,e,_⟩,hw,_⟩:=Qa h
 exact NP.all (by rw [e]; simp) fun c hc=>Ws (hw c hc)
theorem LR (n:Int):NP (uK n):=by
 obtain⟨c,r,e⟩:=GI n.toNat
 exact NP.all (by unfold uK; rw [e]; simp) fun c hc=>Ws (by unfold isWord; rw [C6 _ c hc,Bool.or_true])
theorem B5 {t:List UInt8}(h:(t != [] && t.all fun c=>c != 10 && c != 123 && c != 125 && c != 32)=true):NP t:=by
 simp only [ad2,bne_iff_ne,ag3] at h
 exact NP.all h.1 fun c hc=>⟨(h.2 c hc).1.1.1,(h.2 c hc).1.1.2,(h.2 c hc).1.2,(h.2 c hc).2⟩
theorem sU {t:List UInt8}(h:(t.all fun c=>c != 10 && c != 123 && c != 125)=true):Piece t:=by
 simp only [ad2,bne_iff_ne,ag3] at h
 exact fun c hc=>⟨(h c hc).1.1,(h c hc).1.2,(h c hc).2⟩
theorem NP.paren {t:List UInt8}(h:Piece t):NP (40::(t++[41])):=(NP.one (c:=40) (by decide)).app h (NP.one (c:=41) (by decide))
theorem J0 {b:Bool}{p:Part}(h:NP p.2.1):NP (tI b p):=by
 unfold tI
 split
 ·exact h
 ·exact NP.paren h.1
theorem Ow:∀{l:List Part},(∀p∈l,NP p.2.1)→Piece (vC l)
 | [],_=>Piece.nil
 | [p],h=>(h p (by simp)).1
 | p::q::r,h=>(h p (by simp)).1.app (Piece.cons (by decide) (Piece.cons (by decide) (Ow (l:=q::r) fun x hx=>h x (by simp at hx ⊢; exact .inr hx))))
theorem akX {k n:Int}{name:List UInt8}{l:List Part}(hk:rK k n name l.length=true) (hl:∀p∈l,NP p.2.1):NP (tO k n name l):=by
 have hr:1≤k∧k≤26:=by
  unfold rK uB at hk
  split at hk
  ·cases hk
  ·rename_i m hm
   split at hm
   ·cases hm
   ·omega
 have bl:Piece [32]:=sU rfl
 have two:∀{k:Int},NP (nS k)→lD k < 8→2≤l.length→NP (tO k n name l):=fun {k} hs ht hlen=>by
  match l,hlen,hl with
  | a::b::r,_,hl =>
   unfold tO
   rw [if_pos ht]
   exact(J0 (hl a (by simp))).app bl (hs.app bl (J0 (hl b (by simp))))
 have one:∀{k:Int},NP (nS k)→lD k < 8→l.length=1→NP (tO k n name l):=fun {k} hs ht hlen=>by
  match l,hlen,hl with
  | [a],_,hl =>
   unfold tO
   rw [if_pos ht]
   exact(J0 (hl a (by simp))).app bl (hs.app bl (LR n))
 have un:∀{k:Int},NP (nS k)→(k=5∨k=6∨k=7)→¬lD k < 8→l.length=1→NP (tO k n name l):=fun {k} hs h5 ht hlen=>by
  match l,hlen,hl with
  | [a],_,hl =>
   unfold tO
   rw [if_neg ht,if_neg (by omega),if_neg (by omega),if_neg (by omega),if_pos h5]
   exact hs.app Piece.nil (J0 (hl a (by simp)))
 have fn:∀{k:Int},NP (nS k++name)→(k=4∨k=16∨23≤k)→¬lD k < 8→NP (tO k n name l):=fun {k} hs h5 ht=>by
  unfold tO
  rw [if_neg ht,if_neg (by omega),if_neg (by omega),if_neg (by omega),if_neg (by omega)]
  refine hs.app Piece.nil (NP.paren ((Ow hl).app ?_))
  split
  ·exact Piece.cons (by decide) (Piece.cons (by decide) (LR n).1)
  ·exact Piece.nil
 have hc:k=1∨k=2∨k=3∨k=4∨k=5∨k=6∨k=7∨k=8∨k=9∨k=10∨k=11∨k=12∨k=13∨k=14∨k=15∨k=16∨k=17∨k=18∨k=19∨k=20∨k=21∨k=22∨k=23∨k=24∨k=25∨k=26:=by omega
 rcases hc with rfl | rfl | rfl | rfl | rfl | rfl | rfl | rfl | rfl | rfl | rfl | rfl | rfl | rfl | rfl | rfl | rfl | rfl | rfl | rfl | rfl | rfl | rfl | rfl | rfl | rfl <;>
  simp [rK,uB,lM,lF] at hk
 ·exact LR n
 ·have hn:pH name=true:=by simp_all
  exact AY hn
 ·have hn:pH name=true:=by simp_all
  have h1:l.length=1:=by omega
  match l,h1,hl with
  | [a],_,hl=>exact(AY hn).app Piece.nil ((NP.one (c:=91) (by decide)).app (hl a (by simp)).1 (NP.one (c:=93) (by decide)))
 ·have hn:pH name=true:=by simp_all
  exact fn (AY hn) (.inl rfl) (by decide)
 all_goals first
  | exact un (B5 rfl) (by decide) (by decide) (by omega)
  | exact two (B5 rfl) (by decide) (by omega)
  | exact one (B5 rfl) (by decide) (by omega)
  | exact fn (by rw [show name=[] from by simp_all]; exact B5 rfl) (by decide) (by decide)
mutual
theorem aAt:∀x:GE,mY x=true→NP (lU x).2.1
 | .mk k p n name args,h=>by
  simp only [mY,ad2] at h
  have hl:(rP args).length=args.length:=by rw [Dl,ak1]
  exact akX (by rw [hl]; exact h.1) (an6 args h.2)
theorem an6:∀l:List GE,mZ l=true→∀p∈rP l,NP p.2.1
 | [],_,p,hp=>by cases hp
 | x::r,h,p,hp=>by
  simp only [mZ,ad2] at h
  simp only [rP] at hp
  rcases List.mem_cons.1 hp with e | hp
  ·rw [e]; exact aAt x h.1
  ·exact an6 r h.2 p hp
end
def SOK (t:List UInt8) (n:Int):Prop:=∀pv,∃pv',x7 t ⟨pv,n,n,true⟩=some ⟨pv',n,n,false⟩∧pv'≠32
theorem Qs {t:List UInt8}(h:NP t) (pv:UInt8) (n:Int):x7 t ⟨pv,n,n,true⟩=some ⟨Jh pv t,n,n,false⟩:=by
 obtain⟨hp,⟨c,r,rfl,hc⟩,_⟩:=h
 obtain⟨h1,h2,h3⟩:=hp c (by simp)
 simp only [x7,yL,h1,h2,h3,hc,if_false,and_false,ad0,ne_eq,not_true_eq_false]
 exact Gj r c n n fun x hx=>hp x (by simp [hx])
theorem IQ {t:List UInt8}(h:NP t) (n:Int):SOK t n:=fun pv=>⟨_,Qs h pv n,h.2.2 pv⟩
theorem EO:∀(m:Nat) (pv:UInt8) (n b:Int),∃pv',x7 (qA m) ⟨pv,n,b,true⟩=some ⟨pv',n,b+m,true⟩
 | 0,pv,n,b=>⟨pv,by simp [qA,x7]⟩
 | m+1,pv,n,b=>by
  obtain⟨pv',h⟩:=EO m 32 n (b+1)
  refine⟨pv',?_⟩
  show(yL ⟨pv,n,b,true⟩ 32).bind (x7 (qA m))=_
  rw [show yL ⟨pv,n,b,true⟩ 32=some ⟨32,n,b+1,true⟩ from rfl]
  simp only [ad0,h]
  rw [show b+1+(m:Int)=b+((m+1:Nat):Int) by omega]
theorem Mm {n:Nat}:∀{l:List (List UInt8)},(∀t∈l,SOK t n)→∀pv,∃pv',x7 ((l.map fun t=>qA n++t++[10]).flatten) ⟨pv,n,0,true⟩=some ⟨pv',n,0,true⟩
 | [],_,pv=>⟨pv,rfl⟩
 | t::r,h,pv=>by
  obtain⟨p1,h1⟩:=EO n pv n 0
  obtain⟨p2,h2,h3⟩:=h t (by simp) p1
  obtain⟨p3,h4⟩:=Mm (l:=r) (fun x hx=>h x (by simp [hx])) 10
  refine⟨p3,?_⟩
  have e:yL ⟨p2,n,n,false⟩ 10=some ⟨10,n,0,true⟩:=by simp [yL,h3]
  simp only [ak9,List.flatten_cons,Ak,h1,ad0,Int.zero_add,h2,x7,e,h4]
theorem Gi {n:Nat}{l:List (List UInt8)}(h:∀t∈l,SOK t ((n+1:Nat):Int)) (pv:UInt8):x7 (nQ n l) ⟨pv,n,n,false⟩=some ⟨125,n,n,false⟩:=by
 obtain⟨p1,h1⟩:=Mm h 10
 obtain⟨p2,h2⟩:=EO n p1 ((n+1:Nat):Int) 0
 have e1:yL ⟨pv,n,n,false⟩ 32=some ⟨32,n,n,false⟩:=by simp [yL]
 have e2:yL ⟨32,n,n,false⟩ 123=some ⟨123,((n+1:Nat):Int),n,false⟩:=by simp [yL]
 have e3:yL ⟨123,((n+1:Nat):Int),n,false⟩ 10=some ⟨10,((n+1:Nat):Int),0,true⟩:=by simp [yL]
 have e4:yL ⟨p2,((n+1:Nat):Int),n,true⟩ 125=some ⟨125,n,n,false⟩:=by simp [yL]
 unfold nQ
 simp only [x7,e1,e2,e3,ad0,Ak,h1,h2,Int.zero_add,e4]
theorem OF {t:List UInt8}(h:NP t) {n:Nat}{l:List (List UInt8)}(hl:∀t∈l,SOK t ((n+1:Nat):Int)) (pv:UInt8):x7 (t++nQ n l) ⟨pv,n,n,true⟩=some ⟨125,n,n,false⟩:=by
 rw [Ak,Qs h,ad0,Gi hl]
theorem LQ {l:Int}{t:List UInt8}(h:NP t):NP (oO l++t):=by
 unfold oO
 split
 ·exact(B5 (t:=[115,101,99]) rfl).app (sU (t:=[32]) rfl) h
 ·exact(B5 (t:=[112,117,98]) rfl).app (sU (t:=[32]) rfl) h
theorem Qc {t:GT}:NP (vO t):=by
 unfold vO
 have h1:NP (if t.elem=1 then [109,97,115,107] else if t.elem=2 then [117,56] else [117,51,50]):=by
  split
  ·exact B5 rfl
  ·split <;> exact B5 rfl
 by_cases h:0 < t.len
 ·rw [if_pos h]
  exact h1.app Piece.nil ((NP.one (c:=91) (by decide)).app (LR _).1 (NP.one (c:=93) (by decide)))
 ·rw [if_neg h,List.append_nil]; exact h1
theorem aeF {k m:Int}{name:List UInt8}{ty:GT}{args:List GE}{body els:List (List UInt8)}{has:Bool}{nb ne n:Nat}(h:lW k m name ty args nb ne has=true) (hb:∀t∈body,SOK t ((n+1:Nat):Int)) (he:∀t∈els,SOK t ((n+1:Nat):Int)) :
  SOK (xC k m name ty (args.map mB) (nQ n body) (nQ n els) has) n:=by
 have hr:1≤k∧k≤8:=by
  unfold lW lO at h
  split at h
  ·cases h
  ·rename_i m hm
   split at hm
   ·cases hm
   ·omega
 have sm:∀{t:List UInt8},NP t→NP (t++[59]):=fun ht=>ht.app Piece.nil (NP.one (c:=59) (by decide))
 have eq:Piece [32,61,32]:=sU rfl
 have hc:k=1∨k=2∨k=3∨k=4∨k=5∨k=6∨k=7∨k=8:=by omega
 have argsNP:mZ args=true→∀x∈args,NP (mB x):=fun hw x hx=>aAt x (ag3.1 (wL args ▸ hw) x hx)
 rcases hc with rfl | rfl | rfl | rfl | rfl | rfl | rfl | rfl <;> simp [lW,lO,lM,lF] at h
 ·match args,h,argsNP with
  | [a],h,hA =>
   have ha:=hA (by simp_all) a (by simp)
   have hn:=AY (t:=name) (by simp_all)
   refine IQ ?_ n
   have:=sm ((B5 (t:=[108,101,116]) rfl).app (sU (t:=[32]) rfl) (hn.app eq ha))
   simpa [xC] using this
 ·have hn:=AY (t:=name) (by simp_all)
  refine IQ ?_ n
  have:=sm ((B5 (t:=[118,97,114]) rfl).app (sU (t:=[32]) rfl) (LQ (l:=ty.label) (hn.app (sU (t:=[58,32]) rfl) (Qc (t:=ty)))))
  simpa [xC] using this
 ·match args,h,argsNP with
  | [a],h,hA =>
   have ha:=hA (by simp_all) a (by simp)
   have hn:=AY (t:=name) (by simp_all)
   refine IQ ?_ n
   have:=sm (hn.app eq ha)
   simpa [xC] using this
 ·match args,h,argsNP with
  | [a,b],h,hA =>
   have ha:=hA (by simp_all) a (by simp)
   have hb:=hA (by simp_all) b (by simp)
   have hn:=AY (t:=name) (by simp_all)
   refine IQ ?_ n
   have:=sm (hn.app Piece.nil ((NP.one (c:=91) (by decide)).app ha.1 ((NP.one (c:=93) (by decide)).app eq hb)))
   simpa [xC] using this
 ·match args,h,argsNP with
  | [a],h,hA =>
   have ha:=hA (by simp_all) a (by simp)
   have hh:=(B5 (t:=[105,102]) rfl).app (sU (t:=[32]) rfl) ha
   intro pv
   refine⟨125,?_,by decide⟩
   have h1:=OF hh hb pv
   cases has with
   | false=>simpa [xC] using h1
   | true =>
    have h2:x7 ([32,101,108,115,101]++nQ n els) ⟨125,n,n,false⟩=some ⟨125,n,n,false⟩:=by
     rw [Ak,Gj _ _ _ _ (sU rfl),ad0,Gi he]
    have h3:xC 5 m name ty ([a].map mB) (nQ n body) (nQ n els) true=([105,102]++([32]++mB a)++nQ n body)++([32,101,108,115,101]++nQ n els):=by simp [xC]
    rw [h3,Ak,h1,ad0,h2]
 ·match args,h,argsNP with
  | [a],h,hA =>
   have ha:=hA (by simp_all) a (by simp)
   have hn:=AY (t:=name) (by simp_all)
   have hh:=(B5 (t:=[102,111,114]) rfl).app (sU (t:=[32]) rfl) (hn.app (sU (t:=[32,60,32]) rfl) (ha.app (sU (t:=[32,109,97,120,32]) rfl) (LR m)))
   intro pv
   refine⟨125,?_,by decide⟩
   have h1:=OF hh hb pv
   simpa [xC] using h1
 ·match args,h,argsNP with
  | [a],h,hA =>
   have ha:=hA (by simp_all) a (by simp)
   refine IQ ?_ n
   have:=sm ha
   simpa [xC] using this
 ·match args,h,argsNP with
  | [a],h,hA =>
   have ha:=hA (by simp_all) a (by simp)
   refine IQ ?_ n
   have:=sm ((B5 (t:=[114,101,116,117,114,110]) rfl).app (sU (t:=[32]) rfl) ha)
   simpa [xC] using this
mutual
theorem aBr:∀(x:GS) (n:Nat),pQ x=true→SOK (p_ n x) n
 | .mk k p m name ty args body els has,n,h=>by
  simp only [pQ,ad2] at h
  exact aeF h.1.1 (Qt body (n+1) h.1.2) (Qt els (n+1) h.2)
theorem Qt:∀(l:List GS) (n:Nat),oI l=true→∀t∈n9 n l,SOK t n
 | [],_,_,t,ht=>by cases ht
 | x::r,n,h,t,ht=>by
  simp only [oI,ad2] at h
  simp only [n9] at ht
  rcases List.mem_cons.1 ht with e | ht
  ·rw [e]; exact aBr x n h.1
  ·exact Qt r n h.2 t ht
end
theorem acX {p:GP}(h:uF p=true):NP (pP p):=by
 unfold uF at h
 simp only [ad2] at h
 have h1:=LQ (l:=p.ty.label) ((AY h.1).app (sU (t:=[58,32]) rfl) (Qc (t:=p.ty)))
 unfold pP
 split
 ·have:=(B5 (t:=[111,117,116]) rfl).app (sU (t:=[32]) rfl) h1
  simpa using this
 ·simpa using h1
theorem L0:∀{l:List (List UInt8)},(∀p∈l,NP p)→Piece (wO l)
 | [],_=>Piece.nil
 | [p],h=>(h p (by simp)).1
 | p::q::r,h=>(h p (by simp)).1.app (Piece.cons (by decide) (Piece.cons (by decide) (L0 (l:=q::r) fun x hx=>h x (by simp at hx ⊢; exact .inr hx))))
theorem avF {f:GF}(h:qE f=true) (pv:UInt8):x7 (qI f) ⟨pv,0,0,true⟩=some ⟨10,0,0,true⟩:=by
 unfold qE at h
 simp only [ad2] at h
 have hp:∀p∈f.params.map pP,NP p:=fun p hp=>by
  obtain⟨q,hq,rfl⟩:=List.mem_map.1 hp
  exact acX (ag3.1 h.1.2 q hq)
 have hb:=Qt f.body 1 h.1.1.2
 have h1:NP ([102,110]++([32]++(f.name++([]++([40]++(wO (f.params.map pP)++[41])))))) :=
  (B5 (t:=[102,110]) rfl).app (sU (t:=[32]) rfl) ((AY h.1.1.1).app Piece.nil ((NP.one (c:=40) (by decide)).app (L0 hp) (NP.one (c:=41) (by decide))))
 have h2:NP ([102,110,32]++f.name++[40]++wO (f.params.map pP)++[41]++(if f.has then [58,32]++oO f.result.label++vO f.result else [])):=by
  split
  ·have:=h1.app (sU (t:=[58,32]) rfl) (LQ (l:=f.result.label) (Qc (t:=f.result)))
   simpa using this
  ·simpa using h1
 unfold qI
 rw [Ak,Ak,Qs h2]
 have h3:=Gi (n:=0) (l:=n9 1 f.body) hb
 simp only [ad0]
 erw [h3]
 rfl
theorem Hw:∀{l:List GF},l.all qE=true→∀pv,∃pv',x7 ((l.map qI).flatten) ⟨pv,0,0,true⟩=some ⟨pv',0,0,true⟩
 | [],_,pv=>⟨pv,rfl⟩
 | f::r,h,pv=>by
  simp only [List.all_cons,ad2] at h
  obtain⟨p,hp⟩:=Hw h.2 10
  exact⟨p,by simp only [ak9,List.flatten_cons,Ak,avF h.1,ad0,hp]⟩
theorem aeM (f:GF):qI f≠[]:=by simp [qI]
end
end Go.Proofs.YtlddmnojanpdoaaGreatDoor
