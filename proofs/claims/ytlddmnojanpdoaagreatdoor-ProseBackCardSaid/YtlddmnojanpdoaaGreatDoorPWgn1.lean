/-
  The texts WG.BB, WG.LA, WG.LB, WG.LC, WG.NA, WG.NB, WG.NC, WG.ND, WG.NE, WG.NF, WG.NG, WG.NH, WG.NI, WG.NJ, one behind another. No conditions.
-/
import Derived.Test.YtlddmnojanpdoaaGreatDoorPWg2
import Derived.Test.YtlddmnojanpdoaaGreatDoorPSga1
import Derived.Test.YtlddmnojanpdoaaGreatDoorPLg1
import Derived.Test.YtlddmnojanpdoaaGreatDoorPWg1
set_option linter.unusedVariables false
set_option linter.unusedSimpArgs false
set_option linter.all false
open Bool renaming and_eq_true → am2, false_eq_true → ak4
open List renaming all_eq_true → ag3, append_assoc → al2, append_nil → al6, cons_append → af5, drop_eq_getElem_cons → aj8, length_append → ac6, length_cons → am1, length_eq_zero_iff → al5, length_map → ak1, length_nil → am3, map_cons → ak9, mem_of_getElem? → am4, nil_append → an4, takeWhile_cons → ao5
open Nat renaming add_zero → an8, le_refl → ac9, zero_le → ak5
open Option.some renaming injEq → ab3
open Prod.mk renaming injEq → af1
namespace Go.Proofs.YtlddmnojanpdoaaGreatDoor
section
open Go Hk
def Ty.pC (t:Ty):GT:=⟨t.elem,t.len,t.label⟩
mutual
def XE.pC:XE→GE
 | .mk k p n name args=>.mk k p n name (XE.pY args)
def XE.pY:List XE→List GE
 | []=>[]
 | x::r=>x.pC::XE.pY r
end
theorem XE.CG:∀l:List XE,XE.pY l=l.map XE.pC
 | []=>rfl
 | x::r=>by simp [XE.pY,XE.CG r]
mutual
def XS.pC:XS→GS
 | .mk k p m name ty args body els has=>.mk k p m name ty.pC (XE.pY args) (XS.pY body) (XS.pY els) has
def XS.pY:List XS→List GS
 | []=>[]
 | x::r=>x.pC::XS.pY r
end
theorem XS.CG:∀l:List XS,XS.pY l=l.map XS.pC
 | []=>rfl
 | x::r=>by simp [XS.pY,XS.CG r]
def XP.pC (p:XP):GP:=⟨p.pos,p.name,p.ty.pC,p.out⟩
def XF.pC (f:XF):GF:=⟨f.pos,f.name,f.params.map XP.pC,f.has,f.result.pC,XS.pY f.body⟩
def eW (x:XE):Nat:=wE x.pC+4
def sW (x:XS):Nat:=wS x.pC+4
def pW (p:XP):Nat:=wP p.pC+4
def fW (f:XF):Nat:=wF f.pC
def lw {α:Type}(w:α→Nat):List α→Nat
 | []=>0
 | x::r=>w x+lw w r
theorem Fa {α:Type}{w:α→Nat}:∀{l:List α}{x:α},lw w (l++[x])=lw w l+w x
 | [],x=>by simp [lw]
 | y::r,x=>by simp only [af5,lw,Fa (l:=r)]; omega
theorem abJ {α:Type}{w:α→Nat}:∀{l m:List α},lw w (l++m)=lw w l+lw w m
 | [],m=>by simp [lw]
 | y::r,m=>by simp only [af5,lw,abJ (l:=r)]; omega
theorem UN:∀l:List XE,Fm (XE.pY l)=lw eW l
 | []=>rfl
 | x::r=>by simp only [XE.pY,Fm,lw,eW,UN r]
theorem UO:∀l:List XS,Gq (XS.pY l)=lw sW l
 | []=>rfl
 | x::r=>by simp only [XS.pY,Gq,lw,sW,UO r]
theorem aeU:∀l:List XP,Wj (l.map XP.pC)=lw pW l
 | []=>rfl
 | x::r=>by simp only [ak9,Wj,lw,pW,aeU r]
theorem aeT:∀l:List XF,MT (l.map XF.pC)=lw fW l
 | []=>rfl
 | x::r=>by simp only [ak9,MT,lw,fW,aeT r]
theorem FB {k p n:Nat}{name:List UInt8}{args:List XE}:eW (.mk k p n name args)=name.length+64+lw eW args:=by
 simp only [eW,XE.pC,wE,UN]; omega
theorem Hq {k p m:Nat}{name:List UInt8}{ty:Ty}{args:List XE}{b e:List XS}{has:Bool}:sW (.mk k p m name ty args b e has)=name.length+124+lw eW args+lw sW b+lw sW e:=by
 simp only [sW,XS.pC,wS,UN,UO]; omega
section
variable (L:List Token)
def IA:Nat→Nat
 | 0=>0
 | a+1=>IA a+(tk L a).text.length+200
def PA {α:Type}(x:PM α) (a c:Nat) (w:α→Nat):Prop:=∀d v a' d',x a d=.ok v a' d'→IA L a+w v≤IA L a'+c
def x9 {α:Type}(x:PM α) (w:α→Nat):Prop:=∀a c,PA L x a c (fun v=>c+w v)
variable {L} {α β:Type}
theorem PA.bind {x:PM α}{f:α→PM β}{a c:Nat}{wx:α→Nat}{w:β→Nat}(hx:PA L x a c wx) (hf:∀v a1,PA L (f v) a1 (wx v) w):PA L (x >>= f) a c w:=by
 intro d v a' d' h
 simp only [mO,PM.bind] at h
 cases h1:x a d with
 | ok u a1 d1 =>
  rw [h1] at h
  have e1:=hx d u a1 d1 h1
  have e2:=hf u a1 d1 v a' d' h
  omega
 | bad e p a1 d1=>rw [h1] at h; cases h
theorem PA.pure {v:α}{a c:Nat}{w:α→Nat}(h:w v≤c):PA L (Pure.pure v:PM α) a c w:=by
 intro d u a' d' e
 simp only [yI,Out.ok.injEq] at e
 obtain⟨rfl,rfl,_⟩:=e
 omega
theorem PA.fail {e a c:Nat}{w:α→Nat}:PA L (xY L e:PM α) a c w:=by intro d u a' d' h; cases h
theorem PA.ite {p:Prop} [Decidable p] {x y:PM α}{a c:Nat}{w:α→Nat}(hx:PA L x a c w) (hy:PA L y a c w):PA L (if p then x else y) a c w:=by
 split
 ·exact hx
 ·exact hy
theorem PA.here {f:Token→PM α}{a c:Nat}{w:α→Nat}(h:PA L (f (tk L a)) a c w):PA L (o7 L >>= f) a c w:=fun d=>h d
theorem PA.next {f:Unit→PM α}{a c:Nat}{w:α→Nat}(h:PA L (f ()) (a+1) (c+(tk L a).text.length+200) w):PA L (w_ >>= f) a c w:=by
 intro d v a' d' e
 have:=h d v a' d' e
 simp only [IA] at this
 omega
theorem PA.kind {k:Nat}{f:Token→PM α}{a c:Nat}{w:α→Nat}(h:PA L (f (tk L a)) (a+1) (c+(tk L a).text.length+200) w):PA L (qO L k >>= f) a c w:=by
 intro d v a' d' e
 simp only [mO,PM.bind,qO] at e
 split at e
 ·rename_i h1
  split at h1
  ·cases h1
   have:=h _ v a' d' e
   simp only [IA] at this
   omega
  ·cases h1
 ·cases e
theorem PA.le {x:PM α}{a c c':Nat}{w w':α→Nat}(h:PA L x a c w) (hc:c≤c') (hw:∀v,w' v≤w v):PA L x a c' w':=by
 intro d v a' d' e
 have:=h d v a' d' e
 have:=hw v
 omega
theorem Tg {s:List UInt8}:x9 L (EF L s) (fun _=>0):=by
 intro a c d v a' d' e; dsimp only; simp only [EF,Out.ok.injEq] at e; obtain⟨_,rfl,_⟩:=e; omega
theorem aDa:x9 L pUp (fun _=>0):=by
 intro a c d v a' d' e; dsimp only; simp only [pUp,Out.ok.injEq] at e; obtain⟨_,rfl,_⟩:=e; omega
theorem B6 {a:Nat}:IA L a+200≤IA L (a+1):=by simp only [IA]; omega
theorem AM {s:List UInt8}:x9 L (o9 L s) (fun b=>if b then 200 else 0):=by
 intro a c d v a' d' e; dsimp only
 simp only [o9,Out.ok.injEq] at e
 obtain⟨rfl,rfl,_⟩:=e
 split
 ·have:=B6 (L:=L) (a:=a); omega
 ·omega
theorem x_ {s:List UInt8}:x9 L (oQ L s) (fun _=>200):=by
 intro a c d v a' d' e; dsimp only
 simp only [oQ] at e
 split at e
 ·cases e; have:=B6 (L:=L) (a:=a); omega
 ·cases e
theorem Ds {k:Nat}:x9 L (qO L k) (fun t=>t.text.length+200):=by
 intro a c d v a' d' e; dsimp only
 simp only [qO] at e
 split at e
 ·cases e; simp only [IA]; omega
 ·cases e
theorem HO {s:List UInt8}:x9 L (tS L s) (fun _=>200):=by
 intro a c d v a' d' e; dsimp only
 simp only [tS] at e
 split at e
 ·split at e
  ·cases e
  ·cases e; have:=B6 (L:=L) (a:=a); omega
 ·cases e
theorem HP {s:List UInt8}:x9 L (tT L s) (fun _=>200):=by
 intro a c d v a' d' e; dsimp only
 simp only [tT] at e
 split at e
 ·cases e; have:=B6 (L:=L) (a:=a); omega
 ·cases e
theorem OU:x9 L (rO L) (fun _=>200):=by
 intro a c d v a' d' e; dsimp only
 simp only [rO] at e
 split at e
 ·cases e; have:=B6 (L:=L) (a:=a); omega
 ·split at e
  ·cases e; have:=B6 (L:=L) (a:=a); omega
  ·cases e
theorem Q2 {l:Nat}:x9 L (pR L l) (fun _=>0):=by
 intro a c d v a' d' e; dsimp only
 simp only [pR] at e
 have:=B6 (L:=L) (a:=a)
 split at e
 ·cases e; omega
 ·split at e
  ·cases e; omega
  ·cases e
theorem Zo:x9 L (xZ L) (fun _=>0):=fun a c =>
 (x_ a c).bind fun _ a1=>PA.here (PA.ite PA.fail ((Ds a1 _).bind fun _ a2=>(x_ a2 _).bind fun _ a3=>PA.pure (by(try dsimp only); omega)))
theorem U5 {l:Nat}:x9 L (uL L l) (fun _=>0):=fun a c =>
 (AM a c).bind fun b a1=>PA.ite ((Zo a1 _).bind fun _ a2=>PA.pure (by(try dsimp only); omega)) ((Q2 a1 _).bind fun t a2=>PA.ite ((Tg a2 _).bind fun _ a3=>PA.ite ((Zo a3 _).bind fun _ a4=>PA.pure (by(try dsimp only); omega)) (PA.pure (by(try dsimp only); omega))) (PA.pure (by(try dsimp only); omega)))
theorem agZ:x9 L (sM L) pW:=fun a c =>
 (AM a c).bind fun _ a1=>(OU a1 _).bind fun _ a2=>(Ds a2 _).bind fun t a3=>(x_ a3 _).bind fun _ a4=>(U5 a4 _).bind fun _ a5=>PA.pure (by(try dsimp only); simp only [pW,wP,XP.pC]; omega)
theorem Zp {one:PM α}{w:α→Nat}(h:x9 L one w):∀(n:Nat) (l:List α) (a c:Nat),PA L (vD L one n l) a (c+lw w l) (fun l'=>c+lw w l')
 | 0,_,_,_=>PA.fail
 | n+1,l,a,c=>(h a _).bind fun x a1=>(AM a1 _).bind fun b a2=>PA.ite
   (by
    have:=Zp h n (l++[x]) a2 c
    refine this.le ?_ fun _=>ac9 _
    rw [Fa]; omega)
   (PA.pure (by(try dsimp only); rw [Fa]; omega))
theorem Zn {one:PM α}{w:α→Nat}{s:List UInt8}(h:x9 L one w):x9 L (vW L s one) (lw w):=fun a c =>
 (Tg a c).bind fun _ a1=>PA.ite (PA.pure (by(try dsimp only); simp only [lw]; omega)) (by
  have:=Zp h 131073 [] a1 c
  simp only [lw,an8] at this
  exact this.le (by(try dsimp only); omega) fun _=>ac9 _)
section
variable {ex un:PM XE}(he:x9 L ex eW)
include he
theorem U4:x9 L (tF L ex) (lw eW):=fun a c =>
 (HO a c).bind fun _ a1=>(he a1 _).bind fun x a2=>(HP a2 _).bind fun _ a3=>PA.pure (by(try dsimp only); simp only [lw]; omega)
theorem Zk {t:Token}{a c:Nat}:PA L (xX L ex t) a (c+t.text.length) (fun x=>c+eW x) :=
 (HO a _).bind fun _ a1=>(Zn he a1 _).bind fun l a2=>(HP a2 _).bind fun _ a3=>PA.pure (by(try dsimp only); rw [FB]; omega)
theorem Zj:∀(n:Nat) (b:Bool) (l:List XE) (a c:Nat),PA L (rT L ex n b l) a (c+lw eW l) (fun l'=>c+lw eW l')
 | 0,_,_,_,_=>PA.pure (ac9 _)
 | n+1,b,l,a,c=>by
  have h1:∀(u:Unit) (a1:Nat) (c1:Nat),c+lw eW l≤c1→PA L (do let x ←ex; rT L ex n false (l++[x]):PM (List XE)) a1 c1 (fun l'=>c+lw eW l'):=fun _ a1 c1 hc=>by
   have h2:PA L (do let x ←ex; rT L ex n false (l++[x]):PM (List XE)) a1 (c+lw eW l) (fun l'=>c+lw eW l'):=(he a1 _).bind fun x a2=>by
    have:=Zj n false (l++[x]) a2 c
    refine this.le ?_ fun _=>ac9 _
    rw [Fa]; omega
   exact h2.le hc fun _=>ac9 _
  cases b
  ·exact(x_ a _).bind fun u a1=>h1 u a1 _ (by(try dsimp only); omega)
  ·exact PA.bind (x:=(Pure.pure PUnit.unit:PM PUnit)) (wx:=fun _=>c+lw eW l) (PA.pure (ac9 _)) fun u a1=>h1 u a1 _ (ac9 _)
theorem Kt {kind many:Nat}{number:Bool}:x9 L (uX L ex kind many number) eW:=fun a c =>
 PA.here (PA.next ((HO _ _).bind fun _ a1=>by
  have h:=Zj he many true [] a1 (c+200)
  simp only [lw,an8] at h
  refine PA.bind (h.le (by(try dsimp only); omega) fun _=>ac9 _) fun l a2=>PA.ite
   ((x_ a2 _).bind fun _ a3=>(Ds a3 _).bind fun _ a4=>(HP a4 _).bind fun _ a5=>PA.pure (by(try dsimp only); rw [FB]; simp; omega))
   ((HP a2 _).bind fun _ a3=>PA.pure (by(try dsimp only); rw [FB]; simp; omega))))
theorem WL:x9 L (oA L ex) eW:=fun a c =>
 PA.here (PA.ite (PA.next (PA.pure (by(try dsimp only); rw [FB]; simp [lw]; omega)))
  (PA.ite ((HO a c).bind fun _ a1=>(he a1 _).bind fun x a2=>(HP a2 _).bind fun _ a3=>PA.pure (by(try dsimp only); omega))
  (PA.ite (Kt he a c) (PA.ite (Kt he a c) (PA.ite (Kt he a c) (PA.ite (Kt he a c) (PA.ite (Kt he a c)
  (PA.kind ((Tg _ _).bind fun _ a1=>PA.ite
   ((Zk he (c:=c)).le (by(try dsimp only); omega) fun _=>ac9 _)
   ((Tg a1 _).bind fun _ a2=>PA.ite ((U4 he a2 _).bind fun l a3=>PA.pure (by(try dsimp only); rw [FB]; omega)) (PA.pure (by(try dsimp only); rw [FB]; simp only [lw]; omega))))))))))))
variable (hu:x9 L un eW)
include hu
theorem ag0:x9 L (uY L ex un) eW:=by
 have hs:∀kind a c,PA L (Ag L un kind) a c (fun x=>c+eW x):=fun kind a c=>PA.here ((HO a c).bind fun _ a1=>(hu a1 _).bind fun x a2=>(aDa a2 _).bind fun _ a3=>PA.pure (by(try dsimp only); rw [FB]; simp only [lw,am3]; omega))
 exact fun a c=>PA.here (PA.ite (hs _ a c) (PA.ite (hs _ a c) (PA.ite (hs _ a c) (WL he a c))))
end
theorem Th {next:PM XE}(hn:x9 L next eW) (k:Nat):∀(n:Nat) (x:XE) (a c:Nat),PA L (q7 L next k n x) a (c+eW x) (fun y=>c+eW y)
 | 0,_,_,_=>PA.fail
 | n+1,x,a,c=>PA.here (by
   cases h:oK (tk L a) k with
   | none=>exact PA.pure (ac9 _)
   | some kind =>
    refine PA.next (PA.ite ((Ds _ _).bind fun t a1=>?_) ((hn _ _).bind fun y a1=>?_))
    ·exact(Th hn k n _ a1 c).le (by(try dsimp only); rw [FB]; simp only [lw,am3]; omega) fun _=>ac9 _
    ·exact(Th hn k n _ a1 c).le (by(try dsimp only); rw [FB]; simp only [lw,am3]; omega) fun _=>ac9 _)
theorem JL {un:PM XE}(hu:x9 L un eW):∀j,x9 L (nR L un j) eW
 | 0=>hu
 | j+1=>fun a c=>(JL hu j a c).bind fun x a1=>Th (JL hu j) (6 - j) 131073 x a1 c
theorem Zm {un:PM XE}(hu:x9 L un eW):x9 L (vQ L un) eW:=fun a c =>
 (JL hu 6 a c).bind fun x a1=>PA.here (by
  cases h:oK (tk L a1) 0 with
  | none=>exact PA.pure (ac9 _)
  | some kind=>exact PA.next ((JL hu 6 _ _).bind fun y a2=>PA.pure (by(try dsimp only); rw [FB]; simp only [lw,am3]; omega)))
theorem apH:∀n,x9 L (Aq L n) eW
 | 0=>fun _ _=>PA.fail
 | n+1=>ag0 (Zm (apH n)) (apH n)
theorem Zl (n:Nat):x9 L (AE L n) eW:=Zm (apH n)
theorem U2 (n:Nat):x9 L (y9 L n) (lw eW):=fun a c=>(Zl n a c).bind fun x a1=>(x_ a1 _).bind fun _ a2=>PA.pure (by(try dsimp only); simp only [lw]; omega)
theorem agY (n pos:Nat):x9 L (pG L n pos) sW:=fun a c =>
 PA.kind ((Tg _ _).bind fun _ a1=>PA.ite
  (((Zk (Zl (n - 1)) (c:=c+200)).le (by(try dsimp only); omega) fun _=>ac9 _).bind fun x a2=>(x_ a2 _).bind fun _ a3=>PA.pure (by(try dsimp only); rw [Hq]; simp only [lw,am3]; omega))
  ((Tg a1 _).bind fun _ a2=>PA.ite
   ((U4 (Zl (n - 1)) a2 _).bind fun i a3=>(x_ a3 _).bind fun _ a4=>(U2 n a4 _).bind fun l a5=>PA.pure (by(try dsimp only); rw [Hq,abJ]; simp only [lw]; omega))
   ((x_ a2 _).bind fun _ a3=>(U2 n a3 _).bind fun l a4=>PA.pure (by(try dsimp only); rw [Hq]; simp only [lw]; omega))))
theorem apG {block:PM (List XS)}(hb:x9 L block (lw sW)) (n:Nat):x9 L (qM L block n) sW:=fun a c =>
 PA.here ((AM a c).bind fun _ a1=>PA.ite
  ((Ds a1 _).bind fun t a2=>(x_ a2 _).bind fun _ a3=>(U2 n a3 _).bind fun l a4=>PA.pure (by(try dsimp only); rw [Hq]; simp only [lw]; omega))
  ((AM a1 _).bind fun _ a2=>PA.ite
   ((OU a2 _).bind fun _ a3=>(Ds a3 _).bind fun t a4=>(x_ a4 _).bind fun _ a5=>(U5 a5 _).bind fun ty a6=>(x_ a6 _).bind fun _ a7=>PA.pure (by(try dsimp only); rw [Hq]; simp only [lw]; omega))
   ((AM a2 _).bind fun b a3=>by
    cases b
    ·exact(AM a3 _).bind fun _ a4=>PA.ite
      ((Ds a4 _).bind fun t a5=>(x_ a5 _).bind fun _ a6=>(Zl n a6 _).bind fun x a7=>(x_ a7 _).bind fun _ a8=>(Ds a8 _).bind fun m a9=>(hb a9 _).bind fun bl a10=>PA.pure (by(try dsimp only); rw [Hq]; simp only [lw]; omega))
      ((AM a4 _).bind fun b a5=>by
       cases b
       ·exact(agY n _ a5 c).le (by(try dsimp only); omega) fun _=>ac9 _
       ·exact(U2 n a5 _).bind fun l a6=>PA.pure (by(try dsimp only); rw [Hq]; simp only [lw,am3,if_true]; omega))
    ·exact(Zl n a3 _).bind fun x a4=>(hb a4 _).bind fun bl a5=>(AM a5 _).bind fun _ a6=>PA.ite
      ((hb a6 _).bind fun e a7=>PA.pure (by(try dsimp only); rw [Hq]; simp only [lw,am3,if_true]; omega))
      (PA.pure (by(try dsimp only); rw [Hq]; simp only [lw,am3,if_true]; omega)))))
theorem U6 {stmt:PM XS}(hs:x9 L stmt sW):∀(m:Nat) (l:List XS) (a c:Nat),PA L (vE L stmt m l) a (c+lw sW l) (fun l'=>c+lw sW l')
 | 0,_,_,_=>PA.fail
 | m+1,l,a,c=>(Tg a _).bind fun _ a1=>PA.ite (PA.pure (by(try dsimp only); omega)) ((hs a1 _).bind fun x a2=>(U6 hs m (l++[x]) a2 c).le (by(try dsimp only); rw [Fa]; omega) fun _=>ac9 _)
theorem OT:∀n,x9 L (rD L n) (lw sW)
 | 0=>fun _ _=>PA.fail
 | n+1=>fun a c=>(HO a c).bind fun _ a1=>by
   have h:=U6 (apG (OT n) n) 131073 [] a1 c
   simp only [lw,an8] at h
   exact(h.le (by(try dsimp only); omega) fun _=>ac9 _).bind fun l a2=>(HP a2 _).bind fun _ a3=>PA.pure (by(try dsimp only); omega)
theorem anL {p:Nat}{name:List UInt8}{ps:List XP}{has:Bool}{ty:Ty}{b:List XS}:fW ⟨p,name,ps,has,ty,b⟩=name.length+120+lw pW ps+lw sW b:=by
 simp only [fW,XF.pC,wF,aeU,UO]
theorem apF:x9 L (wH L) fW:=fun a c =>
 (x_ a c).bind fun _ a1=>(Ds a1 _).bind fun t a2=>(x_ a2 _).bind fun _ a3=>(Zn agZ a3 _).bind fun ps a4=>(x_ a4 _).bind fun _ a5=>(AM a5 _).bind fun _ a6=>PA.ite
  ((OU a6 _).bind fun _ a7=>(Q2 a7 _).bind fun ty a8=>(OT 65 a8 _).bind fun b a9=>PA.pure (by(try dsimp only); rw [anL]; omega))
  ((OT 65 a6 _).bind fun b a7=>PA.pure (by(try dsimp only); rw [anL]; omega))
theorem U3:∀(m:Nat) (l:List XF) (a c:Nat),PA L (pO L m l) a (c+lw fW l) (fun l'=>c+lw fW l')
 | 0,_,_,_=>PA.fail
 | m+1,l,a,c=>PA.here (PA.ite (PA.pure (ac9 _)) ((apF a _).bind fun f a1=>(U3 m (l++[f]) a1 c).le (by(try dsimp only); rw [Fa]; omega) fun _=>ac9 _))
end
end
section
open Go Hk
def Km (t:List UInt8):Prop:=(∃b r,t=b::r∧o6 b=true)∧(∀c∈t,isWord c=true)∧t.length≤40∧t ∉ tH
theorem Yb {d:List UInt8}{a n:Nat}{x:Token}(h:uC d a=some (x,n)) (hk:x.kind=1):Km x.text:=by
 unfold uC at h
 cases d with
 | nil=>cases h
 | cons b r =>
  simp only [] at h
  by_cases h1:o6 b=true
  ·rw [if_pos h1] at h
   split at h
   ·cases h
   ·rename_i h40
    simp only [ab3,af1] at h
    obtain⟨rfl,_⟩:=h
    have hw:¬nL (b::r)∈tH:=fun hm=>by simp [hm] at hk
    exact⟨⟨b,nL r,by simp [nL,ao5,isWord,h1],h1⟩,IF _,Nat.le_of_not_lt h40,hw⟩
  ·rw [if_neg h1] at h
   split at h
   ·split at h
    ·cases h
    ·simp only [ab3,af1] at h
     obtain⟨rfl,_⟩:=h
     cases hk
   ·split at h
    ·cases h
    ·simp only [ab3,af1] at h
     obtain⟨rfl,_⟩:=h
     cases hk
theorem V_:∀{l:List UInt8},(∀c∈l,isWord c=true)→nL l=l
 | [],_=>rfl
 | b::r,h=>by
  have ih:=V_ (l:=r) fun c hc=>h c (by simp [hc])
  unfold nL at ih ⊢
  simp [ao5,h b (by simp),ih]
theorem akZ {t:List UInt8}(h:Km t) (p:Nat):uC t p=some (⟨1,p,0,t⟩,t.length):=by
 obtain⟨⟨b,r,rfl,hb⟩,hw,h40,hm⟩:=h
 unfold uC
 simp only [V_ hw,hb,if_true]
 rw [if_neg (by omega),if_neg hm]
theorem Sg {t:List UInt8}(h:Km t):pH t=true:=by
 have h1:=akZ h 0
 obtain⟨⟨b,r,rfl,hb⟩,hw,h40,hm⟩:=h
 have hb2:=Io hb
 have e:oT (b::r)=([⟨1,0,0,b::r⟩,⟨0,(b::r).length,0,[]⟩],0,0):=by
  unfold oT
  rw [if_neg (by omega)]
  rw [rF (yJ (a:=0) (b:=b) rfl hb2.1 hb2.2) (by simp) (by rw [List.drop_zero]; exact h1) rfl]
  rw [AW]
  ·rfl
  ·have:=vK (b::r) (0+max 1 (b::r).length)
   omega
 unfold pH
 rw [e]
 simp
def TF (x:Token):Prop:=(x.kind=1→Km x.text)∧x.num≤4294967295
theorem T1 (s:List UInt8) (a:Nat) (out:List Token) (ho:∀x∈out,TF x):∀x∈(lexFrom s a out).1,TF x:=by
 fun_induction lexFrom s a out with
 | case1 a out h h3=>intro x hx; cases hx
 | case2 a out h t n h3 ih =>
  refine ih fun x hx=>?_
  rcases List.mem_append.1 hx with hx | hx
  ·exact ho x hx
  ·obtain rfl:=List.mem_singleton.1 hx
   exact⟨fun hk=>Yb h3 hk,(Vr h3).1.2.1⟩
 | case3 a out h =>
  intro x hx
  rcases List.mem_append.1 hx with hx | hx
  ·exact ho x hx
  ·obtain rfl:=List.mem_singleton.1 hx
   exact⟨fun hk=>(by cases hk),ak5 _⟩
theorem R8 (s:List UInt8):∀x∈(oT s).1,TF x:=by
 unfold oT
 split
 ·intro x hx; cases hx
 ·exact T1 s 0 [] (fun x hx=>by cases hx)
theorem Qa {t:List UInt8}(h:pH t=true):Km t:=by
 unfold pH at h
 split at h
 ·rename_i x y p hl
  have h1:=R8 t x (by rw [hl]; simp)
  simp only [am2,beq_iff_eq] at h
  exact h.2 ▸ h1.1 h.1
 ·cases h
theorem aiL (s:List UInt8) (a:Nat):TF (tk (oT s).1 a):=by
 have h:=R8 s
 unfold tk
 cases hg:(oT s).1[a]? with
 | none=>exact⟨fun hk=>(by cases hk),ak5 _⟩
 | some x=>exact h x (am4 hg)
def WA {α:Type}(x:PM α) (a d d':Nat) (R:α→Prop):Prop:=∀v a1 d1,x a d=.ok v a1 d1→d1=d'∧R v
def WP {α:Type}(x:PM α) (d d':Nat) (R:α→Prop):Prop:=∀a,WA x a d d' R
section
variable {L:List Token}{α β:Type}{R:α→Prop}{S:β→Prop}{a d d' d'':Nat}
theorem WA.bind {x:PM α}{f:α→PM β}(hx:WA x a d d' R) (hf:∀v,R v→WP (f v) d' d'' S):WA (x >>= f) a d d'' S:=by
 intro v a1 dd h
 rw [mO] at h
 unfold PM.bind at h
 cases hx1:x a d with
 | bad e p a1 d1=>rw [hx1] at h; cases h
 | ok v1 a2 d2 =>
  rw [hx1] at h
  obtain⟨rfl,hR⟩:=hx _ _ _ hx1
  exact hf v1 hR a2 _ _ _ h
theorem WP.bind {x:PM α}{f:α→PM β}(hx:WP x d d' R) (hf:∀v,R v→WP (f v) d' d'' S):WP (x >>= f) d d'' S:=fun a=>(hx a).bind hf
theorem WP.pure {v:α}(h:R v):WP (Pure.pure v:PM α) d d R:=by intro a v' a1 d1 h'; cases h'; exact⟨rfl,h⟩
theorem WP.fail {e:Nat}:WP (xY L e:PM α) d d' R:=by intro a v a1 d1 h; cases h
theorem WP.ite {c:Prop} [Decidable c] {x y:PM α}(hx:c→WP x d d' R) (hy:¬c→WP y d d' R):WP (if c then x else y) d d' R:=by
 split
 ·rename_i h; exact hx h
 ·rename_i h; exact hy h
theorem WA.ite {c:Prop} [Decidable c] {x y:PM α}(hx:c→WA x a d d' R) (hy:¬c→WA y a d d' R):WA (if c then x else y) a d d' R:=by
 split
 ·rename_i h; exact hx h
 ·rename_i h; exact hy h
theorem WA.here {f:Token→PM α}(h:WA (f (tk L a)) a d d' R):WA (o7 L >>= f) a d d' R:=fun v a1 d1 h'=>h v a1 d1 h'
theorem WA.next {f:Unit→PM α}(h:WP (f ()) d d' R):WA (w_ >>= f) a d d' R:=fun v a1 d1 h'=>h (a+1) v a1 d1 h'
theorem WP.mono {x:PM α}{R':α→Prop}(h:WP x d d' R) (hm:∀v,R v→R' v):WP x d d' R':=fun a v a1 d1 h'=>⟨(h a v a1 d1 h').1,hm v (h a v a1 d1 h').2⟩
abbrev TT {α:Type}:α→Prop:=fun _=>True
theorem QE:WP (o7 L) d d TT:=by intro a v a1 d1 h; cases h; exact⟨rfl,trivial⟩
theorem UP {w:List UInt8}:WP (EF L w) d d TT:=by intro a v a1 d1 h; cases h; exact⟨rfl,trivial⟩
theorem aFi:WP pUp (d+1) d TT:=by intro a v a1 d1 h; cases h; exact⟨rfl,trivial⟩
theorem A1 {w:List UInt8}:WP (o9 L w) d d TT:=by intro a v a1 d1 h; cases h; exact⟨rfl,trivial⟩
theorem yH {w:List UInt8}:WP (oQ L w) d d TT:=by
 intro a v a1 d1 h; unfold oQ at h
 split at h
 ·cases h; exact⟨rfl,trivial⟩
 ·cases h
theorem IT {w:List UInt8}(hd:d≤64):WP (tS L w) d (d+1) (fun _=>d+1≤64):=by
 intro a v a1 d1 h; unfold tS at h
 split at h
 ·split at h
  ·cases h
  ·cases h; exact⟨rfl,by omega⟩
 ·cases h
theorem IU {w:List UInt8}:WP (tT L w) (d+1) d TT:=by
 intro a v a1 d1 h; unfold tT at h
 split at h
 ·cases h; exact⟨rfl,trivial⟩
 ·cases h
theorem Kf {k:Nat}:WA (qO L k) a d d (fun t=>t=tk L a∧t.kind=k):=by
 intro v a1 d1 h; unfold qO at h
 split at h
 ·rename_i hk; cases h; exact⟨rfl,rfl,hk⟩
 ·cases h
theorem QG:WP (rO L) d d (fun l=>l=0∨l=1):=by
 intro a v a1 d1 h; unfold rO at h
 split at h
 ·cases h; exact⟨rfl,.inr rfl⟩
 ·split at h
  ·cases h; exact⟨rfl,.inl rfl⟩
  ·cases h
theorem S8 {l:Nat}(hl:l=0∨l=1):WP (pR L l) d d (fun t=>rV t.pC=true∧t.len=0∧t.elem≠2∧t.label=l):=by
 intro a v a1 d1 h; unfold pR at h
 split at h
 ·cases h; refine⟨rfl,?_,rfl,(fun h=>by cases h),rfl⟩; rcases hl with rfl | rfl <;> decide
 ·split at h
  ·cases h; refine⟨rfl,?_,rfl,(fun h=>by cases h),rfl⟩; rcases hl with rfl | rfl <;> decide
  ·cases h
variable (hT:∀a,TF (tk L a))
include hT
theorem Fo:WP (qO L 1) d d (fun t=>pH t.text=true):=fun a v a1 d1 h=>by
 obtain⟨h1,h2,h3⟩:=Kf v a1 d1 h
 exact⟨h1,by subst h2; exact Sg ((hT a).1 h3)⟩
theorem QF:WP (qO L 2) d d (fun t=>t.num≤4294967295):=fun a v a1 d1 h=>by
 obtain⟨h1,h2,h3⟩:=Kf v a1 d1 h
 exact⟨h1,by subst h2; exact(hT a).2⟩
theorem ae0:WP (xZ L) d d (fun n=>n≠0∧n≤4294967295):=by
 unfold xZ
 refine yH.bind fun _ _ a=>WA.here (WA.ite (fun _=>WP.fail a) fun h=>WA.bind Kf fun n hn=>yH.bind fun _ _=>WP.pure ?_)
 obtain⟨rfl,hk⟩:=hn
 exact⟨fun h0=>h ⟨hk,h0⟩,(hT a).2⟩
theorem Wq {l:Nat}(hl:l=0∨l=1):WP (uL L l) d d (fun t=>rV t.pC=true):=by
 unfold uL
 refine A1.bind fun _ _=>WP.ite (fun _=>(ae0 hT).bind fun n hn=>WP.pure ?_) fun _=>(S8 hl).bind fun t ht=>WP.ite (fun he=>UP.bind fun _ _=>WP.ite (fun _=>(ae0 hT).bind fun n hn=>WP.pure ?_) fun _=>WP.pure ht.1) fun _=>WP.pure ht.1
 ·rcases hl with rfl | rfl <;> simp [rV,Ty.pC,vB] <;> omega
 ·rcases hl with rfl | rfl <;> simp [rV,Ty.pC,vB,he,ht.2.2.2] <;> omega
theorem amD:WP (sM L) d d (fun p=>uF p.pC=true):=by
 unfold sM
 refine A1.bind fun _ _=>QG.bind fun l hl=>(Fo hT).bind fun t ht=>yH.bind fun _ _=>(Wq hT hl).bind fun ty hty=>WP.pure ?_
 simp [uF,XP.pC,ht,hty]
omit hT
theorem ER {l:List α}{x:α}(hl:∀y∈l,R y) (hx:R x):∀y∈l++[x],R y:=fun y hy=>by
 rcases List.mem_append.1 hy with hy | hy
 ·exact hl y hy
 ·rw [List.mem_singleton.1 hy]; exact hx
theorem DO:∀y∈([]:List α),R y:=fun y hy=>by cases hy
theorem ae1 {one:PM α}(h1:WP one d d R):∀(n:Nat) (l:List α),(∀x∈l,R x)→WP (vD L one n l) d d (fun l=>∀x∈l,R x)
 | 0,_,_=>WP.fail
 | n+1,l,hl=>h1.bind fun x hx=>A1.bind fun _ _=>WP.ite (fun _=>ae1 h1 n _ (ER hl hx)) fun _=>WP.pure (ER hl hx)
theorem aeZ {one:PM α}{w:List UInt8}(h1:WP one d d R):WP (vW L w one) d d (fun l=>∀x∈l,R x) :=
 UP.bind fun _ _=>WP.ite (fun _=>WP.pure DO) fun _=>ae1 h1 _ _ DO
end
def EW (d:Nat) (x:XE):Prop:=mY x.pC=true∧d+lS x.pC≤64
def CW (d t:Nat) (x:XE):Prop:=EW d x∧(t≤lD x.pC.kind∨d+lS x.pC+1≤64)
theorem zL:∀x:GE,(lU x).1=x.kind
 | .mk ..=>rfl
theorem ae2:∀{l:List XE},(∀x∈l,mY x.pC=true)→mZ (XE.pY l)=true
 | [],_=>rfl
 | x::r,h=>by simp [XE.pY,mZ,h x (by simp),ae2 (l:=r) fun y hy=>h y (by simp [hy])]
theorem acR {n:Nat}:∀{l:List XE},(∀x∈l,lS x.pC≤n)→uR (rP (XE.pY l))≤n
 | [],_=>ak5 _
 | x::r,h=>Nat.max_le.2 ⟨h x (by simp),acR (l:=r) fun y hy=>h y (by simp [hy])⟩
theorem aeO (l:List XE):(XE.pY l).length=l.length:=by rw [XE.CG,ak1]
theorem YF (k:Int):lD k≤8:=by
 unfold lD
 cases h:([8,8,8,8,8,8,8,8,6,6,7,4,2,3,5,5,8,1,1,1,1,1,1,8,8,8,8]:List Nat)[k.toNat]? with
 | none=>exact ac9 _
 | some x=>exact(by decide:∀x∈([8,8,8,8,8,8,8,8,6,6,7,4,2,3,5,5,8,1,1,1,1,1,1,8,8,8,8]:List Nat),x≤8) x (am4 h)
theorem Hj {b:Bool}{p:Part}{m:Nat}(h:p.2.2≤m) (h2:b=true∨p.2.2+1≤m):qP b p≤m:=by
 unfold qP
 cases b
 ·rcases h2 with h2 | h2
  ·cases h2
  ·exact h2
 ·exact h
section
variable {L:List Token}{d:Nat}(hT:∀a,TF (tk L a))
section
variable {ex un:PM XE}(he:∀d,d≤64→WP ex d d (EW d)) (hu:∀d,d≤64→WP un d d (CW d 8))
include he
theorem Wp (hd:d≤64):WP (tF L ex) d d (fun l=>∃x,l=[x]∧EW (d+1) x):=by
 unfold tF
 exact(IT hd).bind fun _ h=>(he _ h).bind fun x hx=>IU.bind fun _ _=>WP.pure ⟨x,rfl,hx⟩
theorem aeW (hd:d≤64) {t:Token}(ht:pH t.text=true):WP (xX L ex t) d d (fun x=>CW d 8 x∧x.pC.kind=4):=by
 unfold xX
 refine(IT hd).bind fun _ h=>(aeZ (he _ h)).bind fun l hl=>IU.bind fun _ _=>WP.pure ?_
 have h1:=ae2 fun x hx=>(hl x hx).1
 have h2:=acR (l:=l) (n:=63 - d) fun x hx=>by have:=(hl x hx).2; omega
 refine⟨⟨⟨?_,?_⟩,.inl (ac9 8)⟩,rfl⟩
 ·simp [XE.pC,mY,rK,uB,lM,lF,ht,h1]
 ·show d+(uR (rP (XE.pY l))+1)≤64
  omega
theorem aeV (hd:d≤64):∀(n:Nat) (b:Bool) (l:List XE),(∀x∈l,EW d x)→WP (rT L ex n b l) d d (fun r=>(∀x∈r,EW d x)∧r.length=l.length+n)
 | 0,_,l,hl=>WP.pure ⟨hl,rfl⟩
 | n+1,b,l,hl=>by
  unfold rT
  have h1:WP (do let x ←ex; rT L ex n false (l++[x]):PM (List XE)) d d (fun r=>(∀x∈r,EW d x)∧r.length=l.length+(n+1)) :=
   (he _ hd).bind fun x hx=>(aeV hd n _ _ (ER hl hx)).mono fun r hr=>⟨hr.1,by rw [hr.2]; simp; omega⟩
  cases b
  ·exact yH.bind fun _ _=>h1
  ·exact(WP.pure (v:=PUnit.unit) (R:=TT) trivial).bind fun _ _=>h1
include hT
theorem HD {kind many a:Nat}{number:Bool}(hd:d≤64) (h8:lD kind=8) (hk:∀n:Nat,n≤4294967295→(number=false→n=0)→rK kind n [] many=true) (hn:∀l,wG kind l=uR l+1) :
  WA (uX L ex kind many number) a d d (CW d 8):=by
 unfold uX
 refine WA.here (WA.next ((IT hd).bind fun _ h=>(aeV he h _ _ _ DO).bind fun l hl=>?_))
 have fin:∀(n p:Nat),n≤4294967295→(number=false→n=0)→CW d 8 (.mk kind p n [] l):=fun n p h1 h2=>by
  have e1:=ae2 fun x hx=>(hl.1 x hx).1
  have e2:=acR (l:=l) (n:=63 - d) fun x hx=>by have:=(hl.1 x hx).2; omega
  have e3:(XE.pY l).length=many:=by rw [aeO,hl.2]; simp
  refine⟨⟨?_,?_⟩,.inl (Nat.le_of_eq h8.symm)⟩
  ·show(rK kind n [] (XE.pY l).length && mZ (XE.pY l))=true
   rw [e3,hk n h1 h2,e1]; rfl
  ·show d+wG kind (rP (XE.pY l))≤64
   rw [hn]; omega
 exact WP.ite (fun hb=>yH.bind fun _ _=>(QF hT).bind fun n hn=>IU.bind fun _ _=>WP.pure (fin _ _ hn fun h=>by rw [hb] at h; cases h)) fun _=>IU.bind fun _ _=>WP.pure (fin 0 _ (ak5 _) fun _=>rfl)
theorem YJ (hd:d≤64):WP (oA L ex) d d (CW d 8):=by
 unfold oA
 intro a
 have z:∀(k many:Nat),rK k 0 [] many=true→∀n:Nat,n≤4294967295→(false=false→n=0)→rK k n [] many=true:=fun k many h n _ h0=>by rw [h0 rfl]; exact h
 refine WA.here (WA.ite (fun h=>WA.next (WP.pure ?_)) fun _=>WA.ite (fun h=>(IT hd).bind (fun _ h=>(he _ h).bind fun x hx=>IU.bind fun _ _=>WP.pure ?_) a) fun _ =>
  WA.ite (fun _=>HD hT he hd rfl (z _ _ rfl) fun _=>rfl) fun _=>WA.ite (fun _=>HD hT he hd rfl (z _ _ rfl) fun _=>rfl) fun _ =>
  WA.ite (fun _=>HD hT he hd rfl (z _ _ rfl) fun _=>rfl) fun _=>WA.ite (fun _=>HD hT he hd rfl (z _ _ rfl) fun _=>rfl) fun _ =>
  WA.ite (fun _=>HD hT he hd rfl ?_ fun _=>rfl) fun _=>WA.bind Kf fun t ht=>?_)
 ·refine⟨⟨?_,?_⟩,.inl (ac9 8)⟩
  ·have:=(hT a).2
   simp [XE.pC,XE.pY,mY,mZ,rK,uB,lM,lF,vB]; omega
  ·show d+0≤64
   omega
 ·exact⟨⟨hx.1,by have:=hx.2; omega⟩,.inr (by have:=hx.2; omega)⟩
 ·intro n hn _
  simp [rK,uB,lM,lF,vB]; omega
 ·have hn:pH (tk L a).text=true:=Sg ((hT a).1 (ht.1 ▸ ht.2))
  refine UP.bind fun _ _=>WP.ite (fun _=>(aeW he hd hn).mono fun v hv=>hv.1) fun _=>UP.bind fun _ _=>WP.ite (fun _=>(Wp he hd).bind fun l hl=>WP.pure ?_) fun _=>WP.pure ?_
  ·obtain⟨x,rfl,hx⟩:=hl
   refine⟨⟨?_,?_⟩,.inl (ac9 8)⟩
   ·simp [XE.pC,XE.pY,mY,mZ,rK,uB,lM,lF,hn,hx.1]
   ·show d+(lS x.pC+1)≤64
    have:=hx.2; omega
  ·refine⟨⟨?_,?_⟩,.inl (ac9 8)⟩
   ·simp [XE.pC,XE.pY,mY,mZ,rK,uB,lM,lF,hn]
   ·show d+0≤64
    omega
include hu
theorem UR {kind:Nat}(hk:kind=5∨kind=6∨kind=7) (hd:d≤64):WP (Ag L un kind) d d (CW d 8):=by
 unfold Ag
 refine QE.bind fun t _=>(IT hd).bind fun _ h=>(hu _ h).bind fun x hx=>aFi.bind fun _ _=>WP.pure ?_
 obtain⟨⟨h1,h2⟩,h3⟩:=hx
 have e:wG kind [lU x.pC]=qP (decide (lD x.pC.kind=8)) (lU x.pC)+1:=by
  rw [←zL]; rcases hk with rfl | rfl | rfl <;> rfl
 have h8:=YF x.pC.kind
 refine⟨⟨?_,?_⟩,.inl ?_⟩
 ·rcases hk with rfl | rfl | rfl <;> simp [XE.pC,XE.pY,mY,mZ,rK,uB,lM,lF,h1]
 ·show d+wG kind [lU x.pC]≤64
  rw [e]
  have:=Hj (b:=decide (lD x.pC.kind=8)) (p:=lU x.pC) (m:=63 - d) (by show lS x.pC≤_; omega) (by
   rcases h3 with h3 | h3
   ·exact .inl (decide_eq_true (by omega))
   ·exact .inr (by show lS x.pC+1≤_; omega))
  omega
 ·rcases hk with rfl | rfl | rfl <;> exact ac9 8
theorem amE (hd:d≤64):WP (uY L ex un) d d (CW d 8):=by
 unfold uY
 exact QE.bind fun t _=>WP.ite (fun _=>UR hT he hu (.inl rfl) hd) fun _=>WP.ite (fun _=>UR hT he hu (.inr (.inl rfl)) hd) fun _=>WP.ite (fun _=>UR hT he hu (.inr (.inr rfl)) hd) fun _=>YJ hT he hd
end
theorem XA {w:List UInt8}{n kd:Nat}(hl:nT w=some (n,kd)):(n,kd)∈([(0,17),(0,18),(0,19),(0,20),(0,21),(0,22),(1,12),(2,13),(3,11),(4,14),(4,15),(5,8),(5,9),(6,10)]:List (Nat×Nat)):=by
 unfold nT at hl
 by_cases h0:w=[61,61]
 ·rw [if_pos h0] at hl; cases hl; decide
 rw [if_neg h0] at hl
 by_cases h1:w=[33,61]
 ·rw [if_pos h1] at hl; cases hl; decide
 rw [if_neg h1] at hl
 by_cases h2:w=[60]
 ·rw [if_pos h2] at hl; cases hl; decide
 rw [if_neg h2] at hl
 by_cases h3:w=[60,61]
 ·rw [if_pos h3] at hl; cases hl; decide
 rw [if_neg h3] at hl
 by_cases h4:w=[62]
 ·rw [if_pos h4] at hl; cases hl; decide
 rw [if_neg h4] at hl
 by_cases h5:w=[62,61]
 ·rw [if_pos h5] at hl; cases hl; decide
 rw [if_neg h5] at hl
 by_cases h6:w=[124]
 ·rw [if_pos h6] at hl; cases hl; decide
 rw [if_neg h6] at hl
 by_cases h7:w=[94]
 ·rw [if_pos h7] at hl; cases hl; decide
 rw [if_neg h7] at hl
 by_cases h8:w=[38]
 ·rw [if_pos h8] at hl; cases hl; decide
 rw [if_neg h8] at hl
 by_cases h9:w=[60,60]
 ·rw [if_pos h9] at hl; cases hl; decide
 rw [if_neg h9] at hl
 by_cases h10:w=[62,62]
 ·rw [if_pos h10] at hl; cases hl; decide
 rw [if_neg h10] at hl
 by_cases h11:w=[43]
 ·rw [if_pos h11] at hl; cases hl; decide
 rw [if_neg h11] at hl
 by_cases h12:w=[45]
 ·rw [if_pos h12] at hl; cases hl; decide
 rw [if_neg h12] at hl
 by_cases h13:w=[42]
 ·rw [if_pos h13] at hl; cases hl; decide
 rw [if_neg h13] at hl
 cases hl
theorem Mp {t:Token}{k kind:Nat}(h:oK t k=some kind):lD kind=k+1∧k≤6∧((kind=14∨kind=15)→∀n:Nat,n≤4294967295→rK kind n [] 1=true)∧(¬(kind=14∨kind=15)→rK kind 0 [] 2=true):=by
 unfold oK at h
 split at h
 ·split at h
  ·rename_i n kd hl
   split at h
   ·rename_i hn
    simp only [ab3] at h
    subst h; subst hn
    have hm:=XA hl
    simp only [List.mem_cons,af1,List.not_mem_nil,or_false] at hm
    rcases hm with ⟨rfl,rfl⟩ | ⟨rfl,rfl⟩ | ⟨rfl,rfl⟩ | ⟨rfl,rfl⟩ | ⟨rfl,rfl⟩ | ⟨rfl,rfl⟩ | ⟨rfl,rfl⟩ | ⟨rfl,rfl⟩ | ⟨rfl,rfl⟩ | ⟨rfl,rfl⟩ | ⟨rfl,rfl⟩ | ⟨rfl,rfl⟩ | ⟨rfl,rfl⟩ | ⟨rfl,rfl⟩
    all_goals (refine⟨rfl,by omega,fun h n hn=>?_,fun h=>?_⟩)
    all_goals (first | rfl | (exfalso; omega) | (simp [rK,uB,lM,lF,vB]; omega))
   ·cases h
  ·cases h
 ·cases h
theorem ZI {kind p:Nat}{x y:XE}{t:Nat}(ht:lD kind=t) (h7:t≤7) (hk:rK kind 0 [] 2=true) (hx:EW d x) (Nq:(t < lD x.pC.kind∨lD x.pC.kind=t∧1 < t)∨d+lS x.pC+1≤64) (hy:CW d (t+1) y) :
  CW d t (.mk kind p 0 [] [x,y]):=by
 obtain⟨⟨y1,y2⟩,y3⟩:=hy
 refine⟨⟨?_,?_⟩,.inl (Nat.le_of_eq ht.symm)⟩
 ·show(rK kind 0 [] 2 && (mY x.pC && (mY y.pC && true)))=true
  simp [hk,hx.1,y1]
 ·show d+wG kind [lU x.pC,lU y.pC]≤64
  have e:wG kind [lU x.pC,lU y.pC]=max (qP (mK t (lU x.pC).1) (lU x.pC)) (qP (decide (t < lD (lU y.pC).1)) (lU y.pC)):=by
   unfold wG
   rw [ht,if_pos (by omega)]
  rw [e,zL,zL]
  have a1:=Hj (b:=mK t x.pC.kind) (p:=lU x.pC) (m:=64 - d) (by have:=hx.2; show lS x.pC≤_; omega) (by
   rcases Nq with h | h
   ·exact .inl (decide_eq_true h)
   ·exact .inr (by show lS x.pC+1≤_; omega))
  have a2:=Hj (b:=decide (t < lD y.pC.kind)) (p:=lU y.pC) (m:=64 - d) (by show lS y.pC≤_; omega) (by
   rcases y3 with h | h
   ·exact .inl (decide_eq_true (by omega))
   ·exact .inr (by show lS y.pC+1≤_; omega))
  have:=hx.2
  omega
theorem ad9 {kind p n:Nat}{x:XE}{t:Nat}(ht:lD kind=t) (h7:t≤7) (hk:rK kind n [] 1=true) (hx:EW d x) (Nq:(t < lD x.pC.kind∨lD x.pC.kind=t∧1 < t)∨d+lS x.pC+1≤64) :
  CW d t (.mk kind p n [] [x]):=by
 refine⟨⟨?_,?_⟩,.inl (Nat.le_of_eq ht.symm)⟩
 ·show(rK kind n [] 1 && (mY x.pC && true))=true
  simp [hk,hx.1]
 ·show d+wG kind [lU x.pC]≤64
  have e:wG kind [lU x.pC]=qP (mK t (lU x.pC).1) (lU x.pC):=by
   unfold wG
   rw [ht,if_pos (by omega)]
  rw [e,zL]
  have a1:=Hj (b:=mK t x.pC.kind) (p:=lU x.pC) (m:=64 - d) (by have:=hx.2; show lS x.pC≤_; omega) (by
   rcases Nq with h | h
   ·exact .inl (decide_eq_true h)
   ·exact .inr (by show lS x.pC+1≤_; omega))
  have:=hx.2
  omega
include hT
theorem UQ {next:PM XE}{k:Nat}(hk:1≤k) (hn:WP next d d (CW d (k+2))):∀(n:Nat) (x:XE),CW d (k+1) x→WP (q7 L next k n x) d d (CW d (k+1))
 | 0,_,_=>WP.fail
 | n+1,x,hx=>by
  unfold q7
  intro a
  refine WA.here ?_
  have Nq:(k+1 < lD x.pC.kind∨lD x.pC.kind=k+1∧1 < k+1)∨d+lS x.pC+1≤64:=by
   rcases hx.2 with h | h
   ·left; omega
   ·exact .inr h
  cases hs:oK (tk L a) k with
  | none=>exact WP.pure hx a
  | some kind =>
   obtain⟨h1,h2,h3,h4⟩:=Mp hs
   exact WA.next (WP.ite (fun h=>(QF hT).bind fun c hc=>UQ hk hn n _ (ad9 h1 (by omega) (h3 h _ hc) hx.1 Nq)) fun h=>hn.bind fun y hy=>UQ hk hn n _ (ZI h1 (by omega) (h4 h) hx.1 Nq hy))
theorem Wm {un:PM XE}(hu:WP un d d (CW d 8)):∀j,j≤6→WP (nR L un j) d d (CW d (8 - j))
 | 0,_=>hu
 | j+1,hj=>by
  have h1:=Wm hu j (by omega)
  have e:8 - j=6 - j+2:=by omega
  have e2:8 - (j+1)=6 - j+1:=by omega
  rw [e] at h1
  rw [e2]
  exact h1.bind fun x hx=>UQ hT (by omega) h1 _ _ ⟨hx.1,by rcases hx.2 with h | h; (left; omega); exact .inr h⟩
theorem aeY {un:PM XE}(hu:WP un d d (CW d 8)):WP (vQ L un) d d (EW d):=by
 unfold vQ
 have h6:=Wm hT hu 6 (ac9 _)
 refine h6.bind fun x hx a=>WA.here ?_
 cases hs:oK (tk L a) 0 with
 | none=>exact WP.pure hx.1 a
 | some kind =>
  obtain⟨h1,h2,h3,h4⟩:=Mp hs
  have hne:¬(kind=14∨kind=15):=fun h=>by rcases h with rfl | rfl <;> exact absurd h1 (by decide)
  exact WA.next (h6.bind fun y hy=>WP.pure (ZI (t:=1) h1 (by omega) (h4 hne) hx.1 (by rcases hx.2 with h | h; (left; left; omega); exact .inr h) hy).1)
theorem av6:∀n d,d≤64→WP (Aq L n) d d (CW d 8)
 | 0,_,_=>WP.fail
 | n+1,d,hd=>amE hT (fun d hd=>aeY hT (av6 n d hd)) (av6 n) hd
theorem aeX (n d:Nat) (hd:d≤64):WP (AE L n) d d (EW d):=aeY hT (av6 hT n d hd)
end
end
section
open Go Hk
def SW (d:Nat) (s:XS):Prop:=pQ s.pC=true∧d+qN s.pC≤64
def BW (d:Nat) (l:List XS):Prop:=oI (XS.pY l)=true∧d+(pV (nZ (XS.pY l))+1)≤64
theorem MK:∀{l:List XS},(∀x∈l,pQ x.pC=true)→oI (XS.pY l)=true
 | [],_=>rfl
 | x::r,h=>by simp [XS.pY,oI,h x (by simp),MK (l:=r) fun y hy=>h y (by simp [hy])]
theorem On {n:Nat}:∀{l:List XS},(∀x∈l,qN x.pC≤n)→pV (nZ (XS.pY l))≤n
 | [],_=>ak5 _
 | x::r,h=>Nat.max_le.2 ⟨h x (by simp),On (l:=r) fun y hy=>h y (by simp [hy])⟩
section
variable {L:List Token}{d:Nat}(hT:∀a,TF (tk L a))
include hT
theorem Wn (n:Nat) (hd:d≤64):WP (y9 L n) d d (fun l=>∃x,l=[x]∧EW d x):=by
 unfold y9
 exact(aeX hT n d hd).bind fun x hx=>yH.bind fun _ _=>WP.pure ⟨x,rfl,hx⟩
theorem amC (n pos:Nat) (hd:d≤64):WP (pG L n pos) d d (SW d):=by
 unfold pG
 refine(Fo hT).bind fun t ht=>UP.bind fun _ _=>WP.ite (fun _=>(aeW (aeX hT _) hd ht).bind fun c hc=>yH.bind fun _ _=>WP.pure ?_) fun _=>UP.bind fun _ _ =>
  WP.ite (fun _=>(Wp (aeX hT _) hd).bind fun i hi=>yH.bind fun _ _=>(Wn hT n hd).bind fun l hl=>WP.pure ?_) fun _=>yH.bind fun _ _=>(Wn hT n hd).bind fun l hl=>WP.pure ?_
 ·obtain⟨⟨⟨h1,h2⟩,_⟩,h3⟩:=hc
  refine⟨?_,h2⟩
  simp [XS.pC,XS.pY,XE.pY,pQ,oI,lW,lO,lM,mZ,lF,Ty.pC,GT.zero,Rm,h1,h3]
 ·obtain⟨x,rfl,h1,h2⟩:=hi
  obtain⟨y,rfl,h3,h4⟩:=hl
  refine⟨?_,?_⟩
  ·simp [XS.pC,XS.pY,XE.pY,pQ,oI,lW,lO,lM,mZ,lF,Ty.pC,GT.zero,h1,h3,ht]
  ·show d+max (lS x.pC+1) (lS y.pC)≤64
   omega
 ·obtain⟨y,rfl,h3,h4⟩:=hl
  refine⟨?_,h4⟩
  simp [XS.pC,XS.pY,XE.pY,pQ,oI,lW,lO,lM,mZ,lF,Ty.pC,GT.zero,h3,ht]
theorem av5 {block:PM (List XS)}(hb:WP block d d (BW d)) (n:Nat) (hd:d≤64):WP (qM L block n) d d (SW d):=by
 unfold qM
 refine QE.bind fun t _=>A1.bind fun _ _=>WP.ite (fun _=>(Fo hT).bind fun nm hn=>yH.bind fun _ _=>(Wn hT n hd).bind fun l hl=>WP.pure ?_) fun _=>A1.bind fun _ _ =>
  WP.ite (fun _=>QG.bind fun lab hlab=>(Fo hT).bind fun nm hn=>yH.bind fun _ _=>(Wq hT hlab).bind fun ty hty=>yH.bind fun _ _=>WP.pure ?_) fun _=>A1.bind fun _ _ =>
  WP.ite (fun _=>(aeX hT n d hd).bind fun x hx=>hb.bind fun b hb1=>A1.bind fun _ _=>WP.ite (fun _=>hb.bind fun e he=>WP.pure ?_) fun _=>WP.pure ?_) fun _=>A1.bind fun _ _ =>
  WP.ite (fun _=>(Fo hT).bind fun nm hn=>yH.bind fun _ _=>(aeX hT n d hd).bind fun x hx=>yH.bind fun _ _=>(QF hT).bind fun m hm=>hb.bind fun b hb1=>WP.pure ?_) fun _=>A1.bind fun _ _ =>
  WP.ite (fun _=>(Wn hT n hd).bind fun l hl=>WP.pure ?_) fun _=>amC hT n _ hd
 ·obtain⟨y,rfl,h3,h4⟩:=hl
  refine⟨?_,h4⟩
  simp [XS.pC,XS.pY,XE.pY,pQ,oI,lW,lO,lM,mZ,lF,Ty.pC,GT.zero,h3,hn]
 ·refine⟨?_,by show d+0≤64; omega⟩
  simp [XS.pC,XS.pY,XE.pY,pQ,oI,lW,lO,lM,mZ,lF,hn,hty]
 ·obtain⟨h1,h2⟩:=hx
  obtain⟨h3,h4⟩:=hb1
  obtain⟨h5,h6⟩:=he
  refine⟨?_,?_⟩
  ·simp [XS.pC,XE.pY,pQ,lW,lO,lM,mZ,lF,Ty.pC,GT.zero,h1,h3,h5]
  ·show d+max (lS x.pC) (max (pV (nZ (XS.pY b))+1) (pV (nZ (XS.pY e))+1))≤64
   omega
 ·obtain⟨h1,h2⟩:=hx
  obtain⟨h3,h4⟩:=hb1
  refine⟨?_,?_⟩
  ·simp [XS.pC,XE.pY,XS.pY,oI,pQ,lW,lO,lM,mZ,lF,Ty.pC,GT.zero,h1,h3]
  ·show d+max (lS x.pC) (pV (nZ (XS.pY b))+1)≤64
   omega
 ·obtain⟨h1,h2⟩:=hx
  obtain⟨h3,h4⟩:=hb1
  refine⟨?_,?_⟩
  ·simp [XS.pC,XE.pY,XS.pY,oI,pQ,lW,lO,lM,mZ,lF,vB,Ty.pC,GT.zero,h1,h3,hn]; omega
  ·show d+max (lS x.pC) (pV (nZ (XS.pY b))+1)≤64
   omega
 ·obtain⟨y,rfl,h3,h4⟩:=hl
  refine⟨?_,h4⟩
  simp [XS.pC,XS.pY,XE.pY,pQ,oI,lW,lO,lM,mZ,lF,Ty.pC,GT.zero,h3]
omit hT in
theorem Wr {stmt:PM XS}(hs:WP stmt d d (SW d)):∀(m:Nat) (l:List XS),(∀x∈l,SW d x)→WP (vE L stmt m l) d d (fun l=>∀x∈l,SW d x)
 | 0,_,_=>WP.fail
 | m+1,l,hl=>UP.bind fun _ _=>WP.ite (fun _=>WP.pure hl) fun _=>hs.bind fun x hx=>Wr hs m _ (ER hl hx)
theorem QD:∀n d,d≤64→WP (rD L n) d d (BW d)
 | 0,_,_=>WP.fail
 | n+1,d,hd=>(IT hd).bind fun _ h=>(Wr (av5 hT (QD n _ h) n h) _ _ DO).bind fun l hl=>IU.bind fun _ _=>WP.pure
   ⟨MK fun x hx=>(hl x hx).1,by
    have:=On (l:=l) (n:=63 - d) fun x hx=>by have:=(hl x hx).2; omega
    omega⟩
def FW (f:XF):Prop:=qE f.pC=true∧wD f.pC≤64
theorem av4:WP (wH L) 0 0 FW:=by
 unfold wH
 refine yH.bind fun _ _=>(Fo hT).bind fun nm hn=>yH.bind fun _ _=>(aeZ (amD hT)).bind fun ps hps=>yH.bind fun _ _=>A1.bind fun _ _ =>
  WP.ite (fun _=>QG.bind fun l hl=>(S8 hl).bind fun ty hty=>(QD hT 65 0 (by omega)).bind fun b hb=>WP.pure ?_) fun _=>(QD hT 65 0 (by omega)).bind fun b hb=>WP.pure ?_
 ·obtain⟨h1,h2⟩:=hb
  have h3:ty.pC.len=0:=by show(ty.len:Int)=0; rw [hty.2.1]; rfl
  have h4:ty.pC.elem≠2:=fun h=>hty.2.2.1 (by have:(ty.elem:Int)=2:=h; omega)
  refine⟨?_,by show pV (nZ (XS.pY b))+1≤64; omega⟩
  simp [XF.pC,qE,hn,h1,hty.1,h3,h4]
  exact hps
 ·obtain⟨h1,h2⟩:=hb
  refine⟨?_,by show pV (nZ (XS.pY b))+1≤64; omega⟩
  simp [XF.pC,qE,hn,h1,Ty.pC,GT.zero]
  exact hps
theorem Wo:∀(m:Nat) (l:List XF),(∀x∈l,FW x)→WP (pO L m l) 0 0 (fun l=>∀x∈l,FW x)
 | 0,_,_=>WP.fail
 | m+1,l,hl=>QE.bind fun _ _=>WP.ite (fun _=>WP.pure hl) fun _=>(av4 hT).bind fun x hx=>Wo m _ (ER hl hx)
end
theorem EH (s:List UInt8):((nM s).1.map XF.pC).all qE=true∧pV (((nM s).1.map XF.pC).map wD)≤64:=by
 have h:∀x∈(nM s).1,FW x:=by
  unfold nM
  split
  ·cases hp:pO (oT s).1 131073 [] 0 0 with
   | bad e p a d=>exact DO
   | ok l a d=>exact(Wo (aiL s) _ _ DO 0 l a d hp).2
  ·exact DO
 have h2:∀{l:List XF},(∀x∈l,FW x)→pV ((l.map XF.pC).map wD)≤64:=fun {l}=>by
  induction l with
  | nil=>intro _; exact ak5 _
  | cons x r ih=>intro h; exact Nat.max_le.2 ⟨(h x (by simp)).2,ih fun y hy=>h y (by simp [hy])⟩
 refine⟨?_,h2 h⟩
 rw [List.all_map,ag3]
 exact fun x hx=>(h x hx).1
theorem DT (s:List UInt8):xQ ((nM s).1.map XF.pC)=((((nM s).1.map XF.pC).map qI).flatten,0):=by
 have h:=EH s
 unfold xQ
 rw [if_pos h.1,if_neg (by omega)]
end
section
open Go Hk

end
section
open Go Hk
inductive rJ:List UInt8→List Token→Prop
 | nil:rJ [] []
 | blank {c:UInt8}{r:List UInt8}{T:List Token}(h:qL c=true) (k:rJ r T):rJ (c::r) T
 | tok {b:UInt8}{w r:List UInt8}{x:Token}{T:List Token}(h1:qL b=false) (h2:b≠47) (h3:∀p,uC (b::(w++r)) p=some (Dh x p,w.length+1)) (h0:x.pos=0) (k:rJ r T):rJ (b::(w++r)) (x::T)
def sk (x:Token):Token:=Dh x 0
theorem abG {d:List UInt8}{T:List Token}(h:rJ d T):∀(s:List UInt8) (a:Nat) (out:List Token),a≤s.length→s.drop a=d →
  ∃T',lexFrom s a out=(out++T'++[⟨0,s.length,0,[]⟩],0,0)∧T'.map sk=T.map sk:=by
 induction h with
 | nil =>
  intro s a out ha hd
  have hge:s.length≤a:=by simpa using hd
  have:=vK s a
  exact⟨[],by rw [AW (by omega)]; simp,rfl⟩
 | @blank c r T h k ih =>
  intro s a out ha hd
  have hlt:a < s.length:=by
   rcases Nat.lt_or_ge a s.length with hx | hx
   ·exact hx
   ·rw [List.drop_eq_nil_of_le hx] at hd; cases hd
  have hc:s[a]=c:=by
   have:=aj8 hlt
   rw [hd] at this
   exact(List.cons.inj this).1.symm
  have hd2:s.drop (a+1)=r:=by
   have:=aj8 hlt
   rw [hd] at this
   exact(List.cons.inj this).2.symm
  have hsk:lY s a=lY s (a+1):=by
   rw [lY,dif_pos hlt,hc,if_pos h]
  obtain⟨T',h1,h2⟩:=ih s (a+1) out hlt hd2
  refine⟨T',?_,h2⟩
  rw [←h1,lexFrom.eq_1 _ a,lexFrom.eq_1 _ (a+1)]
  simp only [hsk]
 | @tok b w r x T h1 h2 h3 h0 k ih =>
  intro s a out ha hd
  have hlt:a < s.length:=by
   rcases Nat.lt_or_ge a s.length with hx | hx
   ·exact hx
   ·rw [List.drop_eq_nil_of_le hx] at hd; cases hd
  have hc:s[a]?=some b:=by
   rw [List.getElem?_eq_getElem hlt]
   have:=aj8 hlt
   rw [hd] at this
   exact congrArg some (List.cons.inj this).1.symm
  have hl:w.length+1+r.length=s.length - a:=by
   have:=congrArg List.length hd
   simp at this
   omega
  have hd2:s.drop (a+(w.length+1))=r:=by
   rw [←List.drop_drop,hd]
   simp
  obtain⟨T',g1,g2⟩:=ih s (a+(w.length+1)) (out++[Dh x a]) (by omega) hd2
  refine⟨Dh x a::T',?_,?_⟩
  ·rw [rF (yJ hc h1 h2) hlt (by rw [hd]; exact h3 a) (a2:=a+(w.length+1)) (by omega),g1]
   simp
  ·simp only [ak9,g2]
   rfl
theorem abF {d:List UInt8}{T:List Token}(h:rJ d T):T.map sk=T:=by
 induction h with
 | nil=>rfl
 | blank _ _ ih=>exact ih
 | @tok b w r x T h1 h2 h3 h0 k ih =>
  rw [ak9,ih]
  obtain⟨k,p,n,t⟩:=x
  simp only at h0
  subst h0; rfl
def sg (c:UInt8):Token:=⟨4,0,0,[c]⟩
def J8 (t:List UInt8):Token:=⟨4,0,0,t⟩
def nm (t:List UInt8):Token:=⟨1,0,0,t⟩
def kw (t:List UInt8):Token:=⟨3,0,0,t⟩
def nu (n:Int):Token:=⟨2,0,n.toNat,[]⟩
def NB (r:List UInt8):Prop:=∀c r',r=c::r'→isWord c=false
theorem Mg:∀{d r:List UInt8},(∀b∈d,isWord b=true)→NB r→nL (d++r)=d
 | [],r,_,h=>by
  cases r with
  | nil=>rfl
  | cons c r=>simp [nL,ao5,h c r rfl]
 | b::d,r,hd,h=>by
  have ih:=Mg (d:=d) (r:=r) (fun c hc=>hd c (by simp [hc])) h
  unfold nL at ih ⊢
  simp [ao5,hd b (by simp),ih]
theorem an2 {t:List UInt8}{k:Nat}(hb:∃b r,t=b::r∧o6 b=true) (hw:∀c∈t,isWord c=true) (h40:t.length≤40) (hk:k=if t∈tH then 3 else 1) {r:List UInt8}{T:List Token}(hr:NB r) (h:rJ r T):rJ (t++r) (⟨k,0,0,t⟩::T):=by
 obtain⟨b,w,rfl,hb⟩:=hb
 have hrun:=Mg hw hr
 have hb2:=Io hb
 subst hk
 refine rJ.tok hb2.1 hb2.2 (fun p=>?_) rfl h
 have hrun':nL (b::(w++r))=b::w:=hrun
 unfold uC
 simp only [hb,if_true,hrun']
 rw [if_neg (by omega)]
 rfl
theorem Ad {t:List UInt8}(hn:pH t=true) {r:List UInt8}{T:List Token}(hr:NB r) (h:rJ r T):rJ (t++r) (nm t::T):=by
 obtain⟨hb,hw,h40,hm⟩:=Qa hn
 exact an2 hb hw h40 (by rw [if_neg hm]) hr h
theorem ae3:∀t∈tH,(match t with | []=>false | b::_=>o6 b) && t.all isWord && decide (t.length≤40)=true:=by decide
theorem yN {t:List UInt8}(ht:t∈tH) {r:List UInt8}{T:List Token}(hr:NB r) (h:rJ r T):rJ (t++r) (kw t::T):=by
 have hk:=ae3 t ht
 simp only [am2,decide_eq_true_eq] at hk
 refine an2 ?_ (fun c hc=>ag3.1 hk.1.2 c hc) hk.2 (by rw [if_pos ht]) hr h
 cases t with
 | nil=>exact absurd hk.1.1 (by simp)
 | cons b r=>exact⟨b,r,rfl,hk.1.1⟩
theorem Lv {n:Int}(h0:vB n=true) {r:List UInt8}{T:List Token}(hr:NB r) (h:rJ r T):rJ (uK n++r) (nu n::T):=by
 have hn:0≤n∧n≤4294967295:=by simpa [vB] using h0
 unfold uK nu
 have hall:=C6 n.toNat
 have hrun:=Mg (d:=Dz n.toNat) (fun b hb=>by unfold isWord; rw [hall b hb,Bool.or_true]) hr
 have hnum:=Jn n.toNat (by omega)
 obtain⟨b,w,e⟩:=GI n.toNat
 rw [e] at hrun hnum hall ⊢
 have hb:=hall b (by simp)
 have hb2:=Rr hb
 have hl:o6 b=false:=by
  simp [isDigit] at hb
  simp [o6]; omega
 refine rJ.tok hb2.1 hb2.2 (fun p=>?_) rfl h
 have hrun':nL (b::(w++r))=b::w:=hrun
 unfold uC
 simp only [hl,hb,hrun',hnum,if_true,ak4,if_false]
 rfl
theorem T6 {b:UInt8}{w:List UInt8}{r:List UInt8}{T:List Token}(hm:b::w∈nO) (hs:oX nO (b::(w++r))=b::w) (h:rJ r T):rJ (b::w++r) (J8 (b::w)::T):=by
 obtain⟨_,b',r',e,h1,h2,h3,h4⟩:=IM _ hm
 cases e
 refine rJ.tok h1 h2 (fun p=>?_) rfl h
 unfold uC
 simp only [h3,h4,hs,ak4,if_false,am1]
 rw [if_neg (by simp)]
 rfl
theorem uW (c:UInt8) (hc:([c]∈nO∧c≠60∧c≠62∧c≠61∧c≠33) ) {r:List UInt8}{T:List Token}(h:rJ r T):rJ (c::r) (sg c::T):=by
 obtain⟨hm,h1,h2,h3,h4⟩:=hc
 refine T6 (w:=[]) hm ?_ h
 rw [wR]
 have h5:¬(c::([]++r)).take 2∈u4:=by
  have:∀y∈u4,y.head?≠some c:=by
   intro y hy
   have:=(by decide:∀y∈u4,y.head?=some 60∨y.head?=some 62∨y.head?=some 61∨y.head?=some 33) y hy
   rcases this with e | e | e | e <;> (rw [e]; intro hh; cases hh; contradiction)
  intro hh
  exact this _ hh (by simp)
 rw [if_neg h5]
 have h6:(c::([]++r)).take 1∈A7:=by
  have:∀y∈nO,y.length=1→y∈A7:=by decide
  exact this [c] hm rfl
 rw [if_pos h6]
 rfl
theorem arY {r:List UInt8}{T:List Token}(hr:∀r',r≠61::r') (h:rJ r T):rJ (33::r) (sg 33::T):=by
 refine T6 (w:=[]) (by decide) ?_ h
 rw [wR]
 have h5:¬(33::([]++r)).take 2∈u4:=by
  intro hh
  cases r with
  | nil=>exact absurd hh (by decide)
  | cons d r =>
   have:∀y∈u4,y.head?=some 33→y=[33,61]:=by decide
   have:=this _ hh rfl
   simp at this
   exact hr r (by rw [this])
 rw [if_neg h5,if_pos (by simp; decide)]
 rfl
theorem Oh {t:List UInt8}(ht:t∈nO) {r:List UInt8}{T:List Token}(h:rJ r T):rJ (t++32::r) (J8 t::T):=by
 obtain⟨_,b,w,e,_⟩:=IM _ ht
 subst e
 exact T6 ht (Mo ht r) (rJ.blank rfl h)
theorem vV {r:List UInt8}{T:List Token}(h:rJ r T):rJ (32::r) T:=rJ.blank rfl h
theorem VP {r:List UInt8}{T:List Token}(h:rJ r T):rJ (10::r) T:=rJ.blank rfl h
theorem nU {c:UInt8}{r:List UInt8}(h:isWord c=false):NB (c::r):=fun d r' e=>by cases e; exact h
def LW (t:List UInt8) (K:List Token):Prop:=∀r U,NB r→rJ r U→rJ (t++r) (K++U)
def FC (t:List UInt8):Prop:=∃c r,t=c::r∧c≠61
end
section
open Go Hk
abbrev KP:=Int×List Token
def rG (bare:Bool) (p:KP):List Token:=if bare then p.2 else sg 40::(p.2++[sg 41])
def uZ:List KP→List Token
 | []=>[]
 | [p]=>p.2
 | p::r=>p.2++sg 44::uZ r
def wQ (k n:Int) (name:List UInt8) (l:List KP):List Token :=
 if lD k < 8 then match l with
  | [a]=>rG (mK (lD k) a.1) a++[J8 (nS k),nu n]
  | a::b::_=>rG (mK (lD k) a.1) a++J8 (nS k)::rG (decide (lD k < lD b.1)) b
  | []=>[]
 else if k=1 then [nu n] else if k=2 then [nm name]
 else if k=3 then(match l with | a::_=>nm name::sg 91::(a.2++[sg 93]) | []=>[])
 else if k=5∨k=6∨k=7 then(match l with | a::_=>J8 (nS k)::rG (decide (lD a.1=8)) a | []=>[])
 else(if k=4 then nm name else kw (nS k))::sg 40::(uZ l++(if k=16 then [sg 44,nu n] else [])++[sg 41])
mutual
def mM:GE→KP
 | .mk k _ n name args=>(k,wQ k n name (Jw args))
def Jw:List GE→List KP
 | []=>[]
 | x::r=>mM x::Jw r
end
theorem HB:∀l:List GE,Jw l=l.map mM
 | []=>rfl
 | x::r=>by simp [Jw,HB r]
theorem HC:∀x:GE,(mM x).1=x.kind
 | .mk ..=>rfl
def apE (p:Part) (q:KP):Prop:=p.1=q.1∧LW p.2.1 q.2∧FC p.2.1
inductive R2:List Part→List KP→Prop
 | nil:R2 [] []
 | cons {p:Part}{q:KP}{l:List Part}{m:List KP}(h:apE p q) (k:R2 l m):R2 (p::l) (q::m)
theorem Pp {t:List UInt8}(h:pH t=true):FC t:=by
 obtain⟨⟨b,r,e,hb⟩,_⟩:=Qa h
 exact⟨b,r,e,by rintro rfl; revert hb; decide⟩
theorem aq7 (n:Int):FC (uK n):=by
 obtain⟨c,r,e⟩:=GI n.toNat
 have:=C6 n.toNat c (by rw [e]; simp)
 exact⟨c,r,e,by rintro rfl; revert this; decide⟩
theorem FC.app {t:List UInt8}(h:FC t) (u:List UInt8):FC (t++u):=by
 obtain⟨c,r,rfl,hc⟩:=h
 exact⟨c,r++u,rfl,hc⟩
theorem LW.paren {t:List UInt8}{K:List Token}(h:LW t K):LW (40::(t++[41])) (sg 40::(K++[sg 41])):=by
 intro r U _ k
 simp only [af5,al2,an4]
 exact uW 40 (by decide) (h _ _ (nU rfl) (uW 41 (by decide) k))
theorem DJ {b:Bool}{p:Part}{q:KP}(h:apE p q):LW (tI b p) (rG b q)∧FC (tI b p):=by
 unfold tI rG
 cases b
 ·exact⟨h.2.1.paren,⟨40,_,rfl,by decide⟩⟩
 ·exact⟨h.2.1,h.2.2⟩
theorem arZ {l:List Part}{m:List KP}(h:R2 l m):∀{r:List UInt8}{U:List Token},NB r→rJ r U→rJ (vC l++r) (uZ m++U):=by
 induction h with
 | nil=>intro r U _ k; exact k
 | @cons p q l m h1 h2 ih =>
  intro r U hr k
  cases h2 with
  | nil=>exact h1.2.1 r U hr k
  | cons h3 h4 =>
   simp only [vC,uZ,al2,af5]
   exact h1.2.1 _ _ (nU rfl) (uW 44 (by decide) (vV (ih hr k)))
theorem aiR {k n : Int} {name : List UInt8} {l : List Part} {m : List KP} (hk : rK k n name l.length = true) (hl : R2 l m) : LW (tO k n name l) (wQ k n name m) ∧ FC (tO k n name l) := by
  have hr : 1 ≤ k ∧ k ≤ 26 := by
    unfold rK uB at hk
    split at hk
    · cases hk
    · rename_i m hm
      split at hm
      · cases hm
      · omega
  have two : ∀ {k : Int}, nS k ∈ nO → lD k < 8 → 2 ≤ l.length → LW (tO k n name l) (wQ k n name m) ∧ FC (tO k n name l) := fun {k} hs ht hlen => by
    cases hl with
    | nil => exact absurd hlen (by simp)
    | cons h1 hl =>
      cases hl with
      | nil => exact absurd hlen (by simp)
      | cons h2 hl =>
        unfold tO wQ
        rw [if_pos ht, if_pos ht]
        simp only [h1.1, h2.1]
        refine ⟨?_, (DJ h1).2.app _⟩
        intro r U hr k
        simp only [al2, af5]
        exact (DJ h1).1 _ _ (nU rfl) (vV (Oh hs ((DJ h2).1 r U hr k)))
  have one : ∀ {k : Int}, nS k ∈ nO → lD k < 8 → vB n = true → l.length = 1 → LW (tO k n name l) (wQ k n name m) ∧ FC (tO k n name l) := fun {k} hs ht hn hlen => by
    cases hl with
    | nil => exact absurd hlen (by simp)
    | cons h1 hl =>
      cases hl with
      | cons h2 hl => exact absurd hlen (by simp)
      | nil =>
        unfold tO wQ
        rw [if_pos ht, if_pos ht]
        simp only [h1.1]
        refine ⟨?_, (DJ h1).2.app _⟩
        intro r U hr k
        simp only [al2, af5, an4]
        exact (DJ h1).1 _ _ (nU rfl) (vV (Oh hs (Lv hn hr k)))
  have un : ∀ {k : Int} {c : UInt8}, nS k = [c] → (∀ r U, FC r → rJ r U → rJ (c :: r) (sg c :: U)) → c ≠ 61 → (k = 5 ∨ k = 6 ∨ k = 7) → ¬ lD k < 8 → l.length = 1 → LW (tO k n name l) (wQ k n name m) ∧ FC (tO k n name l) := fun {k c} hs hx hc h5 ht hlen => by
    cases hl with
    | nil => exact absurd hlen (by simp)
    | cons h1 hl =>
      unfold tO wQ
      rw [if_neg ht, if_neg (by omega), if_neg (by omega), if_neg (by omega), if_pos h5, if_neg ht, if_neg (by omega), if_neg (by omega), if_neg (by omega), if_pos h5]
      simp only [h1.1, hs]
      refine ⟨?_, ⟨c, _, rfl, hc⟩⟩
      intro r U hr k
      exact hx _ _ ((DJ h1).2.app r) ((DJ h1).1 r U hr k)
  have fn : ∀ {k : Int}, (∀ r U, NB r → rJ r U → rJ (nS k ++ name ++ r) ((if k = 4 then nm name else kw (nS k)) :: U)) → FC (nS k ++ name) → (k = 16 → vB n = true) → (k = 4 ∨ k = 16 ∨ 23 ≤ k) → ¬ lD k < 8 → LW (tO k n name l) (wQ k n name m) ∧ FC (tO k n name l) := fun {k} hs hf hn h5 ht => by
    have a1 : ¬ k = 1 := by omega
    have a2 : ¬ k = 2 := by omega
    have a3 : ¬ k = 3 := by omega
    have a4 : ¬ (k = 5 ∨ k = 6 ∨ k = 7) := by omega
    unfold tO wQ
    rw [if_neg ht, if_neg a1, if_neg a2, if_neg a3, if_neg a4, if_neg ht, if_neg a1, if_neg a2, if_neg a3, if_neg a4]
    refine ⟨?_, by rw [al2]; exact (FC.app (t := nS k ++ name) hf _) |> fun h => by simpa [al2] using h⟩
    intro r U hr h
    have e1 : nS k ++ name ++ 40 :: (vC l ++ (if k = 16 then 44 :: 32 :: uK n else []) ++ [41]) ++ r = nS k ++ name ++ (40 :: (vC l ++ ((if k = 16 then 44 :: 32 :: uK n else []) ++ (41 :: r)))) := by simp
    have e2 : (if k = 4 then nm name else kw (nS k)) :: sg 40 :: (uZ m ++ (if k = 16 then [sg 44, nu n] else []) ++ [sg 41]) ++ U = (if k = 4 then nm name else kw (nS k)) :: (sg 40 :: (uZ m ++ ((if k = 16 then [sg 44, nu n] else []) ++ (sg 41 :: U)))) := by simp
    rw [e1, e2]
    refine hs _ _ (nU rfl) (uW 40 (by decide) (arZ hl ?_ ?_))
    · split <;> exact nU rfl
    · split
      · rename_i h16
        exact uW 44 (by decide) (vV (Lv (hn h16) (nU rfl) (uW 41 (by decide) h)))
      · exact uW 41 (by decide) h
  have hc : k = 1 ∨ k = 2 ∨ k = 3 ∨ k = 4 ∨ k = 5 ∨ k = 6 ∨ k = 7 ∨ k = 8 ∨ k = 9 ∨ k = 10 ∨ k = 11 ∨ k = 12 ∨ k = 13 ∨ k = 14 ∨ k = 15 ∨ k = 16 ∨ k = 17 ∨ k = 18 ∨ k = 19 ∨ k = 20 ∨ k = 21 ∨ k = 22 ∨ k = 23 ∨ k = 24 ∨ k = 25 ∨ k = 26 := by omega
  rcases hc with rfl | rfl | rfl | rfl | rfl | rfl | rfl | rfl | rfl | rfl | rfl | rfl | rfl | rfl | rfl | rfl | rfl | rfl | rfl | rfl | rfl | rfl | rfl | rfl | rfl | rfl <;>
    simp [rK, uB, lM, lF] at hk
  · have hn : vB n = true := by simp_all
    exact ⟨fun r U hr h => Lv hn hr h, aq7 n⟩
  · have hn : pH name = true := by simp_all
    exact ⟨fun r U hr h => Ad hn hr h, Pp hn⟩
  · have hn : pH name = true := by simp_all
    have h1 : l.length = 1 := by omega
    cases hl with
    | nil => exact absurd h1 (by simp)
    | cons h2 hl =>
      refine ⟨?_, (Pp hn).app _⟩
      intro r U hr h
      show rJ (name ++ 91 :: (_ ++ [93]) ++ r) (nm name :: sg 91 :: (_ ++ [sg 93]) ++ U)
      simp only [al2, af5, an4]
      exact Ad hn (nU rfl) (uW 91 (by decide) (h2.2.1 _ _ (nU rfl) (uW 93 (by decide) h)))
  · have hn : pH name = true := by simp_all
    exact fn (fun r U hr h => Ad hn hr h) (Pp hn) (fun h => absurd h (by decide)) (.inl rfl) (by decide)
  · exact un (c := 126) rfl (fun r U _ h => uW 126 (by decide) h) (by decide) (by decide) (by decide) (by omega)
  · exact un (c := 45) rfl (fun r U _ h => uW 45 (by decide) h) (by decide) (by decide) (by decide) (by omega)
  · exact un (c := 33) rfl (fun r U hf h => arY (fun r' e => by obtain ⟨c, r2, e2, hc⟩ := hf; rw [e2] at e; cases e; exact hc rfl) h) (by decide) (by decide) (by decide) (by omega)
  all_goals first
    | exact two (by decide) (by decide) (by omega)
    | exact one (by decide) (by decide) (by simp_all) (by omega)
    | (have h0 : name = [] := by simp_all
       subst h0
       refine fn (fun r U hr h => by rw [al6]; exact yN (by decide) hr h) ⟨_, _, rfl, by decide⟩ ?_ (by decide) (by decide)
       first
         | exact fun h => absurd h (by decide)
         | exact fun _ => by simp_all)
mutual
theorem azQ:∀x:GE,mY x=true→apE (lU x) (mM x)
 | .mk k p n name args,h=>by
  simp only [mY,am2] at h
  have hl:(rP args).length=args.length:=by rw [Dl,ak1]
  exact⟨rfl,aiR (by rw [hl]; exact h.1) (an1 args h.2)⟩
theorem an1:∀l:List GE,mZ l=true→R2 (rP l) (Jw l)
 | [],_=>.nil
 | x::r,h=>by
  simp only [mZ,am2] at h
  exact .cons (azQ x h.1) (an1 r h.2)
end
end
section
open Go Hk
mutual
def GE.zR:GE→GE
 | .mk k _ n name args=>.mk k 0 n name (GE.y8 args)
def GE.y8:List GE→List GE
 | []=>[]
 | x::r=>x.zR::GE.y8 r
end
theorem GE.BE:∀l:List GE,GE.y8 l=l.map GE.zR
 | []=>rfl
 | x::r=>by simp [GE.y8,GE.BE r]
def MR (x':XE) (x:GE):Prop:=x'.pC.zR=x.zR
def Ec (l':List XE) (l:List GE):Prop:=l'.map (fun x=>x.pC.zR)=l.map GE.zR
theorem FQ {k p n:Nat}{p2 n2 k2:Int}{name:List UInt8}{l':List XE}{l:List GE}(hk:(k:Int)=k2) (hn:(n:Int)=n2) (h:Ec l' l):MR (.mk k p n name l') (.mk k2 p2 n2 name l):=by
 unfold MR Ec at *
 simp only [XE.pC,GE.zR,hk,hn,GE.BE,XE.CG,List.map_map]
 rw [←h]; rfl
def At (L:List Token):Nat→List Token→Prop
 | _,[]=>True
 | a,t::T=>sk (tk L a)=t∧At L (a+1) T
theorem At.app {L:List Token}:∀{S T:List Token}{a:Nat},At L a (S++T)→At L a S∧At L (a+S.length) T
 | [],_,_,h=>⟨trivial,h⟩
 | s::S,T,a,h=>by
  obtain⟨h1,h2⟩:=At.app (S:=S) h.2
  exact⟨⟨h.1,h1⟩,by rw [show a+(s::S).length=a+1+S.length by simp; omega]; exact h2⟩
theorem oN {t:Token}{w:List UInt8}(h:sk t=J8 w) (v:List UInt8):isS t v=decide (w=v):=by
 have h1:t.kind=4:=congrArg Token.kind h
 have h2:t.text=w:=congrArg Token.text h
 simp [isS,h1,h2]
theorem oE {t:Token}{w:List UInt8}(h:sk t=kw w) (v:List UInt8):isS t v=decide (w=v):=by
 have h1:t.kind=3:=congrArg Token.kind h
 have h2:t.text=w:=congrArg Token.text h
 simp [isS,h1,h2]
theorem yT {t:Token}{w:List UInt8}(h:sk t=nm w) (v:List UInt8):isS t v=false:=by
 have h1:t.kind=1:=congrArg Token.kind h
 simp [isS,h1]
theorem aa3 {t:Token}{n:Int}(h:sk t=nu n) (v:List UInt8):isS t v=false:=by
 have h1:t.kind=2:=congrArg Token.kind h
 simp [isS,h1]
section
variable {α β:Type}{L:List Token}{a a' d d' a1:Nat}
theorem o_ {x:PM α}{f:α→PM β}{v:α}(h:x a d=.ok v a' d'):(x >>= f) a d=f v a' d':=by
 rw [mO]; unfold PM.bind; rw [h]
theorem vU {w:List UInt8}(h:isS (tk L a) w=true):oQ L w a d=.ok () (a+1) d:=by simp [oQ,h]
theorem D_ {w:List UInt8}{b:Bool}(h:isS (tk L a) w=b):EF L w a d=.ok b a d:=by simp [EF,h]
theorem D7 {w:List UInt8}(h:isS (tk L a) w=true):o9 L w a d=.ok true (a+1) d:=by simp [o9,h]
theorem Bi {w:List UInt8}(h:isS (tk L a) w=false):o9 L w a d=.ok false a d:=by simp [o9,h]
theorem y_ {k:Nat}(h:(tk L a).kind=k):qO L k a d=.ok (tk L a) (a+1) d:=by simp [qO,h]
theorem Ge {w:List UInt8}(h:isS (tk L a) w=true) (hd:d < 64):tS L w a d=.ok () (a+1) (d+1):=by
 unfold tS; rw [if_pos h,if_neg (by omega)]
theorem Iz {w:List UInt8}(h:isS (tk L a) w=true):tT L w a (d+1)=.ok () (a+1) d:=by simp [tT,h]
theorem uM:o7 L a d=.ok (tk L a) a d:=rfl
theorem Iy:w_ a d=.ok () (a+1) d:=rfl
theorem aEO:pUp a (d+1)=.ok () a d:=rfl
theorem Sx {ex:PM XE}{v:XE}(h1:isS (tk L a) [91]=true) (hd:d < 64) (he:ex (a+1) (d+1)=.ok v a1 (d+1)) (h2:isS (tk L a1) [93]=true):tF L ex a d=.ok [v] (a1+1) d:=by
 unfold tF
 rw [o_ (Ge h1 hd),o_ he,o_ (Iz h2)]; rfl
theorem V7 {ex:PM XE}{t:Token}{l:List XE}(h1:isS (tk L a) [40]=true) (hd:d < 64) (he:vW L [41] ex (a+1) (d+1)=.ok l a1 (d+1)) (h2:isS (tk L a1) [41]=true):xX L ex t a d=.ok (.mk 4 t.pos 0 t.text l) (a1+1) d:=by
 unfold xX
 rw [o_ (Ge h1 hd),o_ he,o_ (Iz h2)]; rfl
theorem adN {ex:PM XE}{kind many:Nat}{l:List XE}(h1:isS (tk L (a+1)) [40]=true) (hd:d < 64) (he:rT L ex many true [] (a+2) (d+1)=.ok l a1 (d+1)) (h2:isS (tk L a1) [41]=true) :
  uX L ex kind many false a d=.ok (.mk kind (tk L a).pos 0 [] l) (a1+1) d:=by
 unfold uX
 rw [o_ uM,o_ Iy,o_ (Ge h1 hd),o_ he]
 simp only [ak4,if_false]
 rw [o_ (Iz h2)]; rfl
theorem adO {ex:PM XE}{kind many:Nat}{l:List XE}(h1:isS (tk L (a+1)) [40]=true) (hd:d < 64) (he:rT L ex many true [] (a+2) (d+1)=.ok l a1 (d+1)) (h2:isS (tk L a1) [44]=true) (h3:(tk L (a1+1)).kind=2) (h4:isS (tk L (a1+2)) [41]=true) :
  uX L ex kind many true a d=.ok (.mk kind (tk L a).pos (tk L (a1+1)).num [] l) (a1+3) d:=by
 unfold uX
 rw [o_ uM,o_ Iy,o_ (Ge h1 hd),o_ he]
 simp only [if_true]
 rw [o_ (vU h2),o_ (y_ h3),o_ (Iz h4)]; rfl
theorem adP {ex:PM XE}{v:XE}(h0:sk (tk L a)=sg 40) (hd:d < 64) (he:ex (a+1) (d+1)=.ok v a1 (d+1)) (h2:isS (tk L a1) [41]=true):oA L ex a d=.ok v (a1+1) d:=by
 have hk:¬(tk L a).kind=2:=by have:(tk L a).kind=4:=congrArg Token.kind h0; omega
 have h1:isS (tk L a) [40]=true:=by rw [oN h0]; decide
 unfold oA
 rw [o_ uM,if_neg hk,if_pos h1,o_ (Ge h1 hd),o_ he,o_ (Iz h2)]; rfl
theorem Yp {ex:PM XE}(h0:(tk L a).kind=2):oA L ex a d=.ok (.mk 1 (tk L a).pos (tk L a).num [] []) (a+1) d:=by
 unfold oA
 rw [o_ uM,if_pos h0,o_ Iy]; rfl
theorem Ma {ex:PM XE}{w:List UInt8}(h0:sk (tk L a)=nm w):oA L ex a d=(do
  if ←EF L [40] then xX L ex (tk L a)
  else if ←EF L [91] then
   let l ←tF L ex
   return .mk 3 (tk L a).pos 0 (tk L a).text l
  else return .mk 2 (tk L a).pos 0 (tk L a).text []:PM XE) (a+1) d:=by
 have h1:(tk L a).kind=1:=congrArg Token.kind h0
 have hk:¬(tk L a).kind=2:=by omega
 unfold oA
 rw [o_ uM,if_neg hk]
 simp only [yT h0,ak4,if_false]
 rw [o_ (y_ h1)]
theorem auN {ex:PM XE}{w:List UInt8}(h0:sk (tk L a)=nm w) (h1:isS (tk L (a+1)) [40]=false) (h2:isS (tk L (a+1)) [91]=false):oA L ex a d=.ok (.mk 2 (tk L a).pos 0 (tk L a).text []) (a+1) d:=by
 rw [Ma h0,o_ (D_ h1)]
 simp only [ak4,if_false]
 rw [o_ (D_ h2)]
 simp only [ak4,if_false]; rfl
theorem ak6 {ex:PM XE}{w:List UInt8}{l:List XE}(h0:sk (tk L a)=nm w) (h1:isS (tk L (a+1)) [40]=false) (h2:isS (tk L (a+1)) [91]=true) (he:tF L ex (a+1) d=.ok l a1 d):oA L ex a d=.ok (.mk 3 (tk L a).pos 0 (tk L a).text l) a1 d:=by
 rw [Ma h0,o_ (D_ h1)]
 simp only [ak4,if_false]
 rw [o_ (D_ h2)]
 simp only [if_true]
 rw [o_ he]; rfl
theorem Yo {ex:PM XE}{w:List UInt8}{v:XE}(h0:sk (tk L a)=nm w) (h1:isS (tk L (a+1)) [40]=true) (he:xX L ex (tk L a) (a+1) d=.ok v a1 d):oA L ex a d=.ok v a1 d:=by
 rw [Ma h0,o_ (D_ h1)]
 simp only [if_true]
 exact he
theorem Yq {un ex:PM XE}{kind:Nat}{w:List UInt8}{v:XE}(h0:sk (tk L a)=J8 w) (hk:(w=[126]∧kind=5)∨(w=[45]∧kind=6)∨(w=[33]∧kind=7)) (hd:d < 64) (he:un (a+1) (d+1)=.ok v a1 (d+1)):uY L ex un a d=.ok (.mk kind (tk L a).pos 0 [] [v]) a1 d:=by
 have ht:(tk L a).text=w:=congrArg Token.text h0
 have hs:∀k,Ag L un k a d=.ok (.mk k (tk L a).pos 0 [] [v]) a1 d:=fun k=>by
  unfold Ag
  rw [o_ uM,o_ (Ge (by rw [oN h0,ht]; simp) hd),o_ he,o_ aEO]; rfl
 unfold uY
 rw [o_ uM]
 rcases hk with ⟨rfl,rfl⟩ | ⟨rfl,rfl⟩ | ⟨rfl,rfl⟩
 ·rw [if_pos (by rw [oN h0]; decide)]; exact hs 5
 ·rw [if_neg (by rw [oN h0]; decide),if_pos (by rw [oN h0]; decide)]; exact hs 6
 ·rw [if_neg (by rw [oN h0]; decide),if_neg (by rw [oN h0]; decide),if_pos (by rw [oN h0]; decide)]; exact hs 7
theorem B8 {un ex:PM XE}(h1:isS (tk L a) [126]=false) (h2:isS (tk L a) [45]=false) (h3:isS (tk L a) [33]=false):uY L ex un a d=oA L ex a d:=by
 unfold uY
 rw [o_ uM]
 simp only [h1,h2,h3,ak4,if_false]
def Stop (m:Nat) (t:Token):Prop:=isS t [40]=false∧isS t [91]=false∧∀k,m≤k→oK t k=none
theorem Stop.mono {m m':Nat}{t:Token}(h:Stop m t) (hm:m≤m'):Stop m' t:=⟨h.1,h.2.1,fun k hk=>h.2.2 k (by omega)⟩
theorem Sy {next:PM XE}{k f:Nat}{x:XE}(h:oK (tk L a) k=none) (hf:1≤f):q7 L next k f x a d=.ok x a d:=by
 match f,hf with
 | f+1,_ =>
  unfold q7
  rw [o_ uM]
  simp only [h]; rfl
theorem adL {next:PM XE}{k f kind:Nat}{x y:XE}(h:oK (tk L a) k=some kind) (hk:¬(kind=14∨kind=15)) (he:next (a+1) d=.ok y a1 d) :
  q7 L next k (f+1) x a d=q7 L next k f (.mk kind (tk L a).pos 0 [] [x,y]) a1 d:=by
 rw [q7,o_ uM]
 simp only [h]
 rw [o_ Iy,if_neg hk,o_ he]
theorem adM {next:PM XE}{k f kind:Nat}{x:XE}(h:oK (tk L a) k=some kind) (hk:kind=14∨kind=15) (he:(tk L (a+1)).kind=2) :
  q7 L next k (f+1) x a d=q7 L next k f (.mk kind (tk L a).pos (tk L (a+1)).num [] [x]) (a+2) d:=by
 rw [q7,o_ uM]
 simp only [h]
 rw [o_ Iy,if_pos hk,o_ (y_ he)]
theorem Hn {un:PM XE}{j:Nat}{x:XE}(h:nR L un j a d=.ok x a1 d):nR L un (j+1) a d=q7 L (nR L un j) (6 - j) 131073 x a1 d:=by
 show(nR L un j >>= fun x=>q7 L (nR L un j) (6 - j) 131073 x) a d=_
 rw [o_ h]
theorem V8 {un:PM XE}{j:Nat}{x:XE}(h:nR L un j a d=.ok x a1 d):∀i,j+i≤6→(∀k,7 - (j+i)≤k→oK (tk L a1) k=none)→nR L un (j+i) a d=.ok x a1 d
 | 0,_,_=>h
 | i+1,hi,hs=>by
  have ih:=V8 h i (by omega) fun k hk=>hs k (by omega)
  rw [←Nat.add_assoc,Hn ih,Sy (hs _ (by omega)) (by omega)]
theorem L9 {un:PM XE}{j j':Nat}{x:XE}(h:nR L un j a d=.ok x a1 d) (hj:j≤j') (h6:j'≤6) (hs:Stop (7 - j') (tk L a1)):nR L un j' a d=.ok x a1 d:=by
 have:=V8 h (j' - j) (by omega) (fun k hk=>hs.2.2 k (by omega))
 rwa [show j+(j' - j)=j' by omega] at this
theorem Sw {un:PM XE}{x:XE}(h:nR L un 6 a d=.ok x a1 d) (hs:oK (tk L a1) 0=none):vQ L un a d=.ok x a1 d:=by
 unfold vQ
 rw [o_ h,o_ uM]
 simp only [hs]; rfl
theorem adK {un:PM XE}{x y:XE}{kind a2:Nat}(h:nR L un 6 a d=.ok x a1 d) (hs:oK (tk L a1) 0=some kind) (h2:nR L un 6 (a1+1) d=.ok y a2 d):vQ L un a d=.ok (.mk kind (tk L a1).pos 0 [] [x,y]) a2 d:=by
 unfold vQ
 rw [o_ h,o_ uM]
 simp only [hs]
 rw [o_ Iy,o_ h2]; rfl
theorem aoD {n:Nat}:Aq L (n+1) a d=uY L (vQ L (Aq L n)) (Aq L n) a d:=rfl
end
theorem Hx {k:Int}{t:Token}(ht:sk t=J8 (nS k)) (h8:lD k < 8) (h1:1≤k∧k≤26):∀m,oK t m=if lD k=m+1 then some k.toNat else none:=by
 intro m
 have a1:t.kind=4:=congrArg Token.kind ht
 have a2:t.text=nS k:=congrArg Token.text ht
 have hl:nT (nS k)=some (lD k - 1,k.toNat)∧1≤lD k:=by
  have hc:k=1∨k=2∨k=3∨k=4∨k=5∨k=6∨k=7∨k=8∨k=9∨k=10∨k=11∨k=12∨k=13∨k=14∨k=15∨k=16∨k=17∨k=18∨k=19∨k=20∨k=21∨k=22∨k=23∨k=24∨k=25∨k=26:=by omega
  rcases hc with rfl | rfl | rfl | rfl | rfl | rfl | rfl | rfl | rfl | rfl | rfl | rfl | rfl | rfl | rfl | rfl | rfl | rfl | rfl | rfl | rfl | rfl | rfl | rfl | rfl | rfl
  all_goals first
   | exact absurd h8 (by decide)
   | exact⟨rfl,by decide⟩
 unfold oK
 rw [if_pos a1,a2,hl.1]
 simp only
 by_cases h:lD k=m+1
 ·rw [if_pos (by omega),if_pos h]
 ·rw [if_neg (by omega),if_neg h]
theorem y4 {t:Token}{w:List UInt8}(h:sk t=J8 w) (h1:w≠[40]) (h2:w≠[91]) (h3:nT w=none):Stop 0 t:=by
 refine⟨by rw [oN h]; simp [h1],by rw [oN h]; simp [h2],fun k _=>?_⟩
 have a2:t.text=w:=congrArg Token.text h
 unfold oK
 split
 ·rw [a2,h3]
 ·rfl
theorem alV {t:Token}{w:List UInt8}(h:sk t=kw w) (h1:w≠[40]) (h2:w≠[91]):Stop 0 t:=by
 refine⟨by rw [oE h]; simp [h1],by rw [oE h]; simp [h2],fun k _=>?_⟩
 have a2:t.kind=3:=congrArg Token.kind h
 unfold oK
 rw [if_neg (by omega)]
end
section
open Go Hk
def oR (x:GE):Nat:=(mM x).2.length
section
variable (L:List Token)
def GA (x:GE) (n d a j:Nat):Prop:=∃x',nR L (Aq L n) j a d=.ok x' (a+oR x) d∧MR x' x
def GB (x:GE) (n d a j:Nat):Prop:=∃x' f,nR L (Aq L n) (j+1) a d=q7 L (nR L (Aq L n) j) (6 - j) f x' (a+oR x) d∧MR x' x∧131073≤f+oR x
def GX (x:GE) (n d a:Nat):Prop:=∃x',vQ L (Aq L n) a d=.ok x' (a+oR x) d∧MR x' x
def Main (x:GE):Prop:=∀n d a,lS x < n→d+lS x≤64→At L a (mM x).2→oR x≤131072 →
 (∀j,j≤6→8 - j≤lD x.kind→Stop (7 - j) (tk L (a+oR x))→GA L x n d a j) ∧
 (∀j,j≤5→7 - j≤lD x.kind→Stop (7 - j) (tk L (a+oR x))→GB L x n d a j) ∧
 (Stop 0 (tk L (a+oR x))→GX L x n d a)
end
section
variable {L:List Token}
theorem aAq {x:GE}(h8:lD x.kind=8) (hu:∀n d a,lS x < n→d+lS x≤64→At L a (mM x).2→oR x≤131072→Stop 7 (tk L (a+oR x))→∃x',Aq L n a d=.ok x' (a+oR x) d∧MR x' x):Main L x:=by
 intro n d a h1 h2 h3 h4
 have ch:∀j,j≤6→Stop (7 - j) (tk L (a+oR x))→GA L x n d a j:=fun j hj hs=>by
  obtain⟨x',e,he⟩:=hu n d a h1 h2 h3 h4 (hs.mono (by omega))
  exact⟨x',L9 (j:=0) e (ak5 _) hj hs,he⟩
 refine⟨fun j hj _ hs=>ch j hj hs,fun j hj _ hs=>?_,fun hs=>?_⟩
 ·obtain⟨x',e,he⟩:=ch j (by omega) hs
  exact⟨x',131073,Hn e,he,by omega⟩
 ·obtain⟨x',e,he⟩:=ch 6 (ac9 _) (hs.mono (ak5 _))
  exact⟨x',Sw e (hs.2.2 0 (ac9 _)),he⟩
theorem an5 {x:GE}(h2:2≤lD x.kind) (h7:lD x.kind≤7) (hb:∀n d a,lS x < n→d+lS x≤64→At L a (mM x).2→oR x≤131072→Stop (lD x.kind) (tk L (a+oR x))→GB L x n d a (7 - lD x.kind)):Main L x:=by
 intro n d a h1 h3 h4 h5
 have ch:∀j,j≤6→8 - j≤lD x.kind→Stop (7 - j) (tk L (a+oR x))→GA L x n d a j:=fun j hj ht hs=>by
  obtain⟨x',f,e,he,hf⟩:=hb n d a h1 h3 h4 h5 (hs.mono (by omega))
  rw [Sy (hs.2.2 _ (by omega)) (by omega)] at e
  exact⟨x',L9 e (by omega) hj hs,he⟩
 refine⟨ch,fun j hj ht hs=>?_,fun hs=>?_⟩
 ·by_cases hj2:j=7 - lD x.kind
  ·subst hj2
   exact hb n d a h1 h3 h4 h5 (hs.mono (by omega))
  ·obtain⟨x',e,he⟩:=ch j (by omega) (by omega) hs
   exact⟨x',131073,Hn e,he,by omega⟩
 ·obtain⟨x',e,he⟩:=ch 6 (ac9 _) (by omega) (hs.mono (ak5 _))
  exact⟨x',Sw e (hs.2.2 0 (ac9 _)),he⟩
theorem aAp {x:GE}(h1:lD x.kind=1) (hx:∀n d a,lS x < n→d+lS x≤64→At L a (mM x).2→oR x≤131072→Stop 0 (tk L (a+oR x))→GX L x n d a):Main L x:=by
 intro n d a h2 h3 h4 h5
 exact⟨fun j hj ht _=>by omega,fun j hj ht _=>by omega,hx n d a h2 h3 h4 h5⟩
theorem ZG {a:Nat}{T:List Token}(h:At L a (sg 40::(T++[sg 41]))):sk (tk L a)=sg 40∧At L (a+1) T∧sk (tk L (a+1+T.length))=sg 41:=by
 obtain⟨h1,h2⟩:=At.app h.2
 exact⟨h.1,h1,h2.1⟩
theorem Hl {y:GE}(hm:Main L y) {b:Bool}{n d a j:Nat}(hb:b=true→8 - j≤lD y.kind) (hj:j≤6) (hn:qP b (lU y) < n) (hd:d+qP b (lU y)≤64) (hat:At L a (rG b (mM y))) (hlen:(rG b (mM y)).length≤131072)
  (hs:Stop (7 - j) (tk L (a+(rG b (mM y)).length))):∃y',nR L (Aq L n) j a d=.ok y' (a+(rG b (mM y)).length) d∧MR y' y:=by
 cases b with
 | true=>exact(hm n d a hn hd hat hlen).1 j hj (hb rfl) hs
 | false =>
  have e1:rG false (mM y)=sg 40::((mM y).2++[sg 41]):=rfl
  have e2:qP false (lU y)=lS y+1:=rfl
  have e3:(rG false (mM y)).length=oR y+2:=by rw [e1]; simp [oR]
  rw [e3] at hs hlen ⊢
  rw [e1] at hat
  obtain⟨a1,a2,a3⟩:=ZG hat
  match n,hn with
  | m+1,hn =>
   obtain⟨y',h1,h2⟩:=(hm m (d+1) (a+1) (by omega) (by omega) a2 (by omega)).2.2 (y4 a3 (by decide) (by decide) rfl)
   have hp:Aq L (m+1) a d=.ok y' (a+(oR y+2)) d:=by
    rw [aoD,B8 (by rw [oN a1]; decide) (by rw [oN a1]; decide) (by rw [oN a1]; decide),adP a1 (by omega) h1 (by show isS (tk L (a+1+(mM y).2.length)) _=_; rw [oN a3]; decide)]
    congr 1; unfold oR; omega
   exact⟨y',L9 (j:=0) hp (ak5 _) hj hs,h2⟩
theorem VF {y:GE}(hm:Main L y) {b:Bool}{n d a j:Nat}(hb:b=true→7 - j≤lD y.kind) (hj:j≤5) (hn:qP b (lU y) < n) (hd:d+qP b (lU y)≤64) (hat:At L a (rG b (mM y))) (hlen:(rG b (mM y)).length≤131072)
  (hs:Stop (7 - j) (tk L (a+(rG b (mM y)).length))):∃y' f,nR L (Aq L n) (j+1) a d=q7 L (nR L (Aq L n) j) (6 - j) f y' (a+(rG b (mM y)).length) d∧MR y' y∧131073≤f+(rG b (mM y)).length:=by
 cases b with
 | true=>exact(hm n d a hn hd hat hlen).2.1 j hj (hb rfl) hs
 | false =>
  obtain⟨y',h1,h2⟩:=Hl hm (b:=false) (fun h=>by cases h) (by omega) hn hd hat hlen hs
  exact⟨y',131073,Hn h1,h2,by omega⟩
theorem acW {k n:Int}{name:List UInt8}{q1 q2:KP}(ht:lD k < 8):wQ k n name [q1,q2]=rG (mK (lD k) q1.1) q1++J8 (nS k)::rG (decide (lD k < lD q2.1)) q2:=by unfold wQ; rw [if_pos ht]
theorem at3 {k:Int}{q1 q2:Part}(ht:lD k < 8):wG k [q1,q2]=max (qP (mK (lD k) q1.1) q1) (qP (decide (lD k < lD q2.1)) q2):=by unfold wG; rw [if_pos ht]
theorem acV {k n:Int}{name:List UInt8}{q1:KP}(ht:lD k < 8):wQ k n name [q1]=rG (mK (lD k) q1.1) q1++[J8 (nS k),nu n]:=by unfold wQ; rw [if_pos ht]
theorem at2 {k:Int}{q1:Part}(ht:lD k < 8):wG k [q1]=qP (mK (lD k) q1.1) q1:=by unfold wG; rw [if_pos ht]
theorem Qv {k:Int}{t:Token}(ht:sk t=J8 (nS k)) (h8:lD k < 8) (h1:1≤k∧k≤26):Stop (lD k) t:=by
 have hs:=Hx ht h8 h1
 refine⟨?_,?_,fun m hm=>?_⟩
 ·rw [oN ht]
  have hc:k=1∨k=2∨k=3∨k=4∨k=5∨k=6∨k=7∨k=8∨k=9∨k=10∨k=11∨k=12∨k=13∨k=14∨k=15∨k=16∨k=17∨k=18∨k=19∨k=20∨k=21∨k=22∨k=23∨k=24∨k=25∨k=26:=by omega
  rcases hc with rfl | rfl | rfl | rfl | rfl | rfl | rfl | rfl | rfl | rfl | rfl | rfl | rfl | rfl | rfl | rfl | rfl | rfl | rfl | rfl | rfl | rfl | rfl | rfl | rfl | rfl <;> decide
 ·rw [oN ht]
  have hc:k=1∨k=2∨k=3∨k=4∨k=5∨k=6∨k=7∨k=8∨k=9∨k=10∨k=11∨k=12∨k=13∨k=14∨k=15∨k=16∨k=17∨k=18∨k=19∨k=20∨k=21∨k=22∨k=23∨k=24∨k=25∨k=26:=by omega
  rcases hc with rfl | rfl | rfl | rfl | rfl | rfl | rfl | rfl | rfl | rfl | rfl | rfl | rfl | rfl | rfl | rfl | rfl | rfl | rfl | rfl | rfl | rfl | rfl | rfl | rfl | rfl <;> decide
 ·rw [hs m,if_neg (by omega)]
theorem Z7 {k p:Nat}{p2:Int}{k2 n2:Int}{name:List UInt8}{y' z':XE}{y z:GE}(hk:(k:Int)=k2) (hn:n2=0) (hname:name=[]) (hy:MR y' y) (hz:MR z' z):MR (.mk k p 0 [] [y',z']) (.mk k2 p2 n2 name [y,z]):=by
 subst hn; subst hname
 unfold MR at *
 simp only [XE.pC,XE.pY,GE.zR,GE.y8,hk,hy,hz]; rfl
theorem Z6 {k p n:Nat}{p2:Int}{k2 n2:Int}{name:List UInt8}{y':XE}{y:GE}(hk:(k:Int)=k2) (hn:(n:Int)=n2) (hname:name=[]) (hy:MR y' y):MR (.mk k p n [] [y']) (.mk k2 p2 n2 name [y]):=by
 subst hn; subst hname
 unfold MR at *
 simp only [XE.pC,XE.pY,GE.zR,GE.y8,hk,hy]
theorem acP {k p n:Int}{name:List UInt8}{y z:GE}(h1:1≤k∧k≤26) (h8:lD k < 8) (ht1:1≤lD k) (hsh:¬(k.toNat=14∨k.toNat=15)) (hn:n=0) (hname:name=[]) (hy:Main L y) (hz:Main L z):Main L (.mk k p n name [y,z]):=by
 have eK:(mM (.mk k p n name [y,z])).2=rG (mK (lD k) y.kind) (mM y)++J8 (nS k)::rG (decide (lD k < lD z.kind)) (mM z):=by
  rw [←HC y,←HC z]; exact acW h8
 have eN:lS (.mk k p n name [y,z])=max (qP (mK (lD k) y.kind) (lU y)) (qP (decide (lD k < lD z.kind)) (lU z)):=by
  rw [←zL y,←zL z]; exact at3 h8
 have eL:oR (.mk k p n name [y,z])=(rG (mK (lD k) y.kind) (mM y)).length+(1+(rG (decide (lD k < lD z.kind)) (mM z)).length):=by
  unfold oR; rw [eK]; simp; omega
 have hkn:((k.toNat:Nat):Int)=k:=by omega
 have hlb:mK (lD k) y.kind=true→lD k≤lD y.kind:=fun h=>by have:=of_decide_eq_true h; omega
 have hrb:decide (lD k < lD z.kind)=true→lD k+1≤lD z.kind:=fun h=>by have:=of_decide_eq_true h; omega
 have hl1:lD k=1→mK (lD k) y.kind=true→2≤lD y.kind:=fun h0 h=>by have:=of_decide_eq_true h; omega
 generalize mK (lD k) y.kind=bl at *
 generalize decide (lD k < lD z.kind)=br at *
 have body:∀(m d a:Nat),lS (.mk k p n name [y,z]) < m→d+lS (.mk k p n name [y,z])≤64→At L a (mM (.mk k p n name [y,z])).2→oR (.mk k p n name [y,z])≤131072 →
   At L a (rG bl (mM y))∧sk (tk L (a+(rG bl (mM y)).length))=J8 (nS k)∧At L (a+(rG bl (mM y)).length+1) (rG br (mM z)):=fun m d a _ _ hat _=>by
  rw [eK] at hat
  obtain⟨h2,h3⟩:=At.app hat
  exact⟨h2,h3.1,h3.2⟩
 by_cases ht:lD k=1
 ·refine aAp ht fun m d a hm hd hat hlen hs=>?_
  obtain⟨b1,b2,b3⟩:=body m d a hm hd hat hlen
  rw [eN] at hm hd
  rw [eL] at hlen
  have hst:=Qv b2 h8 h1
  rw [ht] at hst
  obtain⟨y',c1,c2⟩:=Hl hy (n:=m) (d:=d) (j:=6) (fun h=>hl1 ht h) (ac9 _) (by omega) (by omega) b1 (by omega) hst
  have es:a+oR (.mk k p n name [y,z])=a+(rG bl (mM y)).length+1+(rG br (mM z)).length:=by rw [eL]; omega
  rw [es] at hs
  obtain⟨z',c3,c4⟩:=Hl hz (n:=m) (d:=d) (j:=6) (fun h=>by have:=hrb h; omega) (ac9 _) (by omega) (by omega) b3 (by omega) (hs.mono (ak5 _))
  have hsg:=Hx b2 h8 h1 0
  rw [if_pos ht] at hsg
  exact⟨_,by rw [adK c1 hsg c3,es],Z7 hkn hn hname c2 c4⟩
 ·refine an5 (by show 2≤lD k; omega) (by show lD k≤7; omega) fun m d a hm hd hat hlen hs=>?_
  obtain⟨b1,b2,b3⟩:=body m d a hm hd hat hlen
  have hs:Stop (lD k) (tk L (a+oR (.mk k p n name [y,z]))):=hs
  show GB L _ m d a (7 - lD k)
  rw [eN] at hm hd
  rw [eL] at hlen
  have hst:=Qv b2 h8 h1
  obtain⟨y',f,c1,c2,c5⟩:=VF hy (n:=m) (d:=d) (j:=7 - lD k) (fun h=>by have:=hlb h; omega) (by omega) (by omega) (by omega) b1 (by omega) (hst.mono (by omega))
  have es:a+oR (.mk k p n name [y,z])=a+(rG bl (mM y)).length+1+(rG br (mM z)).length:=by rw [eL]; omega
  rw [es] at hs
  obtain⟨z',c3,c4⟩:=Hl hz (n:=m) (d:=d) (j:=7 - lD k) (fun h=>by have:=hrb h; omega) (by omega) (by omega) (by omega) b3 (by omega) (hs.mono (by omega))
  have hsg:=Hx b2 h8 h1 (6 - (7 - lD k))
  rw [if_pos (by omega)] at hsg
  match f,c5,c1 with
  | 0,c5,_=>exact absurd c5 (by omega)
  | f+1,c5,c1 =>
   rw [adL hsg hsh c3] at c1
   refine⟨_,f,by rw [es]; exact c1,Z7 hkn hn hname c2 c4,by rw [eL]; omega⟩
theorem Uf {k p n : Int} {name : List UInt8} {y : GE} (h1 : 1 ≤ k ∧ k ≤ 26) (h8 : lD k < 8) (ht1 : 2 ≤ lD k) (hsh : k.toNat = 14 ∨ k.toNat = 15) (hn : vB n = true) (hname : name = []) (hy : Main L y) : Main L (.mk k p n name [y]) := by
  have eK : (mM (.mk k p n name [y])).2 = rG (mK (lD k) y.kind) (mM y) ++ [J8 (nS k), nu n] := by
    rw [← HC y]; exact acV h8
  have eN : lS (.mk k p n name [y]) = qP (mK (lD k) y.kind) (lU y) := by
    rw [← zL y]; exact at2 h8
  have eL : oR (.mk k p n name [y]) = (rG (mK (lD k) y.kind) (mM y)).length + 2 := by
    unfold oR; rw [eK]; simp
  have hkn : ((k.toNat : Nat) : Int) = k := by omega
  have hnn : ((n.toNat : Nat) : Int) = n := by have : 0 ≤ n ∧ n ≤ 4294967295 := by simpa [vB] using hn
                                               omega
  have hlb : mK (lD k) y.kind = true → lD k ≤ lD y.kind := fun h => by have := of_decide_eq_true h; omega
  generalize mK (lD k) y.kind = bl at *
  refine an5 ht1 (by show lD k ≤ 7; omega) fun m d a hm hd hat hlen hs => ?_
  show GB L _ m d a (7 - lD k)
  rw [eK] at hat
  obtain ⟨b1, b2, b3, -⟩ := At.app hat
  rw [eN] at hm hd
  rw [eL] at hlen
  have hst := Qv b2 h8 h1
  obtain ⟨y', f, c1, c2, c5⟩ := VF hy (n := m) (d := d) (j := 7 - lD k) (fun h => by have := hlb h; omega) (by omega) (by omega) (by omega) b1 (by omega) (hst.mono (by omega))
  have es : a + oR (.mk k p n name [y]) = a + (rG bl (mM y)).length + 2 := by rw [eL]; omega
  have hsg := Hx b2 h8 h1 (6 - (7 - lD k))
  rw [if_pos (by omega)] at hsg
  have k2 : (tk L (a + (rG bl (mM y)).length + 1)).kind = 2 := congrArg Token.kind b3
  have k3 : (tk L (a + (rG bl (mM y)).length + 1)).num = n.toNat := congrArg Token.num b3
  match f, c5, c1 with
  | 0, c5, _ => exact absurd c5 (by omega)
  | f + 1, c5, c1 =>
    rw [adM hsg hsh k2, k3] at c1
    refine ⟨_, f, by rw [es]; exact c1, Z6 hkn hnn hname c2, by rw [eL]; omega⟩
end
end
section
open Go Hk
def uE:List KP→List Token
 | []=>[]
 | p::r=>sg 44::(p.2++uE r)
theorem IJ:∀(q:KP) (l:List KP),uZ (q::l)=q.2++uE l
 | q,[]=>by simp [uZ,uE]
 | q,p::r=>by
  have:=IJ p r
  simp only [uZ,uE] at this ⊢
  rw [this]
theorem azN (t:Token) (w:List UInt8):isS (sk t) w=isS t w:=rfl
theorem LP {k n:Int}{name:List UInt8}{len:Nat}(h:rK k n name len=true):1≤k∧k≤26:=by
 unfold rK uB at h
 split at h
 ·cases h
 ·rename_i m hm
  split at hm
  ·cases hm
  ·omega
theorem aiE {k:Int}(h:1≤k∧k≤26):k=1∨k=2∨k=3∨k=4∨k=5∨k=6∨k=7∨k=8∨k=9∨k=10∨k=11∨k=12∨k=13∨k=14∨k=15∨k=16∨k=17∨k=18∨k=19∨k=20∨k=21∨k=22∨k=23∨k=24∨k=25∨k=26:=by omega
theorem FX {k n : Int} {name : List UInt8} {len : Nat} (h : rK k n name len = true) :
    (lD k < 8 ∧ 1 ≤ lD k ∧ name = [] ∧ ((¬ (k.toNat = 14 ∨ k.toNat = 15) ∧ n = 0 ∧ len = 2) ∨ ((k.toNat = 14 ∨ k.toNat = 15) ∧ 2 ≤ lD k ∧ vB n = true ∧ len = 1))) ∨
    (lD k = 8 ∧ ((k = 1 ∧ len = 0 ∧ name = [] ∧ vB n = true) ∨ (k = 2 ∧ len = 0 ∧ pH name = true ∧ n = 0) ∨ (k = 3 ∧ len = 1 ∧ pH name = true ∧ n = 0) ∨ (k = 4 ∧ pH name = true ∧ n = 0) ∨
      ((k = 5 ∨ k = 6 ∨ k = 7) ∧ len = 1 ∧ name = [] ∧ n = 0) ∨ (k = 16 ∧ len = 1 ∧ name = [] ∧ vB n = true) ∨ ((k = 23 ∨ k = 24) ∧ len = 2 ∧ name = [] ∧ n = 0) ∨ (k = 25 ∧ len = 3 ∧ name = [] ∧ n = 0) ∨ (k = 26 ∧ len = 1 ∧ name = [] ∧ n = 0))) := by
  rcases aiE (LP h) with rfl | rfl | rfl | rfl | rfl | rfl | rfl | rfl | rfl | rfl | rfl | rfl | rfl | rfl | rfl | rfl | rfl | rfl | rfl | rfl | rfl | rfl | rfl | rfl | rfl | rfl <;>
    simp [rK, uB, lM, lF] at h
  all_goals first
    | (refine .inl ⟨by decide, by decide, by simp_all, ?_⟩
       first
         | exact .inl ⟨by decide, by simp_all, by omega⟩
         | exact .inr ⟨by decide, by decide, by simp_all, by omega⟩)
    | (refine .inr ⟨rfl, ?_⟩
       simp_all
       try omega)
theorem Vu {b:Bool}{q:KP}(h:∃t r,q.2=t::r∧isS t [41]=false):∃t r,rG b q=t::r∧isS t [41]=false:=by
 cases b
 ·exact⟨sg 40,q.2++[sg 41],rfl,by decide⟩
 ·exact h
theorem azI:∀(N:Nat) (x:GE),x.size≤N→mY x=true→∃t r,(mM x).2=t::r∧isS t [41]=false
 | 0,.mk k p n name args,hs,_=>by simp only [GE.size] at hs; omega
 | N+1,.mk k p n name args,hs,h=>by
  simp only [mY,am2] at h
  simp only [GE.size] at hs
  have ih:∀y∈args,∃t r,(mM y).2=t::r∧isS t [41]=false:=fun y hy=>azI N y (by have:=GE.qQ hy; omega) (ag3.1 (wL args ▸ h.2) y hy)
  have hcall:∀(t:Token) (T:List Token),isS t [41]=false→∃t' r,t::T=t'::r∧isS t' [41]=false:=fun t T ht=>⟨t,T,rfl,ht⟩
  rcases FX h.1 with ⟨h8,h1,hn,hr⟩ | ⟨h8,hr⟩
  ·rcases hr with ⟨_,_,hl⟩ | ⟨_,_,_,hl⟩
   ·match args,hl,ih with
    | [y,z],_,ih =>
     obtain⟨t,r,e,ht⟩:=Vu (b:=mK (lD k) (mM y).1) (ih y (by simp))
     show ∃t r,wQ k n name [mM y,mM z]=t::r∧_
     rw [acW h8,e]
     exact⟨t,_,rfl,ht⟩
   ·match args,hl,ih with
    | [y],_,ih =>
     obtain⟨t,r,e,ht⟩:=Vu (b:=mK (lD k) (mM y).1) (ih y (by simp))
     show ∃t r,wQ k n name [mM y]=t::r∧_
     rw [acV h8,e]
     exact⟨t,_,rfl,ht⟩
  ·rcases hr with ⟨rfl,hl,_⟩ | ⟨rfl,hl,_⟩ | ⟨rfl,hl,_⟩ | ⟨rfl,_⟩ | ⟨hk,hl,_⟩ | ⟨rfl,hl,_⟩ | ⟨hk,hl,_⟩ | ⟨rfl,hl,_⟩ | ⟨rfl,hl,_⟩
   ·exact⟨nu n,[],rfl,rfl⟩
   ·exact⟨nm name,[],rfl,rfl⟩
   ·match args,hl with
    | [y],_=>exact⟨nm name,_,rfl,rfl⟩
   ·exact⟨nm name,_,rfl,rfl⟩
   ·match args,hl with
    | [y],_ =>
     rcases hk with rfl | rfl | rfl <;> exact⟨_,_,rfl,by decide⟩
   ·exact⟨_,_,rfl,rfl⟩
   ·rcases hk with rfl | rfl <;> exact⟨_,_,rfl,rfl⟩
   ·exact⟨_,_,rfl,rfl⟩
   ·exact⟨_,_,rfl,rfl⟩
section
variable {L:List Token}
theorem azJ {x:GE}{a:Nat}(hw:mY x=true) (h:At L a (mM x).2):isS (tk L a) [41]=false:=by
 obtain⟨t,r,e,ht⟩:=azI x.size x (ac9 _) hw
 rw [e] at h
 rw [←azN,h.1]
 exact ht
theorem VX {n d:Nat}:∀(r:List GE) (y:GE) (f a:Nat) (acc:List XE),Main L y→(∀z∈r,Main L z)→(∀z∈y::r,lS z < n∧d+lS z≤64)→At L a ((mM y).2++uE (r.map mM))→((mM y).2++uE (r.map mM)).length≤131072→r.length < f →
  isS (tk L (a+((mM y).2++uE (r.map mM)).length)) [44]=false→Stop 0 (tk L (a+((mM y).2++uE (r.map mM)).length)) →
  ∃l',vD L (vQ L (Aq L n)) f acc a d=.ok (acc++l') (a+((mM y).2++uE (r.map mM)).length) d∧Ec l' (y::r)
 | _,_,0,_,_,_,_,_,_,_,hf,_,_=>absurd hf (by omega)
 | [],y,f+1,a,acc,hy,hr,hn,hat,hl,hf,hc,hs=>by
  simp only [List.map_nil,uE,al6] at hat hl hc hs ⊢
  obtain⟨y',e,he⟩:=(hy n d a (hn y (by simp)).1 (hn y (by simp)).2 hat hl).2.2 hs
  refine⟨[y'],?_,by unfold Ec; simp only [ak9,List.map_nil]; rw [he]⟩
  rw [vD,o_ e,o_ (Bi (a:=a+oR y) hc)]
  simp only [ak4,if_false]; rfl
 | z::r,y,f+1,a,acc,hy,hr,hn,hat,hl,hf,hc,hs=>by
  simp only [ak9,uE] at hat hl hc hs ⊢
  obtain⟨a1,a2,a3⟩:=At.app hat
  have hlen:((mM y).2++sg 44::((mM z).2++uE (r.map mM))).length=(mM y).2.length+(1+((mM z).2++uE (r.map mM)).length):=by simp; omega
  rw [hlen] at hl hc hs ⊢
  obtain⟨y',e,he⟩:=(hy n d a (hn y (by simp)).1 (hn y (by simp)).2 a1 (by unfold oR; omega)).2.2 (y4 a2 (by decide) (by decide) rfl)
  have e2:a+((mM y).2.length+(1+((mM z).2++uE (r.map mM)).length))=a+(mM y).2.length+1+((mM z).2++uE (r.map mM)).length:=by omega
  rw [e2] at hc hs ⊢
  obtain⟨l',e3,he3⟩:=VX r z f (a+(mM y).2.length+1) (acc++[y']) (hr z (by simp)) (fun w hw=>hr w (by simp [hw])) (fun w hw=>hn w (by simp at hw ⊢; exact .inr hw)) a3 (by omega) (by simp at hf; omega) hc hs
  refine⟨y'::l',?_,by unfold Ec at *; rw [ak9,ak9,he3,he]⟩
  rw [vD,o_ e,o_ (D7 (by rw [show a+oR y=a+(mM y).2.length from rfl,oN a2]; decide))]
  simp only [if_true]
  rw [show a+oR y+1=a+(mM y).2.length+1 from rfl,e3]
  simp
theorem Va {n d:Nat}:∀(r:List GE) (a:Nat) (acc:List XE),(∀z∈r,Main L z)→(∀z∈r,lS z < n∧d+lS z≤64)→At L a (uE (r.map mM))→(uE (r.map mM)).length≤131072→Stop 0 (tk L (a+(uE (r.map mM)).length)) →
  ∃l',rT L (vQ L (Aq L n)) r.length false acc a d=.ok (acc++l') (a+(uE (r.map mM)).length) d∧Ec l' r
 | [],a,acc,_,_,_,_,_=>⟨[],by simp [rT,uE,yI],rfl⟩
 | y::r,a,acc,hm,hn,hat,hl,hs=>by
  simp only [ak9,uE] at hat hl hs ⊢
  obtain⟨a1,a2⟩:=hat
  obtain⟨a2,a3⟩:=At.app a2
  have hlen:(sg 44::((mM y).2++uE (r.map mM))).length=1+((mM y).2.length+(uE (r.map mM)).length):=by simp; omega
  rw [hlen] at hl hs ⊢
  have e2:a+(1+((mM y).2.length+(uE (r.map mM)).length))=a+1+(mM y).2.length+(uE (r.map mM)).length:=by omega
  rw [e2] at hs ⊢
  have hst:Stop 0 (tk L (a+1+oR y)):=by
   cases r with
   | nil=>simpa [uE,oR] using hs
   | cons z r=>simp only [ak9,uE] at a3; exact y4 a3.1 (by decide) (by decide) rfl
  obtain⟨y',e,he⟩:=(hm y (by simp) n d (a+1) (hn y (by simp)).1 (hn y (by simp)).2 a2 (by unfold oR; omega)).2.2 hst
  obtain⟨l',e3,he3⟩:=Va r (a+1+(mM y).2.length) (acc++[y']) (fun w hw=>hm w (by simp [hw])) (fun w hw=>hn w (by simp [hw])) a3 (by omega) hs
  refine⟨y'::l',?_,by unfold Ec at *; rw [ak9,ak9,he3,he]⟩
  rw [am1,rT]
  simp only [Bool.not_false,if_true]
  rw [o_ (vU (by rw [oN a1]; decide)),o_ e,show a+1+oR y=a+1+(mM y).2.length from rfl,e3]
  simp
theorem KI {n d:Nat}{y:GE}{r:List GE}{a:Nat}(hm:∀z∈y::r,Main L z) (hn:∀z∈y::r,lS z < n∧d+lS z≤64) (hat:At L a (uZ ((y::r).map mM))) (hl:(uZ ((y::r).map mM)).length≤131072) (hs:Stop 0 (tk L (a+(uZ ((y::r).map mM)).length))) :
  ∃l',rT L (vQ L (Aq L n)) (y::r).length true [] a d=.ok l' (a+(uZ ((y::r).map mM)).length) d∧Ec l' (y::r):=by
 rw [ak9,IJ] at hat hl hs ⊢
 obtain⟨a2,a3⟩:=At.app hat
 rw [ac6] at hl hs ⊢
 have e2:a+((mM y).2.length+(uE (r.map mM)).length)=a+(mM y).2.length+(uE (r.map mM)).length:=by omega
 rw [e2] at hs ⊢
 have hst:Stop 0 (tk L (a+oR y)):=by
  cases r with
  | nil=>simpa [uE,oR] using hs
  | cons z r=>simp only [ak9,uE] at a3; exact y4 a3.1 (by decide) (by decide) rfl
 obtain⟨y',e,he⟩:=(hm y (by simp) n d a (hn y (by simp)).1 (hn y (by simp)).2 a2 (by unfold oR; omega)).2.2 hst
 obtain⟨l',e3,he3⟩:=Va r (a+(mM y).2.length) [y'] (fun w hw=>hm w (by simp [hw])) (fun w hw=>hn w (by simp [hw])) a3 (by omega) hs
 refine⟨y'::l',?_,by unfold Ec at *; rw [ak9,ak9,he3,he]⟩
 rw [am1,rT]
 simp only [Bool.not_true,ak4,if_false]
 rw [o_ e,show a+oR y=a+(mM y).2.length from rfl]
 exact e3
end
end
section
open Go Hk
theorem LN:∀{l:List GE}{z:GE},z∈l→lS z≤uR (rP l)
 | x::r,z,h=>by
  simp only [rP,uR]
  rcases List.mem_cons.1 h with rfl | h
  ·exact Nat.le_max_left _ _
  ·exact Nat.le_trans (LN h) (Nat.le_max_right _ _)
theorem OG:∀r:List GE,r.length≤(uE (r.map mM)).length
 | []=>ak5 _
 | y::r=>by
  have:=OG r
  simp only [ak9,uE,am1,ac6]
  omega
section
variable {L:List Token}{a d:Nat}
theorem aoC {ex:PM XE}{w:List UInt8}{kind many:Nat}{number:Bool}(h0:sk (tk L a)=kw w) (h:(w=[109,117,108,104,105]∧kind=23∧many=2∧number=false)∨(w=[99,97,114,114,121]∧kind=24∧many=2∧number=false) ∨
  (w=[115,101,108,101,99,116]∧kind=25∧many=3∧number=false)∨(w=[119,111,114,100]∧kind=26∧many=1∧number=false)∨(w=[114,111,114]∧kind=16∧many=1∧number=true)):oA L ex a d=uX L ex kind many number a d:=by
 have hk:¬(tk L a).kind=2:=by have:(tk L a).kind=3:=congrArg Token.kind h0; omega
 unfold oA
 rw [o_ uM,if_neg hk]
 rcases h with ⟨rfl,rfl,rfl,rfl⟩ | ⟨rfl,rfl,rfl,rfl⟩ | ⟨rfl,rfl,rfl,rfl⟩ | ⟨rfl,rfl,rfl,rfl⟩ | ⟨rfl,rfl,rfl,rfl⟩
 ·rw [if_neg (by rw [oE h0]; decide),if_pos (by rw [oE h0]; decide)]
 ·rw [if_neg (by rw [oE h0]; decide),if_neg (by rw [oE h0]; decide),if_pos (by rw [oE h0]; decide)]
 ·rw [if_neg (by rw [oE h0]; decide),if_neg (by rw [oE h0]; decide),if_neg (by rw [oE h0]; decide),if_pos (by rw [oE h0]; decide)]
 ·rw [if_neg (by rw [oE h0]; decide),if_neg (by rw [oE h0]; decide),if_neg (by rw [oE h0]; decide),if_neg (by rw [oE h0]; decide),if_pos (by rw [oE h0]; decide)]
 ·rw [if_neg (by rw [oE h0]; decide),if_neg (by rw [oE h0]; decide),if_neg (by rw [oE h0]; decide),if_neg (by rw [oE h0]; decide),if_neg (by rw [oE h0]; decide),if_pos (by rw [oE h0]; decide)]
theorem VI {n:Nat}(args:List GE) (hm:∀z∈args,Main L z) (hw:∀z∈args,mY z=true) (hn:∀z∈args,lS z < n∧d+lS z≤64) (hat:At L a (uZ (args.map mM)++[sg 41])) (hl:(uZ (args.map mM)).length≤131072) :
  ∃l',vW L [41] (vQ L (Aq L n)) a d=.ok l' (a+(uZ (args.map mM)).length) d∧Ec l' args∧isS (tk L (a+(uZ (args.map mM)).length)) [41]=true:=by
 obtain⟨h1,h2,-⟩:=At.app hat
 have he:isS (tk L (a+(uZ (args.map mM)).length)) [41]=true:=by rw [oN h2]; decide
 cases args with
 | nil =>
  refine⟨[],?_,rfl,he⟩
  have he0:isS (tk L a) [41]=true:=he
  unfold vW
  rw [o_ (D_ (b:=true) he0)]; rfl
 | cons y r =>
  rw [ak9,IJ] at h1 h2 hl he ⊢
  obtain⟨l',e,hq⟩:=VX r y 131073 a [] (hm y (by simp)) (fun z hz=>hm z (by simp [hz])) hn h1 hl (by have:=OG r; simp at hl; omega) (by rw [oN h2]; decide) (y4 h2 (by decide) (by decide) rfl)
  refine⟨l',?_,hq,he⟩
  unfold vW
  rw [o_ (D_ (b:=false) (azJ (hw y (by simp)) (At.app h1).1))]
  simp only [ak4,if_false]
  rw [e]; rfl
theorem acZ {n:Int}(h:vB n=true):((n.toNat:Nat):Int)=n:=by
 have:0≤n∧n≤4294967295:=by simpa [vB] using h
 omega
end
theorem Ud {L:List Token}:∀(N:Nat) (x:GE),x.size≤N→mY x=true→Main L x
 | 0,.mk k p n name args,hs,_=>by simp only [GE.size] at hs; omega
 | N+1,.mk k p n name args,hs,h=>by
  simp only [mY,am2] at h
  simp only [GE.size] at hs
  have hw:∀z∈args,mY z=true:=fun z hz=>ag3.1 (wL args ▸ h.2) z hz
  have ih:∀z∈args,Main L z:=fun z hz=>Ud N z (by have:=GE.qQ hz; omega) (hw z hz)
  have hk:=LP h.1
  rcases FX h.1 with ⟨h8,h1,hn,hr⟩ | ⟨h8,hr⟩
  ·rcases hr with ⟨hsh,hn0,hl⟩ | ⟨hsh,h2,hn0,hl⟩
   ·match args,hl,ih with
    | [y,z],_,ih=>exact acP hk h8 h1 hsh hn0 hn (ih y (by simp)) (ih z (by simp))
   ·match args,hl,ih with
    | [y],_,ih=>exact Uf hk h8 h2 hsh hn0 hn (ih y (by simp))
  ·refine aAq h8 fun m d a hm hd hat hlen hs=>?_
   have hmem:∀(q:Nat),lS (.mk k p n name args)=uR (rP args)+1→lS (.mk k p n name args) < q+1→d+lS (.mk k p n name args)≤64→∀z∈args,lS z < q∧d+1+lS z≤64:=fun q e h1 h2 z hz=>by
    have:=LN hz; omega
   match m,hm with
   | m+1,hm =>
   rw [aoD]
   have made:∀(kk many:Nat) (w:List UInt8),k=kk→name=[]→n=0→nS k=w→args.length=many→1≤many→wG k (rP args)=uR (rP args)+1→wQ k n name (args.map mM)=kw w::sg 40::(uZ (args.map mM)++[sg 41]) →
     ((w=[109,117,108,104,105]∧kk=23∧many=2∧false=false)∨(w=[99,97,114,114,121]∧kk=24∧many=2∧false=false)∨(w=[115,101,108,101,99,116]∧kk=25∧many=3∧false=false)∨(w=[119,111,114,100]∧kk=26∧many=1∧false=false)∨(w=[114,111,114]∧kk=16∧many=1∧false=true)) →
     ∃x',uY L (vQ L (Aq L m)) (Aq L m) a d=.ok x' (a+oR (.mk k p n name args)) d∧MR x' (.mk k p n name args):=fun kk many w hkk hn hnum hw2 hlm h1m eN eK0 hc=>by
    have eK:(mM (.mk k p n name args)).2=kw w::sg 40::(uZ (args.map mM)++[sg 41]):=by
     show wQ k n name (Jw args)=_
     rw [HB]; exact eK0
    have eL:oR (.mk k p n name args)=(uZ (args.map mM)).length+3:=by unfold oR; rw [eK]; simp
    rw [eK] at hat
    obtain⟨a1,a2,a3⟩:=hat
    obtain⟨a3,a4,-⟩:=At.app a3
    have hmem2:=hmem _ eN hm hd
    have hd64:d < 64:=by
     have:lS (.mk k p n name args)=uR (rP args)+1:=eN
     omega
    have hpl:∀v,isS (tk L a) v=decide (w=v):=oE a1
    subst hlm
    cases args with
    | nil=>exact absurd h1m (by simp)
    | cons y r =>
     obtain⟨l',e,he⟩:=KI (d:=d+1) (a:=a+2) ih hmem2 a3 (by omega) (y4 a4 (by decide) (by decide) rfl)
     rw [B8 (by rw [hpl]; rcases hc with h | h | h | h | h <;> (rw [h.1]; decide)) (by rw [hpl]; rcases hc with h | h | h | h | h <;> (rw [h.1]; decide)) (by rw [hpl]; rcases hc with h | h | h | h | h <;> (rw [h.1]; decide)),aoC a1 hc,adN (by rw [oN a2]; decide) hd64 e (by show isS (tk L (a+1+1+(uZ ((y::r).map mM)).length)) _=_; rw [oN a4]; decide),eL]
     exact⟨_,by rw [show a+((uZ ((y::r).map mM)).length+3)=a+2+(uZ ((y::r).map mM)).length+1 by omega],by subst hn; exact FQ (p2:=p) hkk.symm hnum.symm he⟩
   rcases hr with ⟨rfl,hl,hn,hnum⟩ | ⟨rfl,hl,hn,hnum⟩ | ⟨rfl,hl,hn,hnum⟩ | ⟨rfl,hn,hnum⟩ | ⟨hk5,hl,hn,hnum⟩ | ⟨rfl,hl,hn,hnum⟩ | ⟨hk5,hl,hn,hnum⟩ | ⟨rfl,hl,hn,hnum⟩ | ⟨rfl,hl,hn,hnum⟩
   ·obtain rfl:args=[]:=al5.1 hl
    have a1:sk (tk L a)=nu n:=hat.1
    rw [B8 (aa3 a1 _) (aa3 a1 _) (aa3 a1 _),Yp (congrArg Token.kind a1)]
    exact⟨_,rfl,by subst hn; exact FQ (p2:=p) rfl (by rw [show(tk L a).num=n.toNat from congrArg Token.num a1]; exact acZ hnum) rfl⟩
   ·obtain rfl:args=[]:=al5.1 hl
    have a1:sk (tk L a)=nm name:=hat.1
    rw [B8 (yT a1 _) (yT a1 _) (yT a1 _),auN a1 hs.1 hs.2.1]
    exact⟨_,rfl,by rw [show(tk L a).text=name from congrArg Token.text a1]; exact FQ (p2:=p) rfl hnum.symm rfl⟩
   ·match args,hl,ih,hmem with
    | [y],_,ih,hmem =>
     have hat2:At L a (nm name::sg 91::((mM y).2++[sg 93])):=hat
     obtain⟨a1,a2,a3⟩:=hat2
     obtain⟨a3,a4,-⟩:=At.app a3
     have eN:lS (.mk 3 p n name [y])=lS y+1:=rfl
     have eL:oR (.mk 3 p n name [y])=oR y+3:=by show(nm name::sg 91::((mM y).2++[sg 93])).length=_; simp [oR]
     obtain⟨y',e,he⟩:=(ih y (by simp) m (d+1) (a+1+1) (by omega) (by omega) a3 (by omega)).2.2 (y4 a4 (by decide) (by decide) rfl)
     rw [B8 (yT a1 _) (yT a1 _) (yT a1 _),ak6 a1 (by rw [oN a2]; decide) (by rw [oN a2]; decide) (Sx (by rw [oN a2]; decide) (by omega) e (by show isS (tk L (a+1+1+(mM y).2.length)) _=_; rw [oN a4]; decide)),eL]
     exact⟨_,by rw [show a+(oR y+3)=a+1+1+oR y+1 by omega],by rw [show(tk L a).text=name from congrArg Token.text a1]; exact FQ (p2:=p) rfl hnum.symm (by unfold Ec; simp only [ak9,List.map_nil]; rw [he])⟩
   ·have eK:(mM (.mk 4 p n name args)).2=nm name::sg 40::(uZ (args.map mM)++[sg 41]):=by
     show wQ 4 n name (Jw args)=_
     rw [HB]; unfold wQ; simp [show lD 4=8 from rfl]
    have eL:oR (.mk 4 p n name args)=(uZ (args.map mM)).length+3:=by unfold oR; rw [eK]; simp
    rw [eK] at hat
    obtain⟨a1,a2,a3⟩:=hat
    obtain⟨l',e,he,hend⟩:=VI (d:=d+1) args ih hw (hmem _ rfl hm hd) a3 (by omega)
    have hd64:d < 64:=by
     have:lS (.mk 4 p n name args)=uR (rP args)+1:=rfl
     omega
    rw [B8 (yT a1 _) (yT a1 _) (yT a1 _),Yo a1 (by rw [oN a2]; decide) (V7 (by rw [oN a2]; decide) hd64 e hend),eL]
    exact⟨_,by rw [show a+((uZ (args.map mM)).length+3)=a+1+1+(uZ (args.map mM)).length+1 by omega],by rw [show(tk L a).text=name from congrArg Token.text a1]; exact FQ (p2:=p) rfl hnum.symm he⟩
   ·match args,hl,ih with
    | [y],_,ih =>
     have hkey:∀(kk:Nat) (w:List UInt8),k=kk→nS k=w→((w=[126]∧kk=5)∨(w=[45]∧kk=6)∨(w=[33]∧kk=7))→∃x',uY L (vQ L (Aq L m)) (Aq L m) a d=.ok x' (a+oR (.mk k p n name [y])) d∧MR x' (.mk k p n name [y]):=fun kk w hkk hw2 hc=>by
      have eK:(mM (.mk k p n name [y])).2=J8 w::rG (decide (lD y.kind=8)) (mM y):=by
       rw [←HC y,←hw2]
       rcases hk5 with rfl | rfl | rfl <;> rfl
      have eN:lS (.mk k p n name [y])=qP (decide (lD y.kind=8)) (lU y)+1:=by
       rw [←zL y]
       rcases hk5 with rfl | rfl | rfl <;> rfl
      have eL:oR (.mk k p n name [y])=(rG (decide (lD y.kind=8)) (mM y)).length+1:=by unfold oR; rw [eK]; rfl
      have hb:decide (lD y.kind=8)=true→8 - 0≤lD y.kind:=fun h=>by have:=of_decide_eq_true h; omega
      generalize decide (lD y.kind=8)=b at *
      rw [eK] at hat
      rw [eL] at hs hlen ⊢
      obtain⟨y',e,he⟩:=Hl (ih y (by simp)) (n:=m) (d:=d+1) (j:=0) hb (ak5 _) (by omega) (by omega) hat.2 (by omega) (by rw [show a+1+(rG b (mM y)).length=a+((rG b (mM y)).length+1) by omega]; exact hs)
      have e:Aq L m (a+1) (d+1)=.ok y' (a+1+(rG b (mM y)).length) (d+1):=e
      rw [Yq hat.1 hc (by omega) e]
      exact⟨_,by rw [show a+1+(rG b (mM y)).length=a+((rG b (mM y)).length+1) by omega],by subst hkk; exact Z6 rfl hnum.symm hn he⟩
     rcases hk5 with rfl | rfl | rfl
     ·exact hkey 5 [126] rfl rfl (.inl ⟨rfl,rfl⟩)
     ·exact hkey 6 [45] rfl rfl (.inr (.inl ⟨rfl,rfl⟩))
     ·exact hkey 7 [33] rfl rfl (.inr (.inr ⟨rfl,rfl⟩))
   ·match args,hl,ih,hmem with
    | [y],_,ih,hmem =>
     have hat2:At L a (kw (nS 16)::sg 40::(uZ ([y].map mM)++[sg 44,nu n,sg 41])):=by
      have:(mM (.mk 16 p n name [y])).2=kw (nS 16)::sg 40::(uZ ([y].map mM)++[sg 44,nu n,sg 41]):=by
       show kw (nS 16)::sg 40::(uZ [mM y]++[sg 44,nu n]++[sg 41])=_
       simp
      rw [this] at hat; exact hat
     obtain⟨a1,a2,a3⟩:=hat2
     obtain⟨a3,a4,a5,a6,-⟩:=At.app a3
     have eL:oR (.mk 16 p n name [y])=(uZ ([y].map mM)).length+5:=by show(kw (nS 16)::sg 40::(uZ [mM y]++[sg 44,nu n]++[sg 41])).length=_; simp
     obtain⟨l',e,he⟩:=KI (d:=d+1) (a:=a+2) ih (hmem _ rfl hm hd) a3 (by omega) (y4 a4 (by decide) (by decide) rfl)
     have e:rT L (vQ L (Aq L m)) 1 true [] (a+2) (d+1)=.ok l' (a+2+(uZ ([y].map mM)).length) (d+1):=e
     have hd64:d < 64:=by
      have:lS (.mk 16 p n name [y])=uR (rP [y])+1:=rfl
      omega
     rw [B8 (by rw [oE a1]; decide) (by rw [oE a1]; decide) (by rw [oE a1]; decide),aoC a1 (.inr (.inr (.inr (.inr ⟨rfl,rfl,rfl,rfl⟩)))),
      adO (by rw [oN a2]; decide) hd64 e (by show isS (tk L (a+1+1+(uZ ([y].map mM)).length)) _=_; rw [oN a4]; decide) (by show(tk L (a+1+1+(uZ ([y].map mM)).length+1)).kind=2; exact congrArg Token.kind a5) (by show isS (tk L (a+1+1+(uZ ([y].map mM)).length+1+1)) _=_; rw [oN a6]; decide),eL]
     have e5:(tk L (a+2+(uZ ([y].map mM)).length+1)).num=n.toNat:=congrArg Token.num a5
     rw [e5]
     exact⟨_,by rw [show a+((uZ ([y].map mM)).length+5)=a+2+(uZ ([y].map mM)).length+3 by omega],by subst hn; exact FQ (p2:=p) rfl (acZ hnum) he⟩
   ·rcases hk5 with rfl | rfl
    ·exact made 23 2 _ rfl hn hnum rfl hl (by decide) rfl (by subst hn; unfold wQ; simp [show lD 23=8 from rfl]) (.inl ⟨rfl,rfl,rfl,rfl⟩)
    ·exact made 24 2 _ rfl hn hnum rfl hl (by decide) rfl (by subst hn; unfold wQ; simp [show lD 24=8 from rfl]) (.inr (.inl ⟨rfl,rfl,rfl,rfl⟩))
   ·exact made 25 3 _ rfl hn hnum rfl hl (by decide) rfl (by subst hn; unfold wQ; simp [show lD 25=8 from rfl]) (.inr (.inr (.inl ⟨rfl,rfl,rfl,rfl⟩)))
   ·exact made 26 1 _ rfl hn hnum rfl hl (by decide) rfl (by subst hn; unfold wQ; simp [show lD 26=8 from rfl]) (.inr (.inr (.inr (.inl ⟨rfl,rfl,rfl,rfl⟩))))
end
section
open Go Hk
def xO (l:Int):Token:=kw (if l=1 then [115,101,99] else [112,117,98])
def sQ (t:GT):List Token:=kw (if t.elem=1 then [109,97,115,107] else if t.elem=2 then [117,56] else [117,51,50])::(if 0 < t.len then [sg 91,nu t.len,sg 93] else [])
def oH (l:List (List Token)):List Token:=sg 123::(l.flatten++[sg 125])
def EU (k m:Int) (name:List UInt8) (ty:GT) (args:List (List Token)) (body els:List Token) (has:Bool):List Token :=
 let a:=(args[0]?).getD []
 if k=1 then kw [108,101,116]::nm name::sg 61::(a++[sg 59])
 else if k=2 then kw [118,97,114]::xO ty.label::nm name::sg 58::(sQ ty++[sg 59])
 else if k=3 then nm name::sg 61::(a++[sg 59])
 else if k=4 then nm name::sg 91::(a++sg 93::sg 61::((args[1]?).getD []++[sg 59]))
 else if k=5 then kw [105,102]::(a++(body++(if has then kw [101,108,115,101]::els else [])))
 else if k=6 then kw [102,111,114]::nm name::sg 60::(a++kw [109,97,120]::nu m::body)
 else if k=8 then kw [114,101,116,117,114,110]::(a++[sg 59])
 else a++[sg 59]
mutual
def Ca:GS→List Token
 | .mk k _ m name ty args body els has=>EU k m name ty (args.map fun x=>(mM x).2) (oH (rH body)) (oH (rH els)) has
def rH:List GS→List (List Token)
 | []=>[]
 | x::r=>Ca x::rH r
end
theorem MF:∀l:List GS,rH l=l.map Ca
 | []=>rfl
 | x::r=>by simp [rH,MF r]
theorem Ip:∀(n:Nat) {r:List UInt8}{U:List Token},rJ r U→rJ (qA n++r) U
 | 0,_,_,h=>h
 | n+1,_,_,h=>vV (Ip n h)
inductive RLB:List (List UInt8)→List (List Token)→Prop
 | nil:RLB [] []
 | cons {t:List UInt8}{K:List Token}{l:List (List UInt8)}{m:List (List Token)}(h:LW t K) (k:RLB l m):RLB (t::l) (K::m)
theorem abL {n:Nat}{l:List (List UInt8)}{m:List (List Token)}(h:RLB l m):∀{r:List UInt8}{U:List Token},rJ r U→rJ ((l.map fun t=>qA n++(t++[10])).flatten++r) (m.flatten++U):=by
 induction h with
 | nil=>intro r U k; exact k
 | cons h _ ih =>
  intro r U k
  simp only [ak9,List.flatten_cons,al2,af5,an4]
  exact Ip n (h _ _ (nU rfl) (VP (ih k)))
theorem Lt {n:Nat}{l:List (List UInt8)}{m:List (List Token)}(h:RLB l m):LW (nQ n l) (oH m):=by
 intro r U _ k
 unfold nQ oH
 simp only [al2,af5,an4]
 exact vV (uW 123 (by decide) (VP (abL h (Ip n (uW 125 (by decide) k)))))
theorem Lu {l:Int}{r:List UInt8}{U:List Token}(k:rJ r U):rJ (oO l++r) (xO l::U):=by
 unfold oO xO
 split
 ·exact yN (t:=[115,101,99]) (by decide) (nU rfl) (vV k)
 ·exact yN (t:=[112,117,98]) (by decide) (nU rfl) (vV k)
theorem PT {t:GT}(ht:vB t.len=true):LW (vO t) (sQ t):=by
 intro r U hr k
 unfold vO sQ
 have key:∀{s:List UInt8}{V:List Token},NB s→rJ s V→rJ ((if t.elem=1 then [109,97,115,107] else if t.elem=2 then [117,56] else [117,51,50])++s) (kw (if t.elem=1 then [109,97,115,107] else if t.elem=2 then [117,56] else [117,51,50])::V):=fun hs hk=>by
  split
  ·exact yN (by decide) hs hk
  ·split <;> exact yN (by decide) hs hk
 rw [al2,af5]
 by_cases h:0 < t.len
 ·rw [if_pos h,if_pos h]
  simp only [al2,af5,an4]
  exact key (nU rfl) (uW 91 (by decide) (Lv ht (nU rfl) (uW 93 (by decide) k)))
 ·rw [if_neg h,if_neg h]
  exact key hr k
theorem Fp {t:GT}(h:rV t=true):vB t.len=true:=by
 unfold rV at h
 simp only [am2] at h
 exact h.1.2
theorem arR {k m:Int}{name:List UInt8}{ty:GT}{args:List GE}{nb ne:Nat}{has:Bool}(h:lW k m name ty args nb ne has=true):1≤k∧k≤8:=by
 unfold lW lO at h
 split at h
 ·cases h
 ·rename_i m hm
  split at hm
  ·cases hm
  ·omega
theorem DZ {k m:Int}{name:List UInt8}{ty:GT}{args:List GE}{nb ne:Nat}{has:Bool}(h:lW k m name ty args nb ne has=true) :
  (k=1∧(∃x,args=[x]∧mY x=true)∧pH name=true∧m=0∧ty=GT.zero∧nb=0∧ne=0∧has=false) ∨
  (k=2∧args=[]∧pH name=true∧m=0∧rV ty=true∧nb=0∧ne=0∧has=false) ∨
  (k=3∧(∃x,args=[x]∧mY x=true)∧pH name=true∧m=0∧ty=GT.zero∧nb=0∧ne=0∧has=false) ∨
  (k=4∧(∃x y,args=[x,y]∧mY x=true∧mY y=true)∧pH name=true∧m=0∧ty=GT.zero∧nb=0∧ne=0∧has=false) ∨
  (k=5∧(∃x,args=[x]∧mY x=true)∧name=[]∧m=0∧ty=GT.zero∧(has=true∨ne=0)) ∨
  (k=6∧(∃x,args=[x]∧mY x=true)∧pH name=true∧vB m=true∧ty=GT.zero∧ne=0∧has=false) ∨
  (k=7∧(∃p n nm l,args=[.mk 4 p n nm l]∧mY (.mk 4 p n nm l)=true)∧name=[]∧m=0∧ty=GT.zero∧nb=0∧ne=0∧has=false) ∨
  (k=8∧(∃x,args=[x]∧mY x=true)∧name=[]∧m=0∧ty=GT.zero∧nb=0∧ne=0∧has=false):=by
 have hr:=arR h
 have one:args.length=1→mZ args=true→∃x,args=[x]∧mY x=true:=fun h1 h2=>by
  match args,h1,h2 with
  | [x],_,h2=>exact⟨x,rfl,by simpa [mZ] using h2⟩
 have hc:k=1∨k=2∨k=3∨k=4∨k=5∨k=6∨k=7∨k=8:=by omega
 rcases hc with rfl | rfl | rfl | rfl | rfl | rfl | rfl | rfl <;> simp [lW,lO,lM,lF] at h
 ·exact .inl ⟨rfl,one (by simp_all) (by simp_all),by simp_all,by simp_all,by simp_all,by simp_all,by rcases h.2 with h' | h' <;> simp_all,by simp_all⟩
 ·exact .inr (.inl ⟨rfl,by simp_all,by simp_all,by simp_all,by simp_all,by simp_all,by rcases h.2 with h' | h' <;> simp_all,by simp_all⟩)
 ·exact .inr (.inr (.inl ⟨rfl,one (by simp_all) (by simp_all),by simp_all,by simp_all,by simp_all,by simp_all,by rcases h.2 with h' | h' <;> simp_all,by simp_all⟩))
 ·refine .inr (.inr (.inr (.inl ⟨rfl,?_,by simp_all,by simp_all,by simp_all,by simp_all,by rcases h.2 with h' | h' <;> simp_all,by simp_all⟩)))
  have h1:args.length=2:=by simp_all
  have h2:mZ args=true:=by simp_all
  match args,h1,h2 with
  | [x,y],_,h2=>simp [mZ] at h2; exact⟨x,y,rfl,h2.1,h2.2⟩
 ·exact .inr (.inr (.inr (.inr (.inl ⟨rfl,one (by simp_all) (by simp_all),by simp_all,by simp_all,by rcases h.2 with h' | h' <;> simp_all,by simp_all⟩))))
 ·exact .inr (.inr (.inr (.inr (.inr (.inl ⟨rfl,one (by simp_all) (by simp_all),by simp_all,by simp_all,by simp_all,by rcases h.2 with h' | h' <;> simp_all,by simp_all⟩)))))
 ·refine .inr (.inr (.inr (.inr (.inr (.inr (.inl ⟨rfl,?_,by simp_all,by simp_all,by simp_all,by simp_all,by rcases h.2 with h' | h' <;> simp_all,by simp_all⟩))))))
  obtain⟨x,e,hx⟩:=one (by simp_all) (by simp_all)
  subst e
  obtain⟨k,p,n,nm,l⟩:=x
  have hk:k=4:=by simp [Rm,GE.kind] at h; simp_all
  subst hk
  exact⟨p,n,nm,l,rfl,hx⟩
 ·exact .inr (.inr (.inr (.inr (.inr (.inr (.inr ⟨rfl,one (by simp_all) (by simp_all),by simp_all,by simp_all,by simp_all,by simp_all,by rcases h.2 with h' | h' <;> simp_all,by simp_all⟩))))))
theorem aiS {k m:Int}{name:List UInt8}{ty:GT}{args:List GE}{body els:List (List UInt8)}{bodyK elsK:List (List Token)}{has:Bool}{nb ne n:Nat}(h:lW k m name ty args nb ne has=true) (hb:RLB body bodyK) (he:RLB els elsK) :
  LW (xC k m name ty (args.map mB) (nQ n body) (nQ n els) has) (EU k m name ty (args.map fun x=>(mM x).2) (oH bodyK) (oH elsK) has):=by
 have hB:=Lt (n:=n) hb
 have hE:=Lt (n:=n) he
 have ex:∀{x:GE},mY x=true→LW (mB x) (mM x).2:=fun hx=>(azQ _ hx).2.1
 have nbB:∀(l:List (List UInt8)) (s:List UInt8),NB (nQ n l++s):=fun l s=>nU rfl
 intro r U hr kk
 rcases DZ h with ⟨rfl,⟨x,rfl,hx⟩,hn,_⟩ | ⟨rfl,rfl,hn,_,ht,_⟩ | ⟨rfl,⟨x,rfl,hx⟩,hn,_⟩ | ⟨rfl,⟨x,y,rfl,hx,hy⟩,hn,_⟩ | ⟨rfl,⟨x,rfl,hx⟩,hn,_⟩ | ⟨rfl,⟨x,rfl,hx⟩,hn,hm,_⟩ | ⟨rfl,⟨p,q,w,l,rfl,hx⟩,hn,_⟩ | ⟨rfl,⟨x,rfl,hx⟩,hn,_⟩
 ·have g:rJ ([108,101,116]++(32::(name++(32::([61]++32::(mB x++(59::r))))))) (kw [108,101,116]::nm name::J8 [61]::((mM x).2++(sg 59::U))) :=
   yN (by decide) (nU rfl) (vV (Ad hn (nU rfl) (vV (Oh (by decide) (ex hx _ _ (nU rfl) (uW 59 (by decide) kk))))))
  simpa [xC,EU,J8,sg] using g
 ·have g:rJ ([118,97,114]++(32::(oO ty.label++(name++(58::(32::(vO ty++(59::r)))))))) (kw [118,97,114]::xO ty.label::nm name::sg 58::(sQ ty++(sg 59::U))) :=
   yN (by decide) (nU rfl) (vV (Lu (Ad hn (nU rfl) (uW 58 (by decide) (vV (PT (Fp ht) _ _ (nU rfl) (uW 59 (by decide) kk)))))))
  simpa [xC,EU] using g
 ·have g:rJ (name++(32::([61]++32::(mB x++(59::r))))) (nm name::J8 [61]::((mM x).2++(sg 59::U))) :=
   Ad hn (nU rfl) (vV (Oh (by decide) (ex hx _ _ (nU rfl) (uW 59 (by decide) kk))))
  simpa [xC,EU,J8,sg] using g
 ·have g:rJ (name++(91::(mB x++(93::(32::([61]++32::(mB y++(59::r)))))))) (nm name::sg 91::((mM x).2++(sg 93::J8 [61]::((mM y).2++(sg 59::U))))) :=
   Ad hn (nU rfl) (uW 91 (by decide) (ex hx _ _ (nU rfl) (uW 93 (by decide) (vV (Oh (by decide) (ex hy _ _ (nU rfl) (uW 59 (by decide) kk)))))))
  simpa [xC,EU,J8,sg] using g
 ·cases has with
  | false =>
   have g:rJ ([105,102]++(32::(mB x++(nQ n body++r)))) (kw [105,102]::((mM x).2++(oH bodyK++U))) :=
    yN (by decide) (nU rfl) (vV (ex hx _ _ (nbB _ _) (hB _ _ hr kk)))
   simpa [xC,EU] using g
  | true =>
   have g:rJ ([105,102]++(32::(mB x++(nQ n body++(32::([101,108,115,101]++(nQ n els++r))))))) (kw [105,102]::((mM x).2++(oH bodyK++(kw [101,108,115,101]::(oH elsK++U))))) :=
    yN (by decide) (nU rfl) (vV (ex hx _ _ (nbB _ _) (hB _ _ (nU rfl) (vV (yN (by decide) (nbB _ _) (hE _ _ hr kk))))))
   simpa [xC,EU] using g
 ·have g:rJ ([102,111,114]++(32::(name++(32::([60]++32::(mB x++(32::([109,97,120]++(32::(uK m++(nQ n body++r))))))))))) (kw [102,111,114]::nm name::J8 [60]::((mM x).2++(kw [109,97,120]::nu m::(oH bodyK++U)))) :=
   yN (by decide) (nU rfl) (vV (Ad hn (nU rfl) (vV (Oh (by decide) (ex hx _ _ (nU rfl) (vV (yN (by decide) (nU rfl) (vV (Lv hm (nbB _ _) (hB _ _ hr kk))))))))))
  simpa [xC,EU,J8,sg] using g
 ·have g:rJ (mB (.mk 4 p q w l)++(59::r)) ((mM (.mk 4 p q w l)).2++(sg 59::U)):=ex hx _ _ (nU rfl) (uW 59 (by decide) kk)
  simpa [xC,EU] using g
 ·have g:rJ ([114,101,116,117,114,110]++(32::(mB x++(59::r)))) (kw [114,101,116,117,114,110]::((mM x).2++(sg 59::U))) :=
   yN (by decide) (nU rfl) (vV (ex hx _ _ (nU rfl) (uW 59 (by decide) kk)))
  simpa [xC,EU] using g
mutual
theorem aEm:∀(x:GS) (n:Nat),pQ x=true→LW (p_ n x) (Ca x)
 | .mk k p m name ty args body els has,n,h=>by
  simp only [pQ,am2] at h
  exact aiS h.1.1 (VO body (n+1) h.1.2) (VO els (n+1) h.2)
theorem VO:∀(l:List GS) (n:Nat),oI l=true→RLB (n9 n l) (rH l)
 | [],_,_=>.nil
 | x::r,n,h=>by
  simp only [oI,am2] at h
  exact .cons (aEm x n h.1) (VO r n h.2)
end
def oU (p:GP):List Token:=(if p.out then [kw [111,117,116]] else [])++xO p.ty.label::nm p.name::sg 58::sQ p.ty
def tU:List (List Token)→List Token
 | []=>[]
 | [p]=>p
 | p::r=>p++sg 44::tU r
def Ea (f:GF):List Token:=kw [102,110]::nm f.name::sg 40::(tU (f.params.map oU)++sg 41::((if f.has then sg 58::xO f.result.label::sQ f.result else [])++oH (rH f.body)))
theorem abK {p:GP}(h:uF p=true):LW (pP p) (oU p):=by
 unfold uF at h
 simp only [am2] at h
 intro r U hr k
 have g:=Lu (l:=p.ty.label) (Ad h.1 (nU rfl) (uW 58 (by decide) (vV (PT (Fp h.2) _ _ hr k))))
 unfold pP oU
 split
 ·have g2:=yN (t:=[111,117,116]) (by decide) (nU rfl) (vV g)
  simpa using g2
 ·simpa using g
theorem VQ {l:List (List UInt8)}{m:List (List Token)}(h:RLB l m):∀{r:List UInt8}{U:List Token},NB r→rJ r U→rJ (wO l++r) (tU m++U):=by
 induction h with
 | nil=>intro r U _ k; exact k
 | @cons p q l m h1 h2 ih =>
  intro r U hr k
  cases h2 with
  | nil=>exact h1 r U hr k
  | cons h3 h4 =>
   simp only [wO,tU,al2,af5]
   exact h1 _ _ (nU rfl) (uW 44 (by decide) (vV (ih hr k)))
theorem Oz:∀{l:List GP},l.all uF=true→RLB (l.map pP) (l.map oU)
 | [],_=>.nil
 | p::r,h=>by
  simp only [List.all_cons,am2] at h
  exact .cons (abK h.1) (Oz h.2)
theorem aEl {f:GF}(h:qE f=true) {r:List UInt8}{U:List Token}(k:rJ r U):rJ (qI f++r) (Ea f++U):=by
 unfold qE at h
 simp only [am2] at h
 have hb:=Lt (n:=0) (VO f.body 1 h.1.1.2)
 have hp:=Oz h.1.2
 by_cases hh:f.has=true
 ·have h2:=h.2
  rw [if_pos hh] at h2
  simp only [am2] at h2
  have nbB:NB (nQ 0 (n9 1 f.body)++10::r):=nU rfl
  have g:=yN (t:=[102,110]) (by decide) (nU rfl) (vV (Ad h.1.1.1 (nU rfl) (uW 40 (by decide) (VQ hp (nU rfl) (uW 41 (by decide) (uW 58 (by decide) (vV (Lu (l:=f.result.label) (PT (Fp h2.1.1) _ _ nbB (hb _ _ (nU rfl) (VP k)))))))))))
  simpa [qI,Ea,hh] using g
 ·have g:=yN (t:=[102,110]) (by decide) (nU rfl) (vV (Ad h.1.1.1 (nU rfl) (uW 40 (by decide) (VQ hp (nU rfl) (uW 41 (by decide) (hb _ _ (nU rfl) (VP k)))))))
  simpa [qI,Ea,hh] using g
theorem Lw:∀{l:List GF},l.all qE=true→rJ ((l.map qI).flatten) ((l.map Ea).flatten)
 | [],_=>.nil
 | f::r,h=>by
  simp only [List.all_cons,am2] at h
  simp only [ak9,List.flatten_cons]
  exact aEl h.1 (Lw h.2)
theorem abE {d:List UInt8}{T:List Token}(h:rJ d T):T.length≤d.length:=by
 induction h with
 | nil=>exact ac9 _
 | blank _ _ ih=>simp only [am1]; omega
 | tok _ _ _ _ _ ih=>simp only [am1,ac6]; omega
end
section
open Go Hk
mutual
def GS.zR:GS→GS
 | .mk k _ m name ty args body els has=>.mk k 0 m name ty (GE.y8 args) (GS.y8 body) (GS.y8 els) has
def GS.y8:List GS→List GS
 | []=>[]
 | x::r=>x.zR::GS.y8 r
end
theorem GS.BE:∀l:List GS,GS.y8 l=l.map GS.zR
 | []=>rfl
 | x::r=>by simp [GS.y8,GS.BE r]
def EqS (x':XS) (x:GS):Prop:=x'.pC.zR=x.zR
def MV (l':List XS) (l:List GS):Prop:=l'.map (fun x=>x.pC.zR)=l.map GS.zR
theorem DD {k p m:Nat}{p2 m2 k2:Int}{name:List UInt8}{ty':Ty}{ty:GT}{a':List XE}{l:List GE}{b' e':List XS}{b e:List GS}{has:Bool}(hk:(k:Int)=k2) (hm:(m:Int)=m2) (ht:ty'.pC=ty) (ha:Ec a' l) (hb:MV b' b) (he:MV e' e) :
  EqS (.mk k p m name ty' a' b' e' has) (.mk k2 p2 m2 name ty l b e has):=by
 unfold EqS Ec MV at *
 simp only [XS.pC,GS.zR,hk,hm,ht,GE.BE,XE.CG,GS.BE,XS.CG,List.map_map]
 rw [←ha,←hb,←he]; rfl
theorem KW {x':XE}{x:GE}(h:MR x' x):Ec [x'] [x]:=by unfold Ec; simp only [ak9,List.map_nil]; rw [h]
theorem aq0 {x' y':XE}{x y:GE}(h:MR x' x) (k:MR y' y):Ec [x',y'] [x,y]:=by unfold Ec; simp only [ak9,List.map_nil]; rw [h,k]
theorem Co:MV [] []:=rfl
section
variable {L:List Token}{a a1 a2 d:Nat}
theorem J2 {l:Int}(hl:l=0∨l=1) (h:sk (tk L a)=xO l):rO L a d=.ok l.toNat (a+1) d:=by
 unfold rO
 unfold xO at h
 rcases hl with rfl | rfl
 ·rw [if_neg (by rw [oE h]; decide),if_pos (by rw [oE h]; decide)]; rfl
 ·rw [if_pos (by rw [oE h]; decide)]; rfl
theorem adA {n:Int}(hn:vB n=true) (h0:n≠0) (h1:sk (tk L a)=sg 91) (h2:sk (tk L (a+1))=nu n) (h3:sk (tk L (a+2))=sg 93):xZ L a d=.ok n.toNat (a+3) d:=by
 have e:=acZ hn
 have k2:(tk L (a+1)).kind=2:=congrArg Token.kind h2
 have n2:(tk L (a+1)).num=n.toNat:=congrArg Token.num h2
 unfold xZ
 rw [o_ (vU (by rw [oN h1]; decide)),o_ uM,if_neg (by rw [n2]; omega),o_ (y_ k2),o_ (vU (by rw [oN h3]; decide)),n2]; rfl
theorem adB {l:Nat}(h:sk (tk L a)=kw [109,97,115,107]):pR L l a d=.ok ⟨1,0,l⟩ (a+1) d:=by
 unfold pR
 rw [if_pos (by rw [oE h]; decide)]
theorem adC {l:Nat}(h:sk (tk L a)=kw [117,51,50]):pR L l a d=.ok ⟨0,0,l⟩ (a+1) d:=by
 unfold pR
 rw [if_neg (by rw [oE h]; decide),if_pos (by rw [oE h]; decide)]
theorem E9 {t:GT}(h:rV t=true):t.label=0∨t.label=1:=by
 unfold rV at h
 simp only [am2,Bool.or_eq_true,beq_iff_eq] at h
 exact h.1.1
theorem Qe {t:GT}(ht:rV t=true) (h:At L a (sQ t)) (hs:isS (tk L (a+(sQ t).length)) [91]=false):∃ty,uL L t.label.toNat a d=.ok ty (a+(sQ t).length) d∧ty.pC=t:=by
 have hl:=E9 ht
 have hn:=Fp ht
 have he:=acZ hn
 have hle:((t.label.toNat:Nat):Int)=t.label:=by omega
 unfold rV at ht
 simp only [am2,Bool.or_eq_true,beq_iff_eq,bne_iff_ne] at ht
 obtain⟨elem,len,label⟩:=t
 simp only at hl hn he hle ht
 unfold uL
 rcases ht.2 with (rfl | ⟨rfl,rfl⟩) | ⟨rfl,hz⟩
 ·by_cases h0:0 < len
  ·have eK:sQ ⟨0,len,label⟩=[kw [117,51,50],sg 91,nu len,sg 93]:=by unfold sQ; simp [h0]
   rw [eK] at h hs ⊢
   obtain⟨a1,a2,a3,a4,-⟩:=h
   refine⟨⟨0,len.toNat,label.toNat⟩,?_,by simp only [Ty.pC,he,hle]; rfl⟩
   rw [o_ (Bi (by rw [oE a1]; decide))]
   simp only [ak4,if_false]
   rw [o_ (adC a1),if_pos rfl,o_ (D_ (b:=true) (by rw [oN a2]; decide))]
   simp only [if_true]
   rw [o_ (adA hn (by omega) a2 a3 a4)]; rfl
  ·have eK:sQ ⟨0,len,label⟩=[kw [117,51,50]]:=by unfold sQ; simp [h0]
   rw [eK] at h hs ⊢
   obtain⟨a1,-⟩:=h
   refine⟨⟨0,0,label.toNat⟩,?_,by simp only [Ty.pC,hle]; congr 1; simp [vB] at hn; omega⟩
   rw [o_ (Bi (by rw [oE a1]; decide))]
   simp only [ak4,if_false]
   have hs:isS (tk L (a+1)) [91]=false:=hs
   rw [o_ (adC a1),if_pos rfl,o_ (D_ (b:=false) hs)]
   simp only [ak4,if_false]; rfl
 ·have eK:sQ ⟨1,0,label⟩=[kw [109,97,115,107]]:=rfl
  rw [eK] at h hs ⊢
  obtain⟨a1,-⟩:=h
  refine⟨⟨1,0,label.toNat⟩,?_,by simp only [Ty.pC,hle]; rfl⟩
  rw [o_ (Bi (by rw [oE a1]; decide))]
  simp only [ak4,if_false]
  rw [o_ (adB a1),if_neg (fun h=>by cases h)]; rfl
 ·have h0:0 < len:=by simp [vB] at hn; omega
  have eK:sQ ⟨2,len,label⟩=[kw [117,56],sg 91,nu len,sg 93]:=by unfold sQ; simp [h0]
  rw [eK] at h hs ⊢
  obtain⟨a1,a2,a3,a4,-⟩:=h
  refine⟨⟨2,len.toNat,label.toNat⟩,?_,by simp only [Ty.pC,he,hle]; rfl⟩
  rw [o_ (D7 (by rw [oE a1]; decide))]
  simp only [if_true]
  rw [o_ (adA hn hz a2 a3 a4)]; rfl
variable {n:Nat}{block:PM (List XS)}
theorem auH {x:XE}(h:AE L n a d=.ok x a1 d) (h2:isS (tk L a1) [59]=true):y9 L n a d=.ok [x] (a1+1) d:=by
 unfold y9
 rw [o_ h,o_ (vU h2)]; rfl
theorem auL {l:List XE}(h:sk (tk L a)=kw [108,101,116]) (h1:(tk L (a+1)).kind=1) (h2:isS (tk L (a+2)) [61]=true) (h3:y9 L n (a+3) d=.ok l a1 d) :
  qM L block n a d=.ok (.mk 1 (tk L a).pos 0 (tk L (a+1)).text ⟨0,0,0⟩ l [] [] false) a1 d:=by
 unfold qM
 rw [o_ uM,o_ (D7 (by rw [oE h]; decide))]
 simp only [if_true]
 rw [o_ (y_ h1),o_ (vU h2),o_ h3]; rfl
theorem ak8 {lab:Nat}{ty:Ty}(h:sk (tk L a)=kw [118,97,114]) (h1:rO L (a+1) d=.ok lab (a+2) d) (h2:(tk L (a+2)).kind=1) (h3:isS (tk L (a+3)) [58]=true) (h4:uL L lab (a+4) d=.ok ty a1 d) (h5:isS (tk L a1) [59]=true) :
  qM L block n a d=.ok (.mk 2 (tk L a).pos 0 (tk L (a+2)).text ty [] [] [] false) (a1+1) d:=by
 unfold qM
 rw [o_ uM,o_ (Bi (by rw [oE h]; decide))]
 simp only [ak4,if_false]
 rw [o_ (D7 (by rw [oE h]; decide))]
 simp only [if_true]
 rw [o_ h1,o_ (y_ h2),o_ (vU h3),o_ h4,o_ (vU h5)]; rfl
theorem auJ {x:XE}{b:List XS}(h:sk (tk L a)=kw [105,102]) (h1:AE L n (a+1) d=.ok x a1 d) (h2:block a1 d=.ok b a2 d) (h3:isS (tk L a2) [101,108,115,101]=false) :
  qM L block n a d=.ok (.mk 5 (tk L a).pos 0 [] ⟨0,0,0⟩ [x] b [] false) a2 d:=by
 unfold qM
 rw [o_ uM,o_ (Bi (by rw [oE h]; decide))]
 simp only [ak4,if_false]
 rw [o_ (Bi (by rw [oE h]; decide))]
 simp only [ak4,if_false]
 rw [o_ (D7 (by rw [oE h]; decide))]
 simp only [if_true]
 rw [o_ h1,o_ h2,o_ (Bi h3)]
 simp only [ak4,if_false]; rfl
theorem auK {x:XE}{b e:List XS}{a3:Nat}(h:sk (tk L a)=kw [105,102]) (h1:AE L n (a+1) d=.ok x a1 d) (h2:block a1 d=.ok b a2 d) (h3:isS (tk L a2) [101,108,115,101]=true) (h4:block (a2+1) d=.ok e a3 d) :
  qM L block n a d=.ok (.mk 5 (tk L a).pos 0 [] ⟨0,0,0⟩ [x] b e true) a3 d:=by
 unfold qM
 rw [o_ uM,o_ (Bi (by rw [oE h]; decide))]
 simp only [ak4,if_false]
 rw [o_ (Bi (by rw [oE h]; decide))]
 simp only [ak4,if_false]
 rw [o_ (D7 (by rw [oE h]; decide))]
 simp only [if_true]
 rw [o_ h1,o_ h2,o_ (D7 h3)]
 simp only [if_true]
 rw [o_ h4]; rfl
theorem auI {x:XE}{b:List XS}(h:sk (tk L a)=kw [102,111,114]) (h1:(tk L (a+1)).kind=1) (h2:isS (tk L (a+2)) [60]=true) (h3:AE L n (a+3) d=.ok x a1 d) (h4:isS (tk L a1) [109,97,120]=true) (h5:(tk L (a1+1)).kind=2) (h6:block (a1+2) d=.ok b a2 d) :
  qM L block n a d=.ok (.mk 6 (tk L a).pos (tk L (a1+1)).num (tk L (a+1)).text ⟨0,0,0⟩ [x] b [] false) a2 d:=by
 unfold qM
 rw [o_ uM,o_ (Bi (by rw [oE h]; decide))]
 simp only [ak4,if_false]
 rw [o_ (Bi (by rw [oE h]; decide))]
 simp only [ak4,if_false]
 rw [o_ (Bi (by rw [oE h]; decide))]
 simp only [ak4,if_false]
 rw [o_ (D7 (by rw [oE h]; decide))]
 simp only [if_true]
 rw [o_ (y_ h1),o_ (vU h2),o_ h3,o_ (vU h4),o_ (y_ h5),o_ h6]; rfl
theorem auM {l:List XE}(h:sk (tk L a)=kw [114,101,116,117,114,110]) (h1:y9 L n (a+1) d=.ok l a1 d) :
  qM L block n a d=.ok (.mk 8 (tk L a).pos 0 [] ⟨0,0,0⟩ l [] [] false) a1 d:=by
 unfold qM
 rw [o_ uM,o_ (Bi (by rw [oE h]; decide))]
 simp only [ak4,if_false]
 rw [o_ (Bi (by rw [oE h]; decide))]
 simp only [ak4,if_false]
 rw [o_ (Bi (by rw [oE h]; decide))]
 simp only [ak4,if_false]
 rw [o_ (Bi (by rw [oE h]; decide))]
 simp only [ak4,if_false]
 rw [o_ (D7 (by rw [oE h]; decide))]
 simp only [if_true]
 rw [o_ h1]; rfl
theorem L_ {w:List UInt8}(h:sk (tk L a)=nm w):qM L block n a d=pG L n (tk L a).pos a d:=by
 unfold qM
 rw [o_ uM,o_ (Bi (yT h _))]
 simp only [ak4,if_false]
 rw [o_ (Bi (yT h _))]
 simp only [ak4,if_false]
 rw [o_ (Bi (yT h _))]
 simp only [ak4,if_false]
 rw [o_ (Bi (yT h _))]
 simp only [ak4,if_false]
 rw [o_ (Bi (yT h _))]
 simp only [ak4,if_false]
theorem adI {w:List UInt8}{c:XE}(h:sk (tk L a)=nm w) (h1:isS (tk L (a+1)) [40]=true) (h2:xX L (AE L (n - 1)) (tk L a) (a+1) d=.ok c a1 d) (h3:isS (tk L a1) [59]=true) :
  qM L block n a d=.ok (.mk 7 (tk L a).pos 0 [] ⟨0,0,0⟩ [c] [] [] false) (a1+1) d:=by
 rw [L_ h]
 unfold pG
 rw [o_ (y_ (k:=1) (show(tk L a).kind=1 from congrArg Token.kind h)),o_ (D_ h1)]
 simp only [if_true]
 rw [o_ h2,o_ (vU h3)]; rfl
theorem adJ {w:List UInt8}{i l:List XE}(h:sk (tk L a)=nm w) (h0:isS (tk L (a+1)) [40]=false) (h1:isS (tk L (a+1)) [91]=true) (h2:tF L (AE L (n - 1)) (a+1) d=.ok i a1 d) (h3:isS (tk L a1) [61]=true) (h4:y9 L n (a1+1) d=.ok l a2 d) :
  qM L block n a d=.ok (.mk 4 (tk L a).pos 0 (tk L a).text ⟨0,0,0⟩ (i++l) [] [] false) a2 d:=by
 rw [L_ h]
 unfold pG
 rw [o_ (y_ (k:=1) (show(tk L a).kind=1 from congrArg Token.kind h)),o_ (D_ h0)]
 simp only [ak4,if_false]
 rw [o_ (D_ h1)]
 simp only [if_true]
 rw [o_ h2,o_ (vU h3),o_ h4]; rfl
theorem ak7 {w:List UInt8}{l:List XE}(h:sk (tk L a)=nm w) (h0:isS (tk L (a+1)) [40]=false) (h1:isS (tk L (a+1)) [91]=false) (h3:isS (tk L (a+1)) [61]=true) (h4:y9 L n (a+2) d=.ok l a2 d) :
  qM L block n a d=.ok (.mk 3 (tk L a).pos 0 (tk L a).text ⟨0,0,0⟩ l [] [] false) a2 d:=by
 rw [L_ h]
 unfold pG
 rw [o_ (y_ (k:=1) (show(tk L a).kind=1 from congrArg Token.kind h)),o_ (D_ h0)]
 simp only [ak4,if_false]
 rw [o_ (D_ h1)]
 simp only [ak4,if_false]
 rw [o_ (vU h3),o_ h4]; rfl
theorem Ry {x:GE}(hw:mY x=true) (hn:d+n=65) (hd:d+lS x≤64) (hat:At L a (mM x).2) (hl:oR x≤131072) (hs:Stop 0 (tk L (a+oR x))):∃x',AE L n a d=.ok x' (a+oR x) d∧MR x' x :=
 (Ud x.size x (ac9 _) hw n d a (by omega) hd hat hl).2.2 hs
theorem Pg {x:GE}(hw:mY x=true) (hn:d+n=65) (hd:d+lS x≤64) (hat:At L a ((mM x).2++[sg 59])) (hl:oR x≤131072):∃x',y9 L n a d=.ok [x'] (a+oR x+1) d∧MR x' x:=by
 obtain⟨h1,h2,-⟩:=At.app hat
 have h2:sk (tk L (a+oR x))=sg 59:=h2
 obtain⟨x',e,he⟩:=Ry hw hn hd h1 hl (y4 h2 (by decide) (by decide) rfl)
 exact⟨x',auH e (by rw [oN h2]; decide),he⟩
def B1 (s:GS):Nat:=(Ca s).length
def FJ (L:List Token) (s:GS):Prop:=∀n d a,d+n=65→d+qN s≤64→At L a (Ca s)→B1 s≤131072→isS (tk L (a+B1 s)) [101,108,115,101]=false→∃s',qM L (rD L n) n a d=.ok s' (a+B1 s) d∧EqS s' s
theorem SQ {m : Nat} : ∀ (l : List GS) (f : Nat) (acc : List XS), (∀ s ∈ l, FJ L s ∧ pQ s = true) → m + d = 65 → (∀ s ∈ l, d + qN s ≤ 64) → (∀ s ∈ l, ∀ a, At L a (Ca s) → isS (tk L a) [125] = false ∧ isS (tk L a) [101, 108, 115, 101] = false) → ∀ a, At L a ((l.map Ca).flatten ++ [sg 125]) → ((l.map Ca).flatten).length ≤ 131072 → l.length < f →
    ∃ l', vE L (qM L (rD L m) m) f acc a d = .ok (acc ++ l') (a + ((l.map Ca).flatten).length) d ∧ MV l' l ∧ isS (tk L (a + ((l.map Ca).flatten).length)) [125] = true
  | _, 0, _, _, _, _, _, _, _, _, hf => absurd hf (by omega)
  | [], f + 1, acc, _, _, _, _, a, hat, _, _ => by
    have h1 : sk (tk L a) = sg 125 := hat.1
    have h2 : isS (tk L a) [125] = true := by rw [oN h1]; decide
    refine ⟨[], ?_, rfl, h2⟩
    rw [vE, o_ (D_ h2)]
    simp only [if_true, al6]; rfl
  | s :: l, f + 1, acc, hs, hm, hn, hh, a, hat, hl, hf => by
    simp only [ak9, List.flatten_cons, al2, ac6] at hat hl ⊢
    obtain ⟨h1, h2⟩ := At.app hat
    obtain ⟨e1, e2⟩ := hh s (by simp) a h1
    have hnext : isS (tk L (a + B1 s)) [101, 108, 115, 101] = false := by
      cases l with
      | nil => have : sk (tk L (a + B1 s)) = sg 125 := h2.1
               rw [oN this]; decide
      | cons s2 l =>
        simp only [ak9, List.flatten_cons, al2] at h2
        exact (hh s2 (by simp) _ (At.app h2).1).2
    obtain ⟨s', e3, he⟩ := (hs s (by simp)).1 m d a (by omega) (hn s (by simp)) h1 (by unfold B1; omega) hnext
    obtain ⟨l', e4, he4, he5⟩ := SQ l f (acc ++ [s']) (fun x hx => hs x (by simp [hx])) hm (fun x hx => hn x (by simp [hx])) (fun x hx => hh x (by simp [hx])) (a + B1 s) h2 (by omega) (by simp at hf; omega)
    have e6 : a + ((Ca s).length + ((l.map Ca).flatten).length) = a + B1 s + ((l.map Ca).flatten).length := by unfold B1; omega
    rw [e6]
    refine ⟨s' :: l', ?_, by unfold MV at *; rw [ak9, ak9, he4, he], he5⟩
    rw [vE, o_ (D_ e1)]
    simp only [ak4, if_false]
    rw [o_ e3, e4]
    simp
theorem Ri {l:List GS}{m:Nat}(hs:∀s∈l,FJ L s∧pQ s=true) (hm:m+d=65) (hn:d+(pV (l.map qN)+1)≤64) (hh:∀s∈l,∀a,At L a (Ca s)→isS (tk L a) [125]=false∧isS (tk L a) [101,108,115,101]=false) (hne:∀s∈l,1≤B1 s) {a:Nat}(hat:At L a (oH (l.map Ca))) (hl:(oH (l.map Ca)).length≤131072) :
  ∃l',rD L m a d=.ok l' (a+(oH (l.map Ca)).length) d∧MV l' l:=by
 unfold oH at hat hl ⊢
 obtain⟨h1,h2⟩:=hat
 have hmax:∀(l:List GS),∀s∈l,qN s≤pV (l.map qN):=fun l=>by
  induction l with
  | nil=>intro s hs; cases hs
  | cons x r ih =>
   intro s hs
   simp only [ak9,pV]
   rcases List.mem_cons.1 hs with rfl | hs
   ·exact Nat.le_max_left _ _
   ·exact Nat.le_trans (ih s hs) (Nat.le_max_right _ _)
 have hlen:∀(l:List GS),(∀s∈l,1≤B1 s)→l.length≤((l.map Ca).flatten).length:=fun l=>by
  induction l with
  | nil=>intro _; exact ak5 _
  | cons x r ih =>
   intro h
   have a1:=h x (by simp)
   have a2:=ih fun y hy=>h y (by simp [hy])
   unfold B1 at a1
   simp only [ak9,List.flatten_cons,ac6,am1]
   omega
 have hl2:(sg 123::((l.map Ca).flatten++[sg 125])).length=((l.map Ca).flatten).length+2:=by simp
 rw [hl2] at hl ⊢
 match m,hm with
 | 0,hm=>omega
 | m+1,hm =>
  obtain⟨l',e,he,he2⟩:=SQ (d:=d+1) (m:=m) l 131073 [] hs (by omega) (fun s hs=>by have:=hmax l s hs; omega) hh (a+1) h2 (by omega) (by have:=hlen l hne; omega)
  refine⟨l',?_,he⟩
  rw [rD,o_ (Ge (by rw [oN h1]; decide) (by omega)),o_ e,o_ (Iz he2)]
  rw [show a+(((l.map Ca).flatten).length+2)=a+1+((l.map Ca).flatten).length+1 by omega]; rfl
end
end
section
open Go Hk
section
variable {L:List Token}
theorem aaS {s:GS}(hw:pQ s=true) {a:Nat}(h:At L a (Ca s)):isS (tk L a) [125]=false∧isS (tk L a) [101,108,115,101]=false:=by
 obtain⟨k,p,m,name,ty,args,body,els,has⟩:=s
 simp only [pQ,am2] at hw
 rcases DZ hw.1.1 with ⟨rfl,⟨x,rfl,hx⟩,_⟩ | ⟨rfl,rfl,_⟩ | ⟨rfl,⟨x,rfl,hx⟩,_⟩ | ⟨rfl,⟨x,y,rfl,hx,hy⟩,_⟩ | ⟨rfl,⟨x,rfl,hx⟩,_⟩ | ⟨rfl,⟨x,rfl,hx⟩,_⟩ | ⟨rfl,⟨p,q,w,l,rfl,hx⟩,_⟩ | ⟨rfl,⟨x,rfl,hx⟩,_⟩
 ·have h1:sk (tk L a)=kw [108,101,116]:=h.1
  rw [oE h1,oE h1]; decide
 ·have h1:sk (tk L a)=kw [118,97,114]:=h.1
  rw [oE h1,oE h1]; decide
 ·have h1:sk (tk L a)=nm name:=h.1
  rw [yT h1,yT h1]; exact⟨rfl,rfl⟩
 ·have h1:sk (tk L a)=nm name:=h.1
  rw [yT h1,yT h1]; exact⟨rfl,rfl⟩
 ·have h1:sk (tk L a)=kw [105,102]:=h.1
  rw [oE h1,oE h1]; decide
 ·have h1:sk (tk L a)=kw [102,111,114]:=h.1
  rw [oE h1,oE h1]; decide
 ·have h1:sk (tk L a)=nm w:=h.1
  rw [yT h1,yT h1]; exact⟨rfl,rfl⟩
 ·have h1:sk (tk L a)=kw [114,101,116,117,114,110]:=h.1
  rw [oE h1,oE h1]; decide
theorem an0 {s:GS}(hw:pQ s=true):1≤B1 s:=by
 obtain⟨k,p,m,name,ty,args,body,els,has⟩:=s
 simp only [pQ,am2] at hw
 unfold B1
 rcases DZ hw.1.1 with ⟨rfl,⟨x,rfl,hx⟩,_⟩ | ⟨rfl,rfl,_⟩ | ⟨rfl,⟨x,rfl,hx⟩,_⟩ | ⟨rfl,⟨x,y,rfl,hx,hy⟩,_⟩ | ⟨rfl,⟨x,rfl,hx⟩,_⟩ | ⟨rfl,⟨x,rfl,hx⟩,_⟩ | ⟨rfl,⟨p,q,w,l,rfl,hx⟩,_⟩ | ⟨rfl,⟨x,rfl,hx⟩,_⟩ <;>
  exact Nat.succ_le_succ (ak5 _)
theorem Bc:Ty.pC ⟨0,0,0⟩=GT.zero:=rfl
theorem AX {a:Nat}{w:List UInt8}(h:sk (tk L a)=nm w):(tk L a).text=w:=congrArg Token.text h
theorem DP {a:Nat}{w:List UInt8}(h:sk (tk L a)=nm w):(tk L a).kind=1:=congrArg Token.kind h
theorem Ue:∀(N:Nat) (s:GS),s.size≤N→pQ s=true→FJ L s
 | 0,.mk k p m name ty args body els has,hs,_=>by simp only [GS.size] at hs; omega
 | N+1,.mk k p m name ty args body els has,hsz,hw=>by
  simp only [pQ,am2] at hw
  simp only [GS.size] at hsz
  have wB:=hw.1.2
  have wE:=hw.2
  rw [xK] at wB wE
  have ihB:∀s∈body,FJ L s∧pQ s=true:=fun s hs=>⟨Ue N s (by have:=GS.qQ hs; omega) (ag3.1 wB s hs),ag3.1 wB s hs⟩
  have ihE:∀s∈els,FJ L s∧pQ s=true:=fun s hs=>⟨Ue N s (by have:=GS.qQ hs; omega) (ag3.1 wE s hs),ag3.1 wE s hs⟩
  have oP:∀{l:List GS}{n d a:Nat},(∀s∈l,FJ L s∧pQ s=true)→d+n=65→d+(pV (nZ l)+1)≤64→At L a (oH (rH l))→(oH (rH l)).length≤131072→∃l',rD L n a d=.ok l' (a+(oH (rH l)).length) d∧MV l' l:=fun {l n d a} ih hn hd hat hl=>by
   rw [MF] at hat hl ⊢
   rw [Ff] at hd
   exact Ri ih (by omega) hd (fun s hs a h=>aaS (ih s hs).2 h) (fun s hs=>an0 (ih s hs).2) hat hl
  intro n d a hn hd hat hlen hels
  rcases DZ hw.1.1 with ⟨rfl,⟨x,rfl,hx⟩,hnm,rfl,rfl,hb,he,rfl⟩ | ⟨rfl,rfl,hnm,rfl,hty,hb,he,rfl⟩ | ⟨rfl,⟨x,rfl,hx⟩,hnm,rfl,rfl,hb,he,rfl⟩ | ⟨rfl,⟨x,y,rfl,hx,hy⟩,hnm,rfl,rfl,hb,he,rfl⟩ | ⟨rfl,⟨x,rfl,hx⟩,rfl,rfl,rfl,he⟩ | ⟨rfl,⟨x,rfl,hx⟩,hnm,hm,rfl,he,rfl⟩ | ⟨rfl,⟨p2,q,w,l,rfl,hx⟩,rfl,rfl,rfl,hb,he,rfl⟩ | ⟨rfl,⟨x,rfl,hx⟩,rfl,rfl,rfl,hb,he,rfl⟩
  ·obtain rfl:=al5.1 hb
   obtain rfl:=al5.1 he
   have hat2:At L a (kw [108,101,116]::nm name::sg 61::((mM x).2++[sg 59])):=hat
   have hd2:d+lS x≤64:=hd
   have eL:B1 (.mk 1 p 0 name GT.zero [x] [] [] false)=oR x+4:=by show(kw [108,101,116]::nm name::sg 61::((mM x).2++[sg 59])).length=_; simp [oR]
   rw [eL] at hlen ⊢
   obtain⟨a1,a2,a3,a4⟩:=hat2
   obtain⟨x',e,hq⟩:=Pg hx hn hd2 a4 (by omega)
   refine⟨_,by rw [auL a1 (DP a2) (by rw [oN a3]; decide) e,show a+(oR x+4)=a+1+1+1+oR x+1 by omega],?_⟩
   rw [AX a2]
   exact DD rfl rfl Bc (KW hq) Co Co
  ·obtain rfl:=al5.1 hb
   obtain rfl:=al5.1 he
   have hat2:At L a (kw [118,97,114]::xO ty.label::nm name::sg 58::(sQ ty++[sg 59])):=hat
   have eL:B1 (.mk 2 p 0 name ty [] [] [] false)=(sQ ty).length+5:=by show(kw [118,97,114]::xO ty.label::nm name::sg 58::(sQ ty++[sg 59])).length=_; simp
   rw [eL] at hlen ⊢
   obtain⟨a1,a2,a3,a4,a5⟩:=hat2
   obtain⟨a5,a6,-⟩:=At.app a5
   obtain⟨ty',e,hq⟩:=Qe (d:=d) hty a5 (by rw [oN a6]; decide)
   refine⟨_,by rw [ak8 a1 (J2 (E9 hty) a2) (DP a3) (by show isS (tk L (a+1+1+1)) _=_; rw [oN a4]; decide) e (by rw [oN a6]; decide),show a+((sQ ty).length+5)=a+1+1+1+1+(sQ ty).length+1 by omega],?_⟩
   rw [AX a3]
   exact DD rfl rfl hq rfl Co Co
  ·obtain rfl:=al5.1 hb
   obtain rfl:=al5.1 he
   have hat2:At L a (nm name::sg 61::((mM x).2++[sg 59])):=hat
   have hd2:d+lS x≤64:=hd
   have eL:B1 (.mk 3 p 0 name GT.zero [x] [] [] false)=oR x+3:=by show(nm name::sg 61::((mM x).2++[sg 59])).length=_; simp [oR]
   rw [eL] at hlen ⊢
   obtain⟨a1,a2,a3⟩:=hat2
   obtain⟨x',e,hq⟩:=Pg hx hn hd2 a3 (by omega)
   refine⟨_,by rw [ak7 a1 (by rw [oN a2]; decide) (by rw [oN a2]; decide) (by rw [oN a2]; decide) e,show a+(oR x+3)=a+1+1+oR x+1 by omega],?_⟩
   rw [AX a1]
   exact DD rfl rfl Bc (KW hq) Co Co
  ·obtain rfl:=al5.1 hb
   obtain rfl:=al5.1 he
   have hat2:At L a (nm name::sg 91::((mM x).2++sg 93::sg 61::((mM y).2++[sg 59]))):=hat
   have hd2:d+max (lS x+1) (lS y)≤64:=hd
   have eL:B1 (.mk 4 p 0 name GT.zero [x,y] [] [] false)=oR x+oR y+5:=by
    show(nm name::sg 91::((mM x).2++sg 93::sg 61::((mM y).2++[sg 59]))).length=_; simp [oR]; omega
   rw [eL] at hlen ⊢
   obtain⟨a1,a2,a3⟩:=hat2
   obtain⟨a3,a4,a5,a6⟩:=At.app a3
   obtain⟨x',e,hq⟩:=Ry (d:=d+1) (n:=n - 1) hx (by omega) (by omega) a3 (by omega) (y4 (show sk (tk L (a+1+1+oR x))=sg 93 from a4) (by decide) (by decide) rfl)
   obtain⟨y',e2,hq2⟩:=Pg hy hn (by omega) a6 (by omega)
   refine⟨_,by rw [adJ a1 (by rw [oN a2]; decide) (by rw [oN a2]; decide) (Sx (by rw [oN a2]; decide) (by omega) e (by rw [oN (show sk (tk L (a+1+1+oR x))=sg 93 from a4)]; decide)) (by show isS (tk L (a+1+1+(mM x).2.length+1)) _=_; rw [oN a5]; decide) e2,
    show a+(oR x+oR y+5)=a+1+1+(mM x).2.length+1+1+oR y+1 by unfold oR; omega],?_⟩
   rw [AX a1]
   exact DD rfl rfl Bc (aq0 hq hq2) Co Co
  ·cases has with
   | false =>
    have he:els=[]:=al5.1 (he.resolve_left (by decide))
    subst he
    have hat2:At L a (kw [105,102]::((mM x).2++(oH (rH body)++[]))):=hat
    rw [al6] at hat2
    have hd2:d+max (lS x) (pV (nZ body)+1)≤64:=hd
    have eL:B1 (.mk 5 p 0 [] GT.zero [x] body [] false)=oR x+(oH (rH body)).length+1:=by
     show(kw [105,102]::((mM x).2++(oH (rH body)++[]))).length=_; simp [oR]
    rw [eL] at hlen hels ⊢
    obtain⟨a1,a2⟩:=hat2
    obtain⟨a2,a3⟩:=At.app a2
    obtain⟨x',e,hq⟩:=Ry hx hn (by omega) a2 (by omega) (y4 (show sk (tk L (a+1+oR x))=sg 123 from a3.1) (by decide) (by decide) rfl)
    obtain⟨b',e2,hq2⟩:=oP ihB hn (by omega) a3 (by omega)
    have ea:a+(oR x+(oH (rH body)).length+1)=a+1+(mM x).2.length+(oH (rH body)).length:=by unfold oR; omega
    rw [ea] at hels ⊢
    exact⟨_,auJ a1 e e2 hels,DD rfl rfl Bc (KW hq) hq2 Co⟩
   | true =>
    have hat2:At L a (kw [105,102]::((mM x).2++(oH (rH body)++(kw [101,108,115,101]::oH (rH els))))):=hat
    have hd2:d+max (lS x) (max (pV (nZ body)+1) (pV (nZ els)+1))≤64:=hd
    have eL:B1 (.mk 5 p 0 [] GT.zero [x] body els true)=oR x+(oH (rH body)).length+(oH (rH els)).length+2:=by
     show(kw [105,102]::((mM x).2++(oH (rH body)++(kw [101,108,115,101]::oH (rH els))))).length=_; simp [oR]; omega
    rw [eL] at hlen ⊢
    obtain⟨a1,a2⟩:=hat2
    obtain⟨a2,a3⟩:=At.app a2
    obtain⟨a3,a4,a5⟩:=At.app a3
    obtain⟨x',e,hq⟩:=Ry hx hn (by omega) a2 (by omega) (y4 (show sk (tk L (a+1+oR x))=sg 123 from a3.1) (by decide) (by decide) rfl)
    obtain⟨b',e2,hq2⟩:=oP ihB hn (by omega) a3 (by omega)
    obtain⟨c',e3,hq3⟩:=oP ihE hn (by omega) a5 (by omega)
    have ea:a+(oR x+(oH (rH body)).length+(oH (rH els)).length+2)=a+1+(mM x).2.length+(oH (rH body)).length+1+(oH (rH els)).length:=by unfold oR; omega
    rw [ea]
    exact⟨_,auK a1 e e2 (by rw [oE a4]; decide) e3,DD rfl rfl Bc (KW hq) hq2 hq3⟩
  ·obtain rfl:=al5.1 he
   have hat2:At L a (kw [102,111,114]::nm name::sg 60::((mM x).2++kw [109,97,120]::nu m::oH (rH body))):=hat
   have hd2:d+max (lS x) (pV (nZ body)+1)≤64:=hd
   have eL:B1 (.mk 6 p m name GT.zero [x] body [] false)=oR x+(oH (rH body)).length+5:=by
    show(kw [102,111,114]::nm name::sg 60::((mM x).2++kw [109,97,120]::nu m::oH (rH body))).length=_; simp [oR]; omega
   rw [eL] at hlen ⊢
   obtain⟨a1,a2,a3,a4⟩:=hat2
   obtain⟨a4,a5,a6,a7⟩:=At.app a4
   obtain⟨x',e,hq⟩:=Ry hx hn (by omega) a4 (by omega) (alV (show sk (tk L (a+1+1+1+oR x))=kw [109,97,120] from a5) (by decide) (by decide))
   obtain⟨b',e2,hq2⟩:=oP ihB hn (by omega) a7 (by omega)
   have ea:a+(oR x+(oH (rH body)).length+5)=a+1+1+1+(mM x).2.length+1+1+(oH (rH body)).length:=by unfold oR; omega
   rw [ea]
   have k6:(tk L (a+1+1+1+(mM x).2.length+1)).num=m.toNat:=congrArg Token.num a6
   refine⟨_,auI a1 (DP a2) (by show isS (tk L (a+1+1)) _=_; rw [oN a3]; decide) e (by rw [oE (show sk (tk L (a+1+1+1+oR x))=kw [109,97,120] from a5)]; decide) (show(tk L (a+1+1+1+(mM x).2.length+1)).kind=2 from congrArg Token.kind a6) e2,?_⟩
   show EqS (.mk 6 _ (tk L (a+1+1+1+(mM x).2.length+1)).num _ _ _ _ _ _) _
   rw [AX a2,k6]
   exact DD rfl (acZ hm) Bc (KW hq) hq2 Co
  ·obtain rfl:=al5.1 hb
   obtain rfl:=al5.1 he
   have hxw:=hx
   simp only [mY,am2] at hxw
   have wl:∀z∈l,mY z=true:=fun z hz=>ag3.1 (wL l ▸ hxw.2) z hz
   have eK:(mM (.mk 4 p2 q w l)).2=nm w::sg 40::(uZ (l.map mM)++[sg 41]):=by
    show wQ 4 q w (Jw l)=_
    rw [HB]; unfold wQ; simp [show lD 4=8 from rfl]
   have hat2:At L a ((mM (.mk 4 p2 q w l)).2++[sg 59]):=hat
   have hd2:d+(uR (rP l)+1)≤64:=hd
   have eL:B1 (.mk 7 p 0 [] GT.zero [.mk 4 p2 q w l] [] [] false)=(uZ (l.map mM)).length+4:=by
    show((mM (.mk 4 p2 q w l)).2++[sg 59]).length=_; rw [eK]; simp
   rw [eK] at hat2
   rw [eL] at hlen ⊢
   obtain⟨h1,h2⟩:=At.app hat2
   obtain⟨a1,a2,a3⟩:=h1
   obtain⟨l',e,hq,hend⟩:=VI (d:=d+1) (n:=n - 1) l (fun z _=>Ud z.size z (ac9 _) (wl z ‹_›)) wl (fun z hz=>by have:=LN hz; omega) a3 (by omega)
   have h59:sk (tk L (a+1+1+(uZ (l.map mM)).length+1))=sg 59:=by
    have:=h2.1
    simp only [am1,ac6,am3] at this
    rwa [show a+((uZ (l.map mM)).length+(0+1)+1+1)=a+1+1+(uZ (l.map mM)).length+1 by omega] at this
   have hqn:q=0:=by
    rcases FX hxw.1 with ⟨h,_⟩ | ⟨_,h⟩
    ·exact absurd h (by decide)
    ·rcases h with ⟨h,_⟩ | ⟨h,_⟩ | ⟨h,_⟩ | ⟨_,_,h⟩ | ⟨h,_⟩ | ⟨h,_⟩ | ⟨h,_⟩ | ⟨h,_⟩ | ⟨h,_⟩
     all_goals first | exact h | (exfalso; omega)
   refine⟨_,by rw [adI a1 (by rw [oN a2]; decide) (V7 (by rw [oN a2]; decide) (by omega) e hend) (by rw [oN h59]; decide),show a+((uZ (l.map mM)).length+4)=a+1+1+(uZ (l.map mM)).length+1+1 by omega],?_⟩
   rw [AX a1]
   exact DD rfl rfl Bc (KW (FQ rfl hqn.symm hq)) Co Co
  ·obtain rfl:=al5.1 hb
   obtain rfl:=al5.1 he
   have hat2:At L a (kw [114,101,116,117,114,110]::((mM x).2++[sg 59])):=hat
   have hd2:d+lS x≤64:=hd
   have eL:B1 (.mk 8 p 0 [] GT.zero [x] [] [] false)=oR x+2:=by show(kw [114,101,116,117,114,110]::((mM x).2++[sg 59])).length=_; simp [oR]
   rw [eL] at hlen ⊢
   obtain⟨a1,a2⟩:=hat2
   obtain⟨x',e,hq⟩:=Pg hx hn hd2 a2 (by omega)
   refine⟨_,by rw [auM a1 e,show a+(oR x+2)=a+1+oR x+1 by omega],?_⟩
   exact DD rfl rfl Bc (KW hq) Co Co
end
end
section
open Go Hk
def GP.zR (p:GP):GP:={ p with pos:=0 }
def GF.zR (f:GF):GF:=⟨0,f.name,f.params.map GP.zR,f.has,f.result,GS.y8 f.body⟩
def EqF (f':XF) (f:GF):Prop:=f'.pC.zR=f.zR
section
variable {L:List Token}{a d:Nat}
theorem Sm {p:GP}(hw:uF p=true) (hat:At L a (oU p)) (hs:isS (tk L (a+(oU p).length)) [91]=false):∃p',sM L a d=.ok p' (a+(oU p).length) d∧p'.pC.zR=p.zR:=by
 unfold uF at hw
 simp only [am2] at hw
 obtain⟨pos,name,ty,out⟩:=p
 simp only at hw
 cases out with
 | true =>
  have hat2:At L a (kw [111,117,116]::xO ty.label::nm name::sg 58::sQ ty):=hat
  have eL:(oU ⟨pos,name,ty,true⟩).length=(sQ ty).length+4:=rfl
  rw [eL] at hs ⊢
  obtain⟨a1,a2,a3,a4,a5⟩:=hat2
  obtain⟨ty',e,hq⟩:=Qe (d:=d) hw.2 a5 (by rw [show a+1+1+1+1+(sQ ty).length=a+((sQ ty).length+4) by omega]; exact hs)
  refine⟨⟨(tk L (a+1+1)).pos,(tk L (a+1+1)).text,ty',true⟩,?_,by rw [AX a3]; simp only [XP.pC,GP.zR,hq]⟩
  unfold sM
  rw [o_ (D7 (by rw [oE a1]; decide)),o_ (J2 (E9 hw.2) a2),o_ (y_ (DP a3)),o_ (vU (by rw [oN a4]; decide)),o_ e,show a+((sQ ty).length+4)=a+1+1+1+1+(sQ ty).length by omega]; rfl
 | false =>
  have hat2:At L a (xO ty.label::nm name::sg 58::sQ ty):=hat
  have eL:(oU ⟨pos,name,ty,false⟩).length=(sQ ty).length+3:=rfl
  rw [eL] at hs ⊢
  obtain⟨a2,a3,a4,a5⟩:=hat2
  obtain⟨ty',e,hq⟩:=Qe (d:=d) hw.2 a5 (by rw [show a+1+1+1+(sQ ty).length=a+((sQ ty).length+3) by omega]; exact hs)
  refine⟨⟨(tk L (a+1)).pos,(tk L (a+1)).text,ty',false⟩,?_,by rw [AX a3]; simp only [XP.pC,GP.zR,hq]⟩
  have hno:isS (tk L a) [111,117,116]=false:=by
   unfold xO at a2
   rw [oE a2]; split <;> decide
  unfold sM
  rw [o_ (Bi hno),o_ (J2 (E9 hw.2) a2),o_ (y_ (DP a3)),o_ (vU (by rw [oN a4]; decide)),o_ e,show a+((sQ ty).length+3)=a+1+1+1+(sQ ty).length by omega]; rfl
def FG:List (List Token)→List Token
 | []=>[]
 | p::r=>sg 44::(p++FG r)
theorem Mn:∀(q:List Token) (l:List (List Token)),tU (q::l)=q++FG l
 | q,[]=>by simp [tU,FG]
 | q,p::r=>by
  have:=Mn p r
  simp only [tU,FG] at this ⊢
  rw [this]
theorem Jq:∀(r:List GP) (y:GP) (f a:Nat) (acc:List XP),(∀z∈y::r,uF z=true)→At L a (oU y++(FG (r.map oU)++[sg 41]))→r.length < f →
  ∃l',vD L (sM L) f acc a d=.ok (acc++l') (a+(oU y++FG (r.map oU)).length) d∧l'.map (fun p=>p.pC.zR)=(y::r).map GP.zR
 | _,_,0,_,_,_,_,hf=>absurd hf (by omega)
 | [],y,f+1,a,acc,hw,hat,_=>by
  obtain⟨h1,h2,-⟩:=At.app hat
  have h2:sk (tk L (a+(oU y).length))=sg 41:=h2
  obtain⟨y',e,he⟩:=Sm (d:=d) (hw y (by simp)) h1 (by rw [oN h2]; decide)
  refine⟨[y'],?_,by simp only [ak9,List.map_nil,he]⟩
  show vD L (sM L) (f+1) acc a d=.ok (acc++[y']) (a+(oU y++[]).length) d
  rw [al6,vD,o_ e,o_ (Bi (by rw [oN h2]; decide))]
  rfl
 | z::r,y,f+1,a,acc,hw,hat,hf=>by
  obtain⟨h1,h2,h3⟩:=At.app hat
  have h2:sk (tk L (a+(oU y).length))=sg 44:=h2
  obtain⟨y',e,he⟩:=Sm (d:=d) (hw y (by simp)) h1 (by rw [oN h2]; decide)
  have h3:At L (a+(oU y).length+1) (oU z++(FG (r.map oU)++[sg 41])):=by rw [←al2]; exact h3
  obtain⟨l',e2,he2⟩:=Jq r z f (a+(oU y).length+1) (acc++[y']) (fun w hw2=>hw w (by simp at hw2 ⊢; exact .inr hw2)) h3 (by simp at hf; omega)
  refine⟨y'::l',?_,by rw [ak9,he2,he]; rfl⟩
  rw [vD,o_ e,o_ (D7 (by rw [oN h2]; decide))]
  simp only [if_true]
  rw [e2]
  simp [FG]; omega
theorem OH:∀r:List GP,r.length≤(FG (r.map oU)).length
 | []=>ak5 _
 | y::r=>by
  have:=OH r
  simp only [ak9,FG,am1,ac6]
  omega
theorem Ou {ps:List GP}(hw:∀z∈ps,uF z=true) (hat:At L a (tU (ps.map oU)++[sg 41])) (hl:(tU (ps.map oU)).length≤131072) :
  ∃l',vW L [41] (sM L) a d=.ok l' (a+(tU (ps.map oU)).length) d∧l'.map (fun p=>p.pC.zR)=ps.map GP.zR:=by
 cases ps with
 | nil =>
  have h1:sk (tk L a)=sg 41:=hat.1
  refine⟨[],?_,rfl⟩
  unfold vW
  rw [o_ (D_ (b:=true) (by rw [oN h1]; decide))]; rfl
 | cons y r =>
  rw [ak9,Mn] at hat hl ⊢
  rw [al2] at hat
  obtain⟨l',e,he⟩:=Jq (d:=d) r y 131073 a [] hw hat (by have:=OH r; simp at hl; omega)
  refine⟨l',?_,he⟩
  have hno:isS (tk L a) [41]=false:=by
   have h1:=(At.app hat).1
   unfold oU at h1
   cases hy:y.out with
   | true =>
    rw [hy] at h1
    have h2:sk (tk L a)=kw [111,117,116]:=h1.1
    rw [oE h2]; decide
   | false =>
    rw [hy] at h1
    have h2:sk (tk L a)=xO y.ty.label:=h1.1
    unfold xO at h2
    rw [oE h2]; split <;> decide
  unfold vW
  rw [o_ (D_ (b:=false) hno)]
  simp only [ak4,if_false]
  rw [e]; rfl
theorem ahV {f:GF}(hw:qE f=true) (hn:wD f≤64) (hat:At L a (Ea f)) (hl:(Ea f).length≤131072):∃f',wH L a 0=.ok f' (a+(Ea f).length) 0∧EqF f' f:=by
 obtain⟨pos,name,params,has,result,body⟩:=f
 unfold qE at hw
 simp only [am2] at hw
 obtain⟨⟨⟨w1,w2⟩,w3⟩,w4⟩:=hw
 have hn1:pV (nZ body)+1≤64:=hn
 have hn2:0+(pV (nZ body)+1)≤64:=by omega
 rw [xK] at w2
 have ih:∀s∈body,FJ L s∧pQ s=true:=fun s hs=>⟨Ue s.size s (ac9 _) (ag3.1 w2 s hs),ag3.1 w2 s hs⟩
 have oP:∀{a:Nat},At L a (oH (rH body))→(oH (rH body)).length≤131072→∃l',rD L 65 a 0=.ok l' (a+(oH (rH body)).length) 0∧MV l' body:=fun {a} hat hl=>by
  rw [MF] at hat hl ⊢
  rw [Ff] at hn2
  exact Ri ih (by omega) hn2 (fun s hs a h=>aaS (ih s hs).2 h) (fun s hs=>an0 (ih s hs).2) hat hl
 have hbody:∀{l':List XS},MV l' body→GS.y8 (XS.pY l')=GS.y8 body:=fun {l'} h=>by
  rw [XS.CG,GS.BE,GS.BE,List.map_map]; exact h
 cases has with
 | false =>
  have hat2:At L a (kw [102,110]::nm name::sg 40::(tU (params.map oU)++sg 41::([]++oH (rH body)))):=hat
  rw [an4] at hat2
  have eL:(Ea ⟨pos,name,params,false,result,body⟩).length=(tU (params.map oU)).length+(oH (rH body)).length+4:=by
   show(kw [102,110]::nm name::sg 40::(tU (params.map oU)++sg 41::([]++oH (rH body)))).length=_; simp; omega
  rw [eL] at hl ⊢
  obtain⟨a1,a2,a3,a4⟩:=hat2
  have a4':At L (a+1+1+1) ((tU (params.map oU)++[sg 41])++oH (rH body)):=by simpa using a4
  obtain⟨a5,a6⟩:=At.app a4'
  obtain⟨-,a7,-⟩:=At.app a5
  simp only [ac6,am1,am3] at a6
  obtain⟨ps,e1,h1⟩:=Ou (d:=0) (fun z hz=>ag3.1 w3 z hz) a5 (by omega)
  obtain⟨b,e2,h2⟩:=oP a6 (by omega)
  have h7:isS (tk L (a+1+1+1+(tU (params.map oU)).length)) [41]=true:=by rw [oN a7]; decide
  have h8:isS (tk L (a+1+1+1+(tU (params.map oU)).length+1)) [58]=false:=by
   have:sk (tk L (a+1+1+1+((tU (params.map oU)).length+(0+1))))=sg 123:=a6.1
   rw [show a+1+1+1+(tU (params.map oU)).length+1=a+1+1+1+((tU (params.map oU)).length+(0+1)) by omega,oN this]; decide
  refine⟨⟨(tk L (a+1)).pos,(tk L (a+1)).text,ps,false,⟨0,0,0⟩,b⟩,?_,?_⟩
  ·unfold wH
   rw [o_ (vU (by rw [oE a1]; decide)),o_ (y_ (DP a2)),o_ (vU (by rw [oN a3]; decide)),o_ e1,o_ (vU h7),o_ (Bi h8)]
   simp only [ak4,if_false]
   rw [show a+1+1+1+(tU (params.map oU)).length+1=a+1+1+1+((tU (params.map oU)).length+(0+1)) by omega,o_ e2,
    show a+((tU (params.map oU)).length+(oH (rH body)).length+4)=a+1+1+1+((tU (params.map oU)).length+(0+1))+(oH (rH body)).length by omega]; rfl
  ·have hz:result=GT.zero:=by simpa using w4
   subst hz
   rw [AX a2]
   unfold EqF GF.zR
   simp only [XF.pC,List.map_map,hbody h2]
   rw [←h1]; rfl
 | true =>
  have hat2:At L a (kw [102,110]::nm name::sg 40::(tU (params.map oU)++sg 41::((sg 58::xO result.label::sQ result)++oH (rH body)))):=hat
  have w5:rV result=true∧result.len=0∧result.elem≠2:=by
   simp only [if_true,am2,beq_iff_eq,bne_iff_ne] at w4
   exact⟨w4.1.1,w4.1.2,w4.2⟩
  have eK:sQ result=[kw (if result.elem=1 then [109,97,115,107] else [117,51,50])]:=by
   unfold sQ; simp [w5.2.1,w5.2.2]
  have eL:(Ea ⟨pos,name,params,true,result,body⟩).length=(tU (params.map oU)).length+(oH (rH body)).length+7:=by
   show(kw [102,110]::nm name::sg 40::(tU (params.map oU)++sg 41::((sg 58::xO result.label::sQ result)++oH (rH body)))).length=_
   rw [eK]; simp; omega
  rw [eK] at hat2
  rw [eL] at hl ⊢
  obtain⟨a1,a2,a3,a4⟩:=hat2
  have a4':At L (a+1+1+1) ((tU (params.map oU)++[sg 41])++(sg 58::xO result.label::kw (if result.elem=1 then [109,97,115,107] else [117,51,50])::oH (rH body))):=by simpa using a4
  obtain⟨a5,a6⟩:=At.app a4'
  obtain⟨-,a7,-⟩:=At.app a5
  simp only [ac6,am1,am3] at a6
  obtain⟨b1,b2,b3,b4⟩:=a6
  obtain⟨ps,e1,h1⟩:=Ou (d:=0) (fun z hz=>ag3.1 w3 z hz) a5 (by omega)
  obtain⟨b,e2,h2⟩:=oP b4 (by omega)
  have ec:a+1+1+1+((tU (params.map oU)).length+(0+1))=a+1+1+1+(tU (params.map oU)).length+1:=by omega
  rw [ec] at b1 b2 b3 e2
  have h7:isS (tk L (a+1+1+1+(tU (params.map oU)).length)) [41]=true:=by rw [oN a7]; decide
  have hsc:∃ty,pR L result.label.toNat (a+1+1+1+(tU (params.map oU)).length+1+1+1) 0=.ok ty (a+1+1+1+(tU (params.map oU)).length+1+1+1+1) 0∧ty.pC=result:=by
   have hl01:=E9 w5.1
   have hle:((result.label.toNat:Nat):Int)=result.label:=by omega
   have hel:result.elem=0∨result.elem=1:=by
    have:=w5.1
    unfold rV at this
    simp only [am2,Bool.or_eq_true,beq_iff_eq] at this
    rcases this.2 with (h | ⟨h,_⟩) | ⟨h,_⟩
    ·exact .inl h
    ·exact .inr h
    ·exact absurd h w5.2.2
   obtain⟨el,ln,lb⟩:=result
   simp only at hle hel b3 w5 ⊢
   obtain⟨_,rfl,_⟩:=w5
   rcases hel with rfl | rfl
   ·exact⟨_,adC b3,by simp only [Ty.pC,hle]; rfl⟩
   ·exact⟨_,adB b3,by simp only [Ty.pC,hle]; rfl⟩
  obtain⟨ty,e3,h3⟩:=hsc
  refine⟨⟨(tk L (a+1)).pos,(tk L (a+1)).text,ps,true,ty,b⟩,?_,?_⟩
  ·unfold wH
   rw [o_ (vU (by rw [oE a1]; decide)),o_ (y_ (DP a2)),o_ (vU (by rw [oN a3]; decide)),o_ e1,o_ (vU h7),o_ (D7 (by rw [oN b1]; decide))]
   simp only [if_true]
   rw [o_ (J2 (E9 w5.1) b2),o_ e3,o_ e2,
    show a+((tU (params.map oU)).length+(oH (rH body)).length+7)=a+1+1+1+(tU (params.map oU)).length+1+1+1+1+(oH (rH body)).length by omega]; rfl
  ·rw [AX a2]
   unfold EqF GF.zR
   simp only [XF.pC,List.map_map,hbody h2,h3]
   rw [←h1]; rfl
theorem RH:∀(l:List GF) (f a:Nat) (acc:List XF),(∀g∈l,qE g=true∧wD g≤64)→At L a ((l.map Ea).flatten)→((l.map Ea).flatten).length≤131072→(tk L (a+((l.map Ea).flatten).length)).kind=0→l.length < f →
  ∃l',pO L f acc a 0=.ok (acc++l') (a+((l.map Ea).flatten).length) 0∧l'.map (fun g=>g.pC.zR)=l.map GF.zR
 | _,0,_,_,_,_,_,_,hf=>absurd hf (by omega)
 | [],f+1,a,acc,_,_,_,hk,_=>by
  refine⟨[],?_,rfl⟩
  have hk:(tk L a).kind=0:=hk
  rw [pO,o_ uM,if_pos hk,al6]; rfl
 | g::l,f+1,a,acc,hw,hat,hl,hk,hf=>by
  simp only [ak9,List.flatten_cons,ac6] at hat hl hk ⊢
  obtain⟨h1,h2⟩:=At.app hat
  obtain⟨g',e,he⟩:=ahV (hw g (by simp)).1 (hw g (by simp)).2 h1 (by omega)
  rw [←Nat.add_assoc] at hk ⊢
  obtain⟨l',e2,he2⟩:=RH l f (a+(Ea g).length) (acc++[g']) (fun x hx=>hw x (by simp [hx])) h2 (by omega) hk (by simp at hf; omega)
  refine⟨g'::l',?_,by rw [ak9,he2]; unfold EqF at he; rw [he]⟩
  have hne:¬(tk L a).kind=0:=by
   have h3:sk (tk L a)=kw [102,110]:=h1.1
   have:(tk L a).kind=3:=congrArg Token.kind h3
   omega
  rw [pO,o_ uM,if_neg hne,o_ e,e2]
  simp
end
theorem am5:∀{T' T:List Token}(pre post:List Token),T'.map sk=T→At (pre++T'++post) pre.length T
 | [],[],_,_,_=>trivial
 | [],_::_,_,_,h=>by cases h
 | t::T',[],_,_,h=>by cases h
 | t::T',u::T,pre,post,h=>by
  simp only [ak9,List.cons.injEq] at h
  refine⟨?_,?_⟩
  ·have:tk (pre++t::T'++post) pre.length=t:=by unfold tk; simp
   rw [this]; exact h.1
  ·have:=am5 (pre++[t]) post h.2
   simpa using this
theorem round {l:List GF}(hw:l.all qE=true) (hn:pV (l.map wD)≤64) (hl:((l.map qI).flatten).length≤65536):∃l',nM ((l.map qI).flatten)=(l',0,0)∧l'.map (fun g=>g.pC.zR)=l.map GF.zR:=by
 have hlex:=Lw hw
 have hlen:=abE hlex
 have hpos:=abF hlex
 obtain⟨T',e,hT⟩:=abG hlex _ 0 [] (ak5 _) (List.drop_zero)
 rw [hpos] at hT
 have eS:oT ((l.map qI).flatten)=(T'++[⟨0,((l.map qI).flatten).length,0,[]⟩],0,0):=by
  unfold oT
  rw [if_neg (by omega),e,an4]
 have hat:At (T'++[(⟨0,((l.map qI).flatten).length,0,[]⟩:Token)]) 0 ((l.map Ea).flatten):=by
  have:=am5 [] [(⟨0,((l.map qI).flatten).length,0,[]⟩:Token)] hT
  simpa using this
 have hTl:T'.length=((l.map Ea).flatten).length:=by rw [←hT,ak1]
 have hmax:∀(l:List GF),∀g∈l,wD g≤pV (l.map wD):=fun l=>by
  induction l with
  | nil=>intro s hs; cases hs
  | cons x r ih =>
   intro s hs
   simp only [ak9,pV]
   rcases List.mem_cons.1 hs with rfl | hs
   ·exact Nat.le_max_left _ _
   ·exact Nat.le_trans (ih s hs) (Nat.le_max_right _ _)
 have hll:∀(l:List GF),l.length≤((l.map Ea).flatten).length:=fun l=>by
  induction l with
  | nil=>exact ak5 _
  | cons x r ih =>
   simp only [ak9,List.flatten_cons,ac6,am1]
   have:1≤(Ea x).length:=Nat.succ_le_succ (ak5 _)
   omega
 obtain⟨l',e2,he⟩:=RH l 131073 0 [] (fun g hg=>⟨ag3.1 hw g hg,Nat.le_trans (hmax l g hg) hn⟩) hat (by omega) (by rw [Nat.zero_add,←hTl]; simp [tk]) (by have:=hll l; omega)
 refine⟨l',?_,he⟩
 unfold nM
 rw [eS]
 simp only [if_true,e2,an4]
end
end Go.Proofs.YtlddmnojanpdoaaGreatDoor
