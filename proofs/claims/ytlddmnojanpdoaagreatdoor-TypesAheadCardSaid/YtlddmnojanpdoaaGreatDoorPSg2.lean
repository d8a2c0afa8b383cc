/-
  The texts SG.X4, SG.Y1, SG.Y2, SG.Y3, SG.Y4, SG.Y5, SG.Y6, one behind another. No conditions.
-/
import Derived.Test.YtlddmnojanpdoaaGreatDoorPSg1
import Derived.Test.YtlddmnojanpdoaaGreatDoorPSga1
import Derived.Test.YtlddmnojanpdoaaGreatDoorPLg1
set_option linter.unusedVariables false
set_option linter.unusedSimpArgs false
set_option linter.all false
open List renaming getElem?_append_left → af7, getElem?_eq_getElem → ac0, length_append → ac2, length_cons → ac8, length_nil → ad0
namespace Go.Proofs.YtlddmnojanpdoaaGreatDoor
section
open Go Hk
theorem ac3 (s:List UInt8):(mW s).2.1≠0→(mW s).1=[]:=by
 unfold mW
 by_cases h0:(oI s).2.1=0
 ·rw [if_pos h0]
  cases o7 (oI s).1 131073 [] 0 0 with
  | ok l a d=>intro h; exact absurd rfl h
  | bad e p j d=>intro _; rfl
 ·rw [if_neg h0]; intro _; rfl
end
section
open Go Hk
def Mb (far:Int) (q p:Nat):Prop:=far < 0∨(0≤far∧IntKind.i64.wrap ((p:Int)+far)=q∧(q:Int)=p+far)
mutual
def vQ (far:Int):XE→XE→Prop
 | .mk k q n nm us,y=>∃p vs,y=.mk k p n nm vs∧Mb far q p∧us.length≤1000000∧uD far us vs
def uD (far:Int):List XE→List XE→Prop
 | [],ys=>ys=[]
 | x::r,ys=>∃y s,ys=y::s∧vQ far x y∧uD far r s
end
mutual
def BF (far:Int):XS→XS→Prop
 | .mk k q m nm ty us b e has,y=>∃p vs b' e',y=.mk k p m nm ty vs b' e' has∧Mb far q p∧us.length≤1000000∧b.length≤1000000∧e.length≤1000000∧uD far us vs∧uR far b b'∧uR far e e'
def uR (far:Int):List XS→List XS→Prop
 | [],ys=>ys=[]
 | x::r,ys=>∃y s,ys=y::s∧BF far x y∧uR far r s
end
end
section
open Go Hk
def anQ (far:Int) (x y:XP):Prop:=Mb far x.pos y.pos∧x.name=y.name∧x.ty=y.ty∧x.out=y.out
def Dt (far:Int):List XP→List XP→Prop
 | [],ys=>ys=[]
 | x::r,ys=>∃y s,ys=y::s∧anQ far x y∧Dt far r s
structure TD (far:Int) (f g:XF):Prop where
 pos:Mb far f.pos g.pos
 name:f.name=g.name
 has:f.has=g.has
 result:f.result=g.result
 plen:f.params.length≤1000000
 params:Dt far f.params g.params
 blen:f.body.length≤1000000
 body:uR far f.body g.body
end
section
open Go Hk
def CE {α:Type}(R:α→α→Prop):List α→List α→Prop
 | [],ys=>ys=[]
 | x::r,ys=>∃y s,ys=y::s∧R x y∧CE R r s
theorem CE.snoc {α:Type}{R:α→α→Prop}:∀{xs ys:List α}{x y:α},CE R xs ys→R x y→CE R (xs++[x]) (ys++[y])
 | [],ys,x,y,h,hr=>by
  have h:ys=[]:=h
  subst h
  exact⟨y,[],rfl,hr,rfl⟩
 | a::r,ys,x,y,h,hr=>by
  obtain⟨b,s,rfl,h1,h2⟩:=h
  exact⟨b,s++[y],rfl,h1,h2.snoc hr⟩
theorem CE.app {α:Type}{R:α→α→Prop}:∀{xs ys us vs:List α},CE R xs ys→CE R us vs→CE R (xs++us) (ys++vs)
 | [],ys,us,vs,h,hr=>by
  have h:ys=[]:=h
  subst h
  exact hr
 | a::r,ys,us,vs,h,hr=>by
  obtain⟨b,s,rfl,h1,h2⟩:=h
  exact⟨b,s++vs,rfl,h1,h2.app hr⟩
theorem CE.It {far:Int}:∀{xs ys:List XE},CE (vQ far) xs ys→uD far xs ys
 | [],_,h=>by simp only [uD]; exact h
 | _::_,_,h=>by
  obtain⟨y,s,rfl,h1,h2⟩:=h
  simp only [uD]
  exact⟨y,s,rfl,h1,h2.It⟩
theorem CE.Om {far:Int}:∀{xs ys:List XS},CE (BF far) xs ys→uR far xs ys
 | [],_,h=>by simp only [uR]; exact h
 | _::_,_,h=>by
  obtain⟨y,s,rfl,h1,h2⟩:=h
  simp only [uR]
  exact⟨y,s,rfl,h1,h2.Om⟩
theorem CE.akN {far:Int}:∀{xs ys:List XP},CE (anQ far) xs ys→Dt far xs ys
 | [],_,h=>h
 | _::_,_,h=>by
  obtain⟨y,s,rfl,h1,h2⟩:=h
  exact⟨y,s,rfl,h1,h2.akN⟩
def IK {α:Type}(R:α→α→Prop) (n:Nat) (xs ys:List α):Prop:=CE R xs ys∧xs.length≤n
section
variable (L L':List Token) (k far:Nat) {α β:Type}
def Ka (R:α→α→Prop) (x' x:PM α) (a:Nat):Prop:=∀d,match x a d with
 | .ok v a' d'=>a' < L.length∧∃v',x' (k+a) d=.ok v' (k+a') d'∧R v' v
 | .bad e _ _ _=>∃p' a' d',x' (k+a) d=.bad e p' a' d'
def rK (R:α→α→Prop) (x' x:PM α):Prop:=∀a,a < L.length→Ka L k R x' x a
end
section
variable {L L':List Token}{k far:Nat}{α β:Type}
theorem rK.bind {R:α→α→Prop}{S:β→β→Prop}{x' x:PM α}{f' f:α→PM β}(hx:rK L k R x' x) (hf:∀v' v,R v' v→rK L k S (f' v') (f v)):rK L k S (x' >>= f') (x >>= f):=by
 intro a ha d
 have h:=hx a ha d
 simp only [mK,PM.bind]
 cases h1:x a d with
 | ok v1 a1 d1 =>
  rw [h1] at h
  obtain⟨h2,v1',h3,h4⟩:=h
  have h5:=hf v1' v1 h4 a1 h2 d1
  rw [h3]; exact h5
 | bad e p a1 d1 =>
  rw [h1] at h
  obtain⟨p',a',d',h3⟩:=h
  rw [h3]; exact⟨p',a',d',rfl⟩
theorem rK.pure {R:α→α→Prop}{v' v:α}(h:R v' v):rK L k R (Pure.pure v':PM α) (Pure.pure v):=fun a ha d=>⟨ha,v',rfl,h⟩
theorem rK.fail {R:α→α→Prop}{e:Nat}:rK L k R (w_ L' e) (w_ L e):=fun a ha d=>⟨_,_,_,rfl⟩
theorem rK.ite {R:α→α→Prop}{c:Prop} [Decidable c] {x' y' x y:PM α}(hx:rK L k R x' x) (hy:rK L k R y' y):rK L k R (if c then x' else y') (if c then x else y):=by
 split
 ·exact hx
 ·exact hy
theorem Ka.ite {R:α→α→Prop}{c:Prop} [Decidable c] {x' y' x y:PM α}{a:Nat}(hx:c→Ka L k R x' x a) (hy:¬c→Ka L k R y' y a):Ka L k R (if c then x' else y') (if c then x else y) a:=by
 split
 ·rename_i h; exact hx h
 ·rename_i h; exact hy h
theorem rK.mono {R S:α→α→Prop}{x' x:PM α}(h:rK L k R x' x) (hr:∀v' v,R v' v→S v' v):rK L k S x' x:=fun a ha d=>by
 have h:=h a ha d
 cases h1:x a d with
 | ok v a' d' =>
  rw [h1] at h
  obtain⟨h1,v',h2,h3⟩:=h
  exact⟨h1,v',h2,hr _ _ h3⟩
 | bad e p a' d'=>rw [h1] at h; exact h
structure Far (L L':List Token) (k far:Nat):Prop where
 ok:rF L
 tk:∀i,i < L.length→tk L' (k+i)=xP far (tk L i)
 pos:∀i,i < L.length→(Go.Proofs.YtlddmnojanpdoaaGreatDoor.tk L i).pos≤100000
 far:far≤100000
def ae6 (far:Nat) (t' t:Token):Prop:=t'=xP far t∧t.pos≤100000
variable (hF:Far L L' k far)
include hF
theorem yO {p:Nat}(hp:p≤100000):Mb far (p+far) p:=.inr ⟨by omega,by have:=hF.far; rw [wrap64] <;> omega,by omega⟩
theorem akD {a:Nat}(ha:a < L.length):ae6 far (tk L' (k+a)) (tk L a):=⟨hF.tk a ha,hF.pos a ha⟩
theorem Og:rK L k (ae6 far) (oQ L') (oQ L):=fun a ha d=>⟨ha,_,rfl,akD hF ha⟩
theorem Ka.here {R:β→β→Prop}{f' f:Token→PM β}{a:Nat}(ha:a < L.length) (h:ae6 far (tk L' (k+a)) (tk L a)→Ka L k R (f' (tk L' (k+a))) (f (tk L a)) a):Ka L k R (oQ L' >>= f') (oQ L >>= f) a:=fun d=>h (akD hF ha) d
omit hF in
theorem Ka.next {R:β→β→Prop}{f' f:Unit→PM β}{a:Nat}(ha:a+1 < L.length) (h:rK L k R (f' ()) (f ())):Ka L k R (xU >>= f') (xU >>= f) a:=fun d=>by
 have:=h (a+1) ha d
 exact this
theorem Il {a:Nat}(ha:a < L.length) {w:List UInt8}:isS (tk L' (k+a)) w=isS (tk L a) w:=by rw [hF.tk a ha]; rfl
theorem Xv {w:List UInt8}:rK L k Eq (GZ L' w) (GZ L w):=fun a ha d=>⟨ha,_,rfl,Il hF ha⟩
omit hF in
theorem aK1:rK L k Eq pUp pUp:=fun a ha d=>⟨ha,_,rfl,rfl⟩
theorem Ba {w:List UInt8}:rK L k Eq (pM L' w) (pM L w):=fun a ha d=>by
 simp only [pM]
 rw [Il hF ha]
 cases h:isS (tk L a) w
 ·exact⟨ha,_,rfl,rfl⟩
 ·exact⟨mR hF.ok ha h,_,rfl,rfl⟩
theorem yF {w:List UInt8}:rK L k Eq (oR L' w) (oR L w):=fun a ha d=>by
 simp only [oR]
 rw [Il hF ha]
 cases h:isS (tk L a) w
 ·exact⟨_,_,_,rfl⟩
 ·exact⟨mR hF.ok ha h,_,rfl,trivial⟩
theorem Jz {w:List UInt8}:rK L k Eq (uK L' w) (uK L w):=fun a ha d=>by
 simp only [uK]
 rw [Il hF ha]
 cases h:isS (tk L a) w
 ·exact⟨_,_,_,rfl⟩
 ·exact⟨mR hF.ok ha h,_,rfl,trivial⟩
theorem Jy {w:List UInt8}:rK L k Eq (uJ L' w) (uJ L w):=fun a ha d=>by
 simp only [uJ]
 rw [Il hF ha]
 cases h:isS (tk L a) w
 ·exact⟨_,_,_,rfl⟩
 ·by_cases h1:d=64
  ·simp only [h1,if_true]; exact⟨_,_,_,rfl⟩
  ·simp only [h1,if_true,if_false]
   exact⟨mR hF.ok ha h,_,rfl,trivial⟩
theorem Cv {n:Nat}(hn:n≠0):rK L k (ae6 far) (qM L' n) (qM L n):=fun a ha d=>by
 simp only [qM]
 have h1:=hF.tk a ha
 have h2:(tk L' (k+a)).kind=(tk L a).kind:=by rw [h1]; rfl
 rw [h2]
 by_cases h:(tk L a).kind=n
 ·rw [if_pos h,if_pos h]; exact⟨p8 hF.ok ha hn h,_,rfl,akD hF ha⟩
 ·rw [if_neg h,if_neg h]; exact⟨_,_,_,rfl⟩
theorem SK:rK L k Eq (sQ L') (sQ L):=fun a ha d=>by
 simp only [sQ]
 rw [Il hF ha,Il hF ha]
 cases h:isS (tk L a) JQ
 ·cases h1:isS (tk L a) Py
  ·exact⟨_,_,_,rfl⟩
  ·exact⟨mR hF.ok ha h1,_,rfl,rfl⟩
 ·exact⟨mR hF.ok ha h,_,rfl,rfl⟩
theorem Vl {l:Nat}:rK L k Eq (qO L' l) (qO L l):=fun a ha d=>by
 simp only [qO]
 rw [Il hF ha,Il hF ha]
 cases h:isS (tk L a) zS
 ·cases h1:isS (tk L a) J4
  ·exact⟨_,_,_,rfl⟩
  ·exact⟨mR hF.ok ha h1,_,rfl,rfl⟩
 ·exact⟨mR hF.ok ha h,_,rfl,rfl⟩
theorem akB:rK L k Eq (yN L') (yN L) :=
 (yF hF).bind fun _ _ _=>(Og hF).bind fun t' t ht=>by
  obtain⟨rfl,hp⟩:=ht
  exact rK.ite (c:=t.kind=2∧t.num=0) rK.fail ((Cv hF (by decide)).bind fun t' t ht=>by
   obtain⟨rfl,hp⟩:=ht
   exact(yF hF).bind fun _ _ _=>rK.pure rfl)
theorem ZL {l:Nat}:rK L k Eq (vK L' l) (vK L l) :=
 (Ba hF).bind fun _ b hb=>by
  subst hb
  exact rK.ite ((akB hF).bind fun _ n hn=>by subst hn; exact rK.pure rfl) ((Vl hF).bind fun _ t ht=>by
   subst ht
   exact rK.ite ((Xv hF).bind fun _ b hb=>by
    subst hb
    exact rK.ite ((akB hF).bind fun _ n hn=>by subst hn; exact rK.pure rfl) (rK.pure rfl)) (rK.pure rfl))
theorem atG:rK L k (anQ far) (u1 L') (u1 L) :=
 (Ba hF).bind fun _ out hb=>by
  subst hb
  exact(SK hF).bind fun _ l hl=>by
   subst hl
   exact(Cv hF (by decide)).bind fun _ name hn=>by
    obtain⟨rfl,hp⟩:=hn
    exact(yF hF).bind fun _ _ _=>(ZL hF).bind fun _ ty ht=>by
     subst ht
     exact rK.pure ⟨yO hF hp,rfl,rfl,rfl⟩
theorem akC {R:α→α→Prop}{one' one:PM α}(h:rK L k R one' one):∀(n m:Nat) (l' l:List α),IK R m l' l→rK L k (IK R (m+n)) (xT L' one' n l') (xT L one n l)
 | 0,_,_,_,_=>rK.fail
 | n+1,m,l',l,hl=>h.bind fun x' x hx=>(Ba hF).bind fun _ b hb=>by
  subst hb
  have hl2:IK R (m+1) (l'++[x']) (l++[x]):=⟨hl.1.snoc hx,by have:=hl.2; simp; omega⟩
  exact rK.ite ((akC h n _ _ _ hl2).mono fun v' v hv=>⟨hv.1,by have:=hv.2; omega⟩) (rK.pure ⟨hl2.1,by have:=hl2.2; omega⟩)
theorem akA {R:α→α→Prop}{one' one:PM α}{w:List UInt8}(h:rK L k R one' one):rK L k (IK R 1000000) (yZ L' w one') (yZ L w one) :=
 (Xv hF).bind fun _ b hb=>by
  subst hb
  exact rK.ite (rK.pure ⟨rfl,by simp⟩) ((akC hF h 131073 0 [] [] ⟨rfl,by simp⟩).mono fun v' v hv=>⟨hv.1,by have:=hv.2; omega⟩)
section
variable {ex' ex un' un:PM XE}(he:rK L k (vQ far) ex' ex) (hu:rK L k (vQ far) un' un)
include he
theorem ZK:rK L k (IK (vQ far) 1) (uU L' ex') (uU L ex) :=
 (Jy hF).bind fun _ _ _=>he.bind fun x' x hx=>(Jz hF).bind fun _ _ _=>rK.pure ⟨⟨x,[],rfl,hx,rfl⟩,by simp⟩
theorem aj7 {t' t:Token}(ht:ae6 far t' t):rK L k (vQ far) (zT L' ex' t') (zT L ex t) :=
 (Jy hF).bind fun _ _ _=>(akA hF he).bind fun l' l hl=>(Jz hF).bind fun _ _ _=>by
  obtain⟨rfl,hp⟩:=ht
  exact rK.pure (by simp only [vQ]; exact⟨_,_,rfl,yO hF hp,hl.2,hl.1.It⟩)
theorem aj6:∀(n m:Nat) (b:Bool) (l' l:List XE),IK (vQ far) m l' l→rK L k (IK (vQ far) (m+n)) (tO L' ex' n b l') (tO L ex n b l)
 | 0,_,_,_,_,hl=>rK.pure hl
 | n+1,m,b,l',l,hl=>by
  have h1:∀_ _:Unit,rK L k (IK (vQ far) (m+(n+1))) (do let x ←ex'; tO L' ex' n false (l'++[x]):PM (List XE)) (do let x ←ex; tO L ex n false (l++[x]):PM (List XE)):=fun _ _=>he.bind fun x' x hx =>
   (aj6 n (m+1) false (l'++[x']) (l++[x]) ⟨hl.1.snoc hx,by have:=hl.2; simp; omega⟩).mono fun v' v hv=>⟨hv.1,by have:=hv.2; omega⟩
  cases b
  ·exact(yF hF).bind fun u v _=>h1 u v
  ·exact rK.bind (x':=(Pure.pure PUnit.unit:PM PUnit)) (x:=(Pure.pure PUnit.unit:PM PUnit)) (R:=fun _ _=>True) (rK.pure trivial) fun u v _=>h1 u v
theorem Oh {kind many a:Nat}{number:Bool}(hm:many≤3) (h0:a < L.length) (ha:a+1 < L.length):Ka L k (vQ far) (vY L' ex' kind many number) (vY L ex kind many number) a :=
 Ka.here hF h0 fun ht=>Ka.next ha ((Jy hF).bind fun _ _ _=>(aj6 hF he _ 0 _ [] [] ⟨rfl,by simp⟩).bind fun l' l hl=>by
  have hp:=ht.2
  have e:(tk L' (k+a)).pos=(tk L a).pos+far:=by rw [ht.1]; rfl
  exact rK.ite ((yF hF).bind fun _ _ _=>(Cv hF (by decide)).bind fun n' n hn=>(Jz hF).bind fun _ _ _=>by
    obtain⟨rfl,_⟩:=hn
    exact rK.pure (by simp only [vQ]; rw [e]; exact⟨_,_,rfl,yO hF hp,by have:=hl.2; omega,hl.1.It⟩))
   ((Jz hF).bind fun _ _ _=>rK.pure (by simp only [vQ]; rw [e]; exact⟨_,_,rfl,yO hF hp,by have:=hl.2; omega,hl.1.It⟩)))
end
section
variable {ex' ex un' un:PM XE}(he:rK L k (vQ far) ex' ex) (hu:rK L k (vQ far) un' un)
include he
theorem adC:rK L k (vQ far) (qD L' ex') (qD L ex):=fun a ha=>Ka.here hF ha fun ht=>by
 have e:(tk L' (k+a))=xP far (tk L a):=ht.1
 have hp:=ht.2
 have hl:=hF.ok
 simp only [e]
 exact Ka.ite (fun h=>Ka.next (p8 (k:=2) hl ha (by decide) h) (rK.pure (by simp only [vQ,uD]; exact⟨_,_,rfl,yO hF hp,by simp,rfl⟩))) fun _ =>
  Ka.ite (fun _=>((Jy hF).bind fun _ _ _=>he.bind fun _ _ hx=>(Jz hF).bind fun _ _ _=>rK.pure hx) a ha) fun _ =>
  Ka.ite (fun h=>Oh hF he (by omega) ha (mR hl ha h)) fun _=>Ka.ite (fun h=>Oh hF he (by omega) ha (mR hl ha h)) fun _=>Ka.ite (fun h=>Oh hF he (by omega) ha (mR hl ha h)) fun _ =>
  Ka.ite (fun h=>Oh hF he (by omega) ha (mR hl ha h)) fun _=>Ka.ite (fun h=>Oh hF he (by omega) ha (mR hl ha h)) fun _ =>
  ((Cv hF (by decide)).bind fun _ _ _=>(Xv hF).bind fun _ b hb=>by
   subst hb
   exact rK.ite (aj7 hF he ⟨rfl,hp⟩) ((Xv hF).bind fun _ b hb=>by
    subst hb
    exact rK.ite ((ZK hF he).bind fun l' l hl=>rK.pure (by simp only [vQ]; exact⟨_,_,rfl,yO hF hp,by have:=hl.2; omega,hl.1.It⟩))
     (rK.pure (by simp only [vQ,uD]; exact⟨_,_,rfl,yO hF hp,by simp,rfl⟩)))) a ha
include hu
theorem atH:rK L k (vQ far) (yB L' ex' un') (yB L ex un):=by
 have hs:∀kind,rK L k (vQ far) (AK L' un' kind) (AK L un kind):=fun kind=>(Og hF).bind fun _ t ht=>by
  obtain⟨rfl,hp⟩:=ht
  exact(Jy hF (w:=t.text)).bind fun _ _ _=>hu.bind fun x' x hx=>aK1.bind fun _ _ _=>rK.pure (by simp only [vQ,uD]; exact⟨_,_,rfl,yO hF hp,by simp,x,[],rfl,hx,rfl⟩)
 exact(Og hF).bind fun _ t ht=>by
  obtain⟨rfl,hp⟩:=ht
  exact rK.ite (hs _) (rK.ite (hs _) (rK.ite (hs _) (adC hF he)))
end
theorem Xw {next' next:PM XE}(hn:rK L k (vQ far) next' next) (j:Nat):∀(n:Nat) (x' x:XE),vQ far x' x→rK L k (vQ far) (tP L' next' j n x') (tP L next j n x)
 | 0,_,_,_=>rK.fail
 | n+1,x',x,hx=>fun a ha=>Ka.here hF ha fun ht=>by
  have e:(tk L' (k+a))=xP far (tk L a):=ht.1
  have hp:=ht.2
  have e2:pO (xP far (tk L a)) j=pO (tk L a) j:=rfl
  simp only [e]
  rw [e2]
  cases hs:pO (tk L a) j with
  | none=>exact rK.pure hx a ha
  | some kind=>exact Ka.next (p8 (k:=4) hF.ok ha (by decide) (sO hs)) (rK.ite ((Cv hF (by decide)).bind fun _ c hc=>by
    obtain⟨rfl,_⟩:=hc
    exact Xw hn j n _ _ (by simp only [vQ,uD]; exact⟨_,_,rfl,yO hF hp,by simp,x,[],rfl,hx,rfl⟩))
    (hn.bind fun y' y hy=>Xw hn j n _ _ (by simp only [vQ,uD]; exact⟨_,_,rfl,yO hF hp,by simp,x,[y],rfl,hx,y,[],rfl,hy,rfl⟩)))
theorem LN {un' un:PM XE}(hu:rK L k (vQ far) un' un):∀j,rK L k (vQ far) (pD L' un' j) (pD L un j)
 | 0=>hu
 | j+1=>(LN hu j).bind fun _ _ hx=>Xw hF (LN hu j) _ _ _ _ hx
theorem aj9 {un' un:PM XE}(hu:rK L k (vQ far) un' un):rK L k (vQ far) (Bj L' un') (Bj L un) :=
 (LN hF hu 6).bind fun x' x hx=>fun a ha=>Ka.here hF ha fun ht=>by
  have e:(tk L' (k+a))=xP far (tk L a):=ht.1
  have hp:=ht.2
  have e2:pO (xP far (tk L a)) 0=pO (tk L a) 0:=rfl
  simp only [e]
  rw [e2]
  cases hs:pO (tk L a) 0 with
  | none=>exact rK.pure hx a ha
  | some kind=>exact Ka.next (p8 (k:=4) hF.ok ha (by decide) (sO hs)) ((LN hF hu 6).bind fun y' y hy=>rK.pure (by
    simp only [vQ,uD]; exact⟨_,_,rfl,yO hF hp,by simp,x,[y],rfl,hx,y,[],rfl,hy,rfl⟩))
theorem aCi:∀n,rK L k (vQ far) (EC L' n) (EC L n)
 | 0=>rK.fail
 | n+1=>atH hF (aj9 hF (aCi n)) (aCi n)
theorem aj8 (n:Nat):rK L k (vQ far) (B1 L' n) (B1 L n):=aj9 hF (aCi hF n)
theorem ZI (n:Nat):rK L k (IK (vQ far) 1) (Bu L' n) (Bu L n):=(aj8 hF n).bind fun _ x hx=>(yF hF).bind fun _ _ _=>rK.pure ⟨⟨x,[],rfl,hx,rfl⟩,by simp⟩
end
end
section
open Go Hk
section
variable {L L':List Token}{k far:Nat}(hF:Far L L' k far)
include hF
theorem atF (n:Nat) {pos:Nat}(hp:pos≤100000):rK L k (BF far) (pN L' n (pos+far)) (pN L n pos) :=
 (Cv hF (by decide)).bind fun _ name hn=>by
  obtain⟨rfl,hnp⟩:=hn
  exact(Xv hF).bind fun _ b hb=>by
   subst hb
   exact rK.ite ((aj7 hF (aj8 hF _) ⟨rfl,hnp⟩).bind fun c' c hc=>(yF hF).bind fun _ _ _=>rK.pure (by
     simp only [BF,uD,uR]; exact⟨_,_,_,_,rfl,yO hF hp,by simp,by simp,by simp,⟨c,[],rfl,hc,rfl⟩,rfl,rfl⟩))
    ((Xv hF).bind fun _ b hb=>by
     subst hb
     exact rK.ite ((ZK hF (aj8 hF _)).bind fun i' i hi=>(yF hF).bind fun _ _ _=>(ZI hF n).bind fun l' l hl=>by
       exact rK.pure (by
        simp only [BF,uR]
        exact⟨_,_,_,_,rfl,yO hF hp,by have h1:=hl.2; have h2:=hi.2; simp; omega,by simp,by simp,(hi.1.app hl.1).It,rfl,rfl⟩))
      ((yF hF).bind fun _ _ _=>(ZI hF n).bind fun l' l hl=>rK.pure (by
       simp only [BF,uR]; exact⟨_,_,_,_,rfl,yO hF hp,by have:=hl.2; omega,by simp,by simp,hl.1.It,rfl,rfl⟩)))
theorem aCh {block' block:PM (List XS)}(hb:rK L k (IK (BF far) 1000000) block' block) (n:Nat):rK L k (BF far) (uL L' block' n) (uL L block n) :=
 (Og hF).bind fun _ t ht=>by
  obtain⟨rfl,hp⟩:=ht
  exact(Ba hF).bind fun _ b hb1=>by
   subst hb1
   exact rK.ite ((Cv hF (by decide)).bind fun _ name hn=>by
    obtain⟨rfl,_⟩:=hn
    exact(yF hF).bind fun _ _ _=>(ZI hF n).bind fun l' l hl=>rK.pure (by
     simp only [BF,uR]; exact⟨_,_,_,_,rfl,yO hF hp,by have:=hl.2; omega,by simp,by simp,hl.1.It,rfl,rfl⟩))
    ((Ba hF).bind fun _ b hb1=>by
    subst hb1
    exact rK.ite ((SK hF).bind fun _ lab hlab=>by
     subst hlab
     exact(Cv hF (by decide)).bind fun _ name hn=>by
      obtain⟨rfl,_⟩:=hn
      exact(yF hF).bind fun _ _ _=>(ZL hF).bind fun _ ty hty=>by
       subst hty
       exact(yF hF).bind fun _ _ _=>rK.pure (by
        simp only [BF,uD,uR]; exact⟨_,_,_,_,rfl,yO hF hp,by simp,by simp,by simp,rfl,rfl,rfl⟩))
     ((Ba hF).bind fun _ b hb1=>by
     subst hb1
     exact rK.ite ((aj8 hF n).bind fun x' x hx=>hb.bind fun b' b hbb=>(Ba hF).bind fun _ b1 hb1=>by
      subst hb1
      exact rK.ite (hb.bind fun e' e hee=>rK.pure (by
        simp only [BF,uD]; exact⟨_,_,_,_,rfl,yO hF hp,by simp,hbb.2,hee.2,⟨x,[],rfl,hx,rfl⟩,hbb.1.Om,hee.1.Om⟩))
       (rK.pure (by
        simp only [BF,uD,uR]; exact⟨_,_,_,_,rfl,yO hF hp,by simp,hbb.2,by simp,⟨x,[],rfl,hx,rfl⟩,hbb.1.Om,rfl⟩)))
      ((Ba hF).bind fun _ b hb1=>by
      subst hb1
      exact rK.ite ((Cv hF (by decide)).bind fun _ name hn=>by
       obtain⟨rfl,_⟩:=hn
       exact(yF hF).bind fun _ _ _=>(aj8 hF n).bind fun x' x hx=>(yF hF).bind fun _ _ _=>(Cv hF (by decide)).bind fun _ m hm=>by
        obtain⟨rfl,_⟩:=hm
        exact hb.bind fun b' b hbb=>rK.pure (by
         simp only [BF,uD,uR]; exact⟨_,_,_,_,rfl,yO hF hp,by simp,hbb.2,by simp,⟨x,[],rfl,hx,rfl⟩,hbb.1.Om,rfl⟩))
       ((Ba hF).bind fun _ b hb1=>by
       subst hb1
       exact rK.ite ((ZI hF n).bind fun l' l hl=>rK.pure (by
         simp only [BF,uR]; exact⟨_,_,_,_,rfl,yO hF hp,by have:=hl.2; omega,by simp,by simp,hl.1.It,rfl,rfl⟩))
        (atF hF n hp)))))
theorem ZM {stmt' stmt:PM XS}(hs:rK L k (BF far) stmt' stmt):∀(n m:Nat) (l' l:List XS),IK (BF far) m l' l→rK L k (IK (BF far) (m+n)) (vZ L' stmt' n l') (vZ L stmt n l)
 | 0,_,_,_,_=>rK.fail
 | n+1,m,l',l,hl=>(Xv hF).bind fun _ b hb=>by
  subst hb
  exact rK.ite (rK.pure ⟨hl.1,by have:=hl.2; omega⟩) (hs.bind fun x' x hx =>
   (ZM hs n (m+1) (l'++[x']) (l++[x]) ⟨hl.1.snoc hx,by have:=hl.2; simp; omega⟩).mono fun v' v hv=>⟨hv.1,by have:=hv.2; omega⟩)
theorem SJ:∀n,rK L k (IK (BF far) 1000000) (sE L' n) (sE L n)
 | 0=>rK.fail
 | n+1=>(Jy hF).bind fun _ _ _=>(ZM hF (aCh hF (SJ n) n) 131073 0 [] [] ⟨rfl,by simp⟩).bind fun l' l hl=>(Jz hF).bind fun _ _ _=>rK.pure ⟨hl.1,by have:=hl.2; omega⟩
theorem aCg:rK L k (TD far) (wL L') (wL L) :=
 (yF hF).bind fun _ _ _=>(Cv hF (by decide)).bind fun _ name hn=>by
  obtain⟨rfl,hp⟩:=hn
  exact(yF hF).bind fun _ _ _=>(akA hF (atG hF)).bind fun ps' ps hps=>(yF hF).bind fun _ _ _=>(Ba hF).bind fun _ b hb=>by
   subst hb
   exact rK.ite ((SK hF).bind fun _ l hl=>by
     subst hl
     exact(Vl hF).bind fun _ ty hty=>by
      subst hty
      exact(SJ hF 65).bind fun b' b hb=>rK.pure ⟨yO hF hp,rfl,rfl,rfl,hps.2,hps.1.akN,hb.2,hb.1.Om⟩)
    ((SJ hF 65).bind fun b' b hb=>rK.pure ⟨yO hF hp,rfl,rfl,rfl,hps.2,hps.1.akN,hb.2,hb.1.Om⟩)
end
end
section
open Go Hk
structure AM {α:Type}(x:List Token→PM α):Prop where
 run:∀L L' a d v a' d',x L a d=.ok v a' d'→(∀i,i < a'→tk L' i=tk L i)→x L' a d=.ok v a' d'
 lt:∀L a d v a' d',x L a d=.ok v a' d'→a < a'
theorem AM.bind {α β:Type}{x:List Token→PM α}{f:List Token→α→PM β}(hx:Loc x) (hf:∀v,AM fun L=>f L v):AM fun L=>x L >>= f L where
 run:=fun L L' a d v a' d' h ht=>by
  have h2:=hx.loc L L' a d
  simp only [mK,PM.bind] at h ⊢
  cases h1:x L a d with
  | ok v1 a1 d1 =>
   rw [h1] at h h2
   have h3:=(hf v1).lt _ _ _ _ _ _ h
   rw [h2 fun i hi=>ht i (Nat.lt_of_le_of_lt hi h3)]
   exact(hf v1).run _ _ _ _ _ _ _ h ht
  | bad e p a1 d1=>rw [h1] at h; cases h
 lt:=fun L a d v a' d' h=>by
  have h2:=hx.mono L a d
  simp only [mK,PM.bind] at h
  cases h1:x L a d with
  | ok v1 a1 d1 =>
   rw [h1] at h h2
   exact Nat.lt_of_le_of_lt h2 ((hf v1).lt _ _ _ _ _ _ h)
  | bad e p a1 d1=>rw [h1] at h; cases h
theorem AM.map {α β:Type}{x:List Token→PM α}{f:α→β}(hx:AM x):AM fun L=>x L >>= fun v=>(Pure.pure (f v):PM β) where
 run:=fun L L' a d v a' d' h ht=>by
  simp only [mK,PM.bind] at h ⊢
  cases h1:x L a d with
  | ok v1 a1 d1 =>
   rw [h1] at h
   cases h
   rw [hx.run _ _ _ _ _ _ _ h1 ht]; rfl
  | bad e p a1 d1=>rw [h1] at h; cases h
 lt:=fun L a d v a' d' h=>by
  simp only [mK,PM.bind] at h
  cases h1:x L a d with
  | ok v1 a1 d1 =>
   rw [h1] at h
   cases h
   exact hx.lt _ _ _ _ _ _ h1
  | bad e p a1 d1=>rw [h1] at h; cases h
theorem AM.ite {α:Type}{c:Prop} [Decidable c] {x y:List Token→PM α}(hx:AM x) (hy:AM y):AM fun L=>if c then x L else y L:=by
 by_cases h:c
 ·simp only [h,if_true]; exact hx
 ·simp only [h,if_false]; exact hy
theorem ap3 {w:List UInt8}:AM fun L=>uK L w where
 run:=fun L L' a d v a' d' h ht=>by
  simp only [uK] at h ⊢
  cases h1:isS (tk L a) w
  ·rw [h1] at h; cases h
  ·rw [h1] at h; cases h
   rw [ht a (Nat.lt_succ_self a),h1]; rfl
 lt:=fun L a d v a' d' h=>by
  simp only [uK] at h
  cases h1:isS (tk L a) w
  ·rw [h1] at h; cases h
  ·rw [h1] at h; cases h; exact Nat.lt_succ_self a
theorem UQ:∀n,AM fun L=>sE L n
 | 0=>⟨fun _ _ _ _ _ _ _ h=>by(cases h),fun _ _ _ _ _ _ h=>by(cases h)⟩
 | n+1=>AM.bind GG fun _=>AM.bind (R5 (ahT (Ln n) n) _ _) fun l=>AM.map ap3
theorem Zc:AM fun L=>wL L :=
 AM.bind vW fun _=>AM.bind Bt fun name=>AM.bind vW fun _=>AM.bind (WX YY) fun ps=>AM.bind vW fun _=>AM.bind Aq fun _ =>
  AM.ite (AM.bind Lq fun _=>AM.bind Nk fun _=>AM.map (UQ 65)) (AM.map (UQ 65))
theorem Un {L L':List Token}(hL:rF L) {N:Nat}(hN:N+1=L.length) (hz:∀i,i < N→(tk L i).kind≠0) (ht:∀i,i < N→tk L' i=tk L i) :
  ∀(m:Nat) (l:List XF) (a d:Nat) (r:List XF) (a' d':Nat),a≤N→o7 L m l a d=.ok r a' d' →
   d'=d∧∃j,a+j≤N∧r.length=l.length+j∧∀m',o7 L' (m'+j) l a d=o7 L' m' r N d:=by
 intro m
 induction m with
 | zero=>intro l a d r a' d' ha h; cases h
 | succ m ih =>
  intro l a d r a' d' ha h
  simp only [o7,mK,PM.bind,oQ] at h
  by_cases hk:(tk L a).kind=0
  ·rw [if_pos hk] at h
   cases h
   have:a=N:=by
    by_cases hlt:a < N
    ·exact absurd hk (hz a hlt)
    ·omega
   subst this
   exact⟨rfl,0,by omega,by omega,fun m'=>rfl⟩
  ·rw [if_neg hk] at h
   simp only [mK,PM.bind] at h
   cases h1:wL L a d with
   | ok f a1 d1 =>
    rw [h1] at h
    obtain⟨g1,g2,g3⟩:=M1 hL _ _ _ _ _ h1 (by omega)
    have g3:d1=d:=g3
    subst g3
    obtain⟨q1,j,q2,q3,q4⟩:=ih (l++[f]) a1 d1 r a' d' (by omega) h
    have hlt:a < N:=by omega
    refine⟨q1,j+1,by omega,by simp at q3; omega,fun m'=>?_⟩
    rw [←q4 m',←Nat.add_assoc]
    conv=>lhs; unfold o7
    simp only [mK,PM.bind,oQ]
    rw [ht a hlt,if_neg hk]
    simp only [PM.bind]
    rw [Zc.run _ L' _ _ _ _ _ h1 fun i hi=>ht i (by omega)]
   | bad e p a1 d1=>rw [h1] at h; cases h
theorem RO {L:List Token}:∀(m m2:Nat) (l:List XF) (a d:Nat),L.length < a+m→L.length < a+m2→0 < m→0 < m2→o7 L m l a d=o7 L m2 l a d:=by
 intro m
 induction m with
 | zero=>intro m2 l a d _ _ h _; omega
 | succ m ih =>
  intro m2 l a d h1 h2 _ h3
  obtain⟨m2,rfl⟩:∃n,m2=n+1:=⟨m2 - 1,by omega⟩
  simp only [o7,mK,PM.bind,oQ]
  by_cases hk:(tk L a).kind=0
  ·rw [if_pos hk,if_pos hk]
  ·rw [if_neg hk,if_neg hk]
   simp only [PM.bind]
   cases hf:wL L a d with
   | ok f a1 d1 =>
    have hlt:=Zc.lt _ _ _ _ _ _ hf
    have hla:a < L.length:=by
     rcases Nat.lt_or_ge a L.length with h | h
     ·exact h
     ·exact absurd (by unfold tk; rw [List.getElem?_eq_none h]; rfl) hk
    simp only
    exact ih m2 _ a1 d1 (by omega) (by omega) (by omega) (by omega)
   | bad e p a1 d1=>rfl
section
variable {L L':List Token}{k far:Nat}(hF:Far L L' k far)
include hF
theorem ZJ (B:List XF):∀(m:Nat) (l' l:List XF),CE (TD far) l' l→rK L k (fun v' v=>∃w,v'=B++w∧CE (TD far) w v) (o7 L' m (B++l')) (o7 L m l)
 | 0,_,_,_=>rK.fail
 | m+1,l',l,hl=>(Og hF).bind fun _ t ht=>by
  obtain⟨rfl,_⟩:=ht
  exact rK.ite (rK.pure ⟨l',rfl,hl⟩) ((aCg hF).bind fun f' f hf=>by
   rw [List.append_assoc]
   exact ZJ B m _ _ (hl.snoc hf))
end
end
section
open Go Hk
theorem OE {L:List Token}{i:Nat}(h:i < L.length):tk L i∈L:=by
 unfold tk; rw [ac0 h]; exact List.getElem_mem h
theorem U7 {s:List UInt8}{F:List XF}{p:Nat}(h:mW s=(F,0,p)) :
  ∃l,oI s=(l++[⟨0,s.length,0,[]⟩],0,0)∧(∀x∈l,x.kind≠0)∧∃a d,o7 (l++[⟨0,s.length,0,[]⟩]) 131073 [] 0 0=.ok F a d:=by
 unfold mW at h
 by_cases h0:(oI s).2.1=0
 ·rw [if_pos h0] at h
  obtain⟨l,h1,h2,_⟩:=CY h0
  refine⟨l,h1,fun x hx=>(h2 x hx).2.1.1,?_⟩
  rw [h1] at h
  simp only [] at h
  cases h3:o7 (l++[⟨0,s.length,0,[]⟩]) 131073 [] 0 0 with
  | ok v a d=>rw [h3] at h; cases h; exact⟨a,d,rfl⟩
  | bad e q a d =>
   rw [h3] at h
   have:=((Lp 131073 []).place _ _ _ _ _ _ _ h3).2
   exact absurd (congrArg (fun x=>x.2.1) h) this
 ·rw [if_neg h0] at h
  exact absurd (congrArg (fun x=>x.2.1) h) h0
theorem ao3 {l r:List Token}{k:Nat}(hL:rF r) (hp:∀x∈r,x.pos≤100000) (hk:k≤100000):Far r (l++r.map (xP k)) l.length k :=
 ⟨hL,fun i hi=>by unfold tk; rw [List.getElem?_append_right (by omega),Nat.add_sub_cancel_left,List.getElem?_map,ac0 hi]; rfl,fun i hi=>hp _ (OE hi),hk⟩
theorem Qk (s:List UInt8):(oI s).1.length≤s.length+1:=by
 unfold oI
 split
 ·simp
 ·have:=KE s 0 [] (Nat.zero_le _)
  simpa using this
theorem Sz {s t:List UInt8}(hst:s.length+1+t.length≤65536) {F:List XF}{p:Nat}(h1:mW s=(F,0,p)) :
  (∃G G',mW t=(G,0,0)∧mW (s++10::t)=(F++G',0,0)∧CE (TD ((s.length+1:Nat):Int)) G' G)∨∃e p q,mW t=([],e+1,p)∧mW (s++10::t)=([],e+1,q):=by
 obtain⟨l,e1,e2,a1,d1,e3⟩:=U7 h1
 have n1:=Qk s
 rw [e1] at n1
 simp only [ac2,ac8,ad0] at n1
 have k1:rF (l++[(⟨0,s.length,0,[]⟩:Token)]):=DR
 rcases Qj s t hst with ⟨p,g1,_⟩ | ⟨l',g1,g2⟩
 ·rw [e1] at g1; exact absurd (congrArg (fun x=>x.2.1) g1) (show ¬(0:Nat)=9 by decide)
 rw [e1] at g1
 have g1:=congrArg (fun x=>x.1) g1
 simp only [List.append_cancel_right_eq] at g1
 subst g1
 rcases g2 with ⟨p,g3,g4⟩ | ⟨r',g3,g4⟩
 ·refine .inr ⟨8,p,s.length+1+p,?_,?_⟩
  ·unfold mW; rw [g3]; rfl
  ·unfold mW; rw [g4]; rfl
 obtain⟨r,f1,f2,_⟩:=CY (s:=t) (by rw [g3])
 have n2:=Qk t
 have p2:=UK t
 rw [g3] at f1 n2 p2
 obtain rfl:r'=r++[⟨0,t.length,0,[]⟩]:=congrArg (fun x=>x.1) f1
 simp only [ac2,ac8,ad0] at n2
 have k2:rF (r++[(⟨0,t.length,0,[]⟩:Token)]):=DR
 have hz:∀{l:List Token}{n:Nat},(∀x∈l,x.kind≠0)→∀i,i < l.length→(tk (l++[(⟨0,n,0,[]⟩:Token)]) i).kind≠0:=by
  intro l n h i hi
  have:tk (l++[(⟨0,n,0,[]⟩:Token)]) i=tk l i:=by simp [tk,af7 hi]
  rw [this]; exact h _ (OE hi)
 obtain⟨hd,j,j1,j2,j3⟩:=Un k1 (N:=l.length) (L':=l++(r++[(⟨0,t.length,0,[]⟩:Token)]).map (xP (s.length+1))) (by simp) (hz e2) (fun i hi=>by simp [tk,af7 hi]) _ _ _ _ _ _ _ (Nat.zero_le _) e3
 simp only [ad0,Nat.zero_add] at j1 j2
 have hF:=ao3 (l:=l) (k:=s.length+1) k2 (fun x hx=>by have:=p2 x hx; omega) (by omega)
 have hs:=ZJ hF F 131073 [] [] rfl 0 (by simp) 0
 have hj:=j3 (131073 - j)
 have hr:=RO (L:=l++(r++[(⟨0,t.length,0,[]⟩:Token)]).map (xP (s.length+1))) (131073 - j) 131073 F l.length 0 (by simp; omega) (by simp; omega) (by omega) (by omega)
 rw [Nat.sub_add_cancel (by omega)] at hj
 rw [hr] at hj
 simp only [List.append_nil,Nat.add_zero] at hs
 cases hp:o7 (r++[⟨0,t.length,0,[]⟩]) 131073 [] 0 0 with
 | ok G a2 d2 =>
  rw [hp] at hs
  obtain⟨_,v',w1,G',w2,w3⟩:=hs
  subst w2
  refine .inl ⟨G,G',?_,?_,w3⟩
  ·unfold mW; rw [g3]; simp only [if_true]; rw [hp]
  ·unfold mW; rw [g4]; simp only [if_true]; rw [hj,w1]
 | bad e p a2 d2 =>
  rw [hp] at hs
  obtain⟨q,a',d',w1⟩:=hs
  have he:=((Lp 131073 []).place _ _ _ _ _ _ _ hp).2
  obtain⟨e,rfl⟩:∃n,e=n+1:=⟨e - 1,by omega⟩
  refine .inr ⟨e,p,q,?_,?_⟩
  ·unfold mW; rw [g3]; simp only [if_true]; rw [hp]
  ·unfold mW; rw [g4]; simp only [if_true]; rw [hj,w1]
end
end Go.Proofs.YtlddmnojanpdoaaGreatDoor
