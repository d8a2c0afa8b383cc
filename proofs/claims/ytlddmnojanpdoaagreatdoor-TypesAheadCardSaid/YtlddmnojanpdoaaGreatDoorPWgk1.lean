/-
  The texts WG.KQ, one behind another. No conditions.
-/
import Derived.Test.YtlddmnojanpdoaaGreatDoorPWgq1
import Derived.Test.YtlddmnojanpdoaaGreatDoorPWgn1
import Derived.Test.YtlddmnojanpdoaaGreatDoorPWgb1
set_option linter.unusedVariables false
set_option linter.unusedSimpArgs false
set_option linter.all false
open Option.some renaming injEq → ab0
open Prod.mk renaming injEq → af8
namespace Go.Proofs.YtlddmnojanpdoaaGreatDoor
section
open Go Hk
section
variable {far:Int}(hf:0≤far)
include hf
theorem ZE {q p:Nat}(h:Mb far q p):(q:Int)=p+far:=by
 rcases h with h | ⟨_,_,h⟩
 ·omega
 ·exact h
theorem as1 {q p:Nat}(h:Mb far q p):PW far p:=by
 rcases h with h | ⟨_,h,g⟩
 ·omega
 ·exact h.trans g
mutual
theorem atN:∀x y:XE,vQ far x y→nqE y.o8→okE far y.o8
 | .mk k q n nm us,y,h,hq=>by
  simp only [vQ] at h
  obtain⟨p,vs,rfl,hp,_,hs⟩:=h
  rw [XE.o8,nqE] at hq
  rw [XE.o8,okE]
  exact⟨hq.1,as1 hf hp,Ok us vs hs hq.2⟩
theorem Ok:∀xs ys:List XE,uD far xs ys→acT (XE.pJ ys)→Eg far (XE.pJ ys)
 | [],ys,h,hq=>by
  simp only [uD] at h
  subst h; exact trivial
 | x::r,ys,h,hq=>by
  simp only [uD] at h
  obtain⟨y,s,rfl,h1,h2⟩:=h
  rw [XE.pJ,acT] at hq
  rw [XE.pJ,Eg]
  exact⟨atN x y h1 hq.1,Ok r s h2 hq.2⟩
end
mutual
theorem atQ:∀x y:XS,BF far x y→nqS y.o8→okS far y.o8
 | .mk k q m nm ty us b e has,y,h,hq=>by
  simp only [BF] at h
  obtain⟨p,vs,b',e',rfl,hp,_,_,_,h1,h2,h3⟩:=h
  rw [XS.o8,nqS] at hq
  rw [XS.o8,okS]
  exact⟨as1 hf hp,Ok hf us vs h1 hq.1,Iu b b' h2 hq.2.1,Iu e e' h3 hq.2.2⟩
theorem Iu:∀xs ys:List XS,uR far xs ys→Xi (XS.pJ ys)→La far (XS.pJ ys)
 | [],ys,h,hq=>by
  simp only [uR] at h
  subst h; exact trivial
 | x::r,ys,h,hq=>by
  simp only [uR] at h
  obtain⟨y,s,rfl,h1,h2⟩:=h
  rw [XS.pJ,Xi] at hq
  rw [XS.pJ,La]
  exact⟨atQ x y h1 hq.1,Iu r s h2 hq.2⟩
end
theorem Vw:∀xs ys:List XP,Dt far xs ys→∀q∈ys.map XP.o8,PW far q.pos
 | [],ys,h=>by
  have h:ys=[]:=h
  subst h; exact fun q hq=>by cases hq
 | x::r,ys,h=>by
  obtain⟨y,s,rfl,h1,h2⟩:=h
  intro q hq
  rcases List.mem_cons.1 hq with rfl | hq
  ·exact as1 hf h1.1
  ·exact Vw r s h2 q hq
theorem Vu:∀xs ys:List XF,CE (TD far) xs ys→(∀f∈ys.map XF.o8,nqF f)→∀f∈ys.map XF.o8,okF far f
 | [],ys,h,_=>by
  have h:ys=[]:=h
  subst h; exact fun q hq=>by cases hq
 | x::r,ys,h,hq=>by
  obtain⟨y,s,rfl,h1,h2⟩:=h
  intro f hm
  rcases List.mem_cons.1 hm with rfl | hm
  ·have h3:=hq _ List.mem_cons_self
   exact⟨h3.1,as1 hf h1.pos,Vw hf _ _ h1.params,Iu hf _ _ h1.body h3.2⟩
  ·exact Vu r s h2 (fun f hf=>hq f (List.mem_cons_of_mem _ hf)) f hm
mutual
theorem atO:∀x y:XE,vQ far x y→x.o8=y.o8.sh far
 | .mk k q n nm us,y,h=>by
  simp only [vQ] at h
  obtain⟨p,vs,rfl,hp,_,hs⟩:=h
  simp only [XE.o8,GE.sh,Ol us vs hs,ZE hf hp]
theorem Ol:∀xs ys:List XE,uD far xs ys→XE.pJ xs=GE.CN far (XE.pJ ys)
 | [],ys,h=>by
  simp only [uD] at h
  subst h; rfl
 | x::r,ys,h=>by
  simp only [uD] at h
  obtain⟨y,s,rfl,h1,h2⟩:=h
  simp only [XE.pJ,GE.CN,atO x y h1,Ol r s h2]
end
mutual
theorem atS:∀x y:XS,BF far x y→x.o8=y.o8.sh far
 | .mk k q m nm ty us b e has,y,h=>by
  simp only [BF] at h
  obtain⟨p,vs,b',e',rfl,hp,_,_,_,h1,h2,h3⟩:=h
  simp only [XS.o8,GS.sh,Ol hf us vs h1,Iv b b' h2,Iv e e' h3,ZE hf hp]
theorem Iv:∀xs ys:List XS,uR far xs ys→XS.pJ xs=GS.CN far (XS.pJ ys)
 | [],ys,h=>by
  simp only [uR] at h
  subst h; rfl
 | x::r,ys,h=>by
  simp only [uR] at h
  obtain⟨y,s,rfl,h1,h2⟩:=h
  simp only [XS.pJ,GS.CN,atS x y h1,Iv r s h2]
end
theorem Vx:∀xs ys:List XP,Dt far xs ys→xs.map XP.o8=(ys.map XP.o8).map (GP.sh far)
 | [],ys,h=>by
  have h:ys=[]:=h
  subst h; rfl
 | x::r,ys,h=>by
  obtain⟨y,s,rfl,h1,h2⟩:=h
  obtain⟨xp,xn,xt,xo⟩:=x
  obtain⟨yp,yn,yt,yo⟩:=y
  obtain⟨g1,g2,g3,g4⟩:=h1
  simp only at g1 g2 g3 g4
  subst g2; subst g3; subst g4
  simp only [List.map_cons,Vx r s h2,XP.o8,GP.sh,ZE hf g1]
theorem atP (x y:XF) (h:TD far x y):x.o8=y.o8.sh far:=by
 obtain⟨xp,xn,xps,xh,xr,xb⟩:=x
 obtain⟨yp,yn,yps,yh,yr,yb⟩:=y
 obtain⟨h1,h2,h3,h4,_,h5,_,h6⟩:=h
 simp only at h1 h2 h3 h4 h5 h6
 subst h2; subst h3; subst h4
 simp only [XF.o8,GF.sh,Vx hf xps yps h5,Iv hf xb yb h6,ZE hf h1]
theorem Vv:∀xs ys:List XF,CE (TD far) xs ys→xs.map XF.o8=(ys.map XF.o8).map (GF.sh far)
 | [],ys,h=>by
  have h:ys=[]:=h
  subst h; rfl
 | x::r,ys,h=>by
  obtain⟨y,s,rfl,h1,h2⟩:=h
  simp only [List.map_cons,atP hf x y h1,Vv r s h2]
end
def O1:List UInt8:=[102,110,32,113,113,113,113,40,112,117,98,32,97,58,32,117,51,50,44,32,111,117,116,32,115,101,99,32,98,58,32,117,56,91,51,93,41,58,32,112,117,98,32,109,97,115,107,32,123,32,98,91,97,93,32,61,32,49,59,32,114,101,116,117,114,110,32,97,32,60,32,51,59,32,125]
def exD:XF:=match (mW O1).1 with
 | [f]=>f
 | _=>⟨0,[],[],false,⟨0,0,0⟩,[]⟩
theorem aKJ:mW O1=([exD],0,0):=by kernel_rfl
theorem aJT:uG [] [exD.o8]=.ok [(qS,(exD.o8,match uG [] [exD.o8] with | .ok [(_,(_,c))]=>c | _=>0))]:=by kernel_rfl
theorem aFL:exD.o8.name=qS:=by kernel_rfl
def ahA (s:List UInt8):Prop:=∃i,i+4≤s.length∧(s.drop i).take 4=qS
theorem ajL {d:List UInt8}{a n:Nat}{x:Token}(h:uP d a=some (x,n)) (hk:x.kind=2):x.text=[]:=by
 unfold uP at h
 cases d with
 | nil=>cases h
 | cons b r =>
  simp only [] at h
  by_cases h1:pI b=true
  ·rw [if_pos h1] at h
   split at h
   ·cases h
   ·simp only [ab0,af8] at h
    obtain⟨rfl,_⟩:=h
    simp only at hk
    split at hk <;> cases hk
  ·rw [if_neg h1] at h
   split at h
   ·split at h
    ·cases h
    ·simp only [ab0,af8] at h
     obtain⟨rfl,_⟩:=h
     rfl
   ·split at h
    ·cases h
    ·simp only [ab0,af8] at h
     obtain⟨rfl,_⟩:=h
     cases hk
theorem ap0 (s:List UInt8) (a:Nat) (out:List Token) (ho:∀x∈out,x.kind=2→x.text=[]):∀x∈(lexFrom s a out).1,x.kind=2→x.text=[]:=by
 fun_induction lexFrom s a out with
 | case1 a out h h3=>intro x hx; cases hx
 | case2 a out h t n h3 ih =>
  refine ih fun x hx=>?_
  rcases List.mem_append.1 hx with hx | hx
  ·exact ho x hx
  ·obtain rfl:=List.mem_singleton.1 hx
   exact ajL h3
 | case3 a out h =>
  intro x hx
  rcases List.mem_append.1 hx with hx | hx
  ·exact ho x hx
  ·obtain rfl:=List.mem_singleton.1 hx
   exact fun _=>rfl
theorem aCC {s:List UInt8}(h:¬ahA s) (he:(oI s).2.1=0) (a:Nat):(tk (oI s).1 a).text≠qS:=by
 intro ht
 have hn:∀x∈(oI s).1,x.kind=2→x.text=[]:=by
  unfold oI
  split
  ·intro x hx; cases hx
  ·exact ap0 s 0 [] fun x hx=>by cases hx
 obtain⟨l,h1,h2,-⟩:=CY he
 rw [h1] at hn ht
 rcases Nat.lt_or_ge a (l++[(⟨0,s.length,0,[]⟩:Token)]).length with ha | ha
 ·have hm:=OE ha
  have h3:=hn _ hm
  rcases List.mem_append.1 hm with hm | hm
  ·have h4:=h2 _ hm
   generalize tk (l++[(⟨0,s.length,0,[]⟩:Token)]) a=x at *
   by_cases hk:x.kind=2
   ·rw [h3 hk] at ht; cases ht
   ·have h5:=h4.2.2 hk
    rw [ht] at h5
    refine h ⟨x.pos,?_,h5⟩
    have h6:=congrArg List.length h5
    simp only [List.length_take,List.length_drop] at h6
    have h7:qS.length=4:=rfl
    omega
  ·rw [List.mem_singleton.1 hm] at ht; cases ht
 ·unfold tk at ht
  rw [List.getElem?_eq_none ha] at ht
  cases ht
theorem asX {s:List UInt8}(h:¬ahA s):∀f∈mP s,nqF f:=by
 unfold mP mW
 intro f hf
 split at hf
 ·rename_i he
  cases hp:o7 (oI s).1 131073 [] 0 0 with
  | ok l a d =>
   rw [hp] at hf
   obtain⟨x,hx,rfl⟩:=List.mem_map.1 hf
   exact Zo (aCC h he) 131073 [] (fun f hf=>by cases hf) 0 0 l a d hp x hx
  | bad e p a d=>rw [hp] at hf; cases hf
 ·cases hf
theorem aaO {s:List UInt8}(hs:s.length≤60000):(mW (O1++10::s)).2.1=(mW s).2.1 ∧
  (¬ahA s→(mW s).2.1=0→(rD (mP s)).1=(rD (mP (O1++10::s))).1∧Bx (mP s)=Bx (mP (O1++10::s)) ∧
   ((rD (mP s)).1=0∨(rD (mP s)).2=0∨(rD (mP (O1++10::s))).2=(rD (mP s)).2+76∧PW 76 (rD (mP s)).2)):=by
 have hl:O1.length=75:=rfl
 rcases Sz (s:=O1) (t:=s) (by omega) aKJ with ⟨G,G',h1,h2,h3⟩ | ⟨e,p,q,h1,h2⟩
 ·refine⟨by rw [h1,h2],fun hq _=>?_⟩
  have e1:mP (O1++10::s)=exD.o8::(mP s).map (GF.sh 76):=by
   unfold mP
   rw [h1,h2,List.map_append,Vv (by omega) _ _ h3]
   rfl
  have p1:(qE (mP s)).2=0:=congrArg (·.2) (Ej s)
  have p2:(qE (mP (O1++10::s))).2=0:=congrArg (·.2) (Ej _)
  have ok:=Vu (far:=((O1.length+1:Nat):Int)) (by omega) _ _ h3 (by have:=asX hq; unfold mP at this; rwa [h1] at this)
  have ok:∀f∈mP s,okF 76 f:=by unfold mP; rw [h1]; exact ok
  rw [e1] at p2 ⊢
  exact VK aJT aFL ok p1 p2
 ·refine⟨by rw [h1,h2],fun _ h=>?_⟩
  rw [h1] at h
  exact absurd h (Nat.succ_ne_zero e)
end
end Go.Proofs.YtlddmnojanpdoaaGreatDoor
