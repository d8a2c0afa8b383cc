/-
  The texts WG.BC, WG.CB, WG.CC, WG.LD, one behind another. No conditions.
-/
import Derived.Test.YtlddmnojanpdoaaGreatDoorPWgn1
import Derived.Test.YtlddmnojanpdoaaGreatDoorPSg1
import Derived.Test.YtlddmnojanpdoaaGreatDoorPWg1
import Derived.Test.YtlddmnojanpdoaaGreatDoorPVt1
import Derived.Test.YtlddmnojanpdoaaGreatDoorPRg1
set_option linter.unusedVariables false
set_option linter.unusedSimpArgs false
set_option linter.all false
open List renaming cons_append → ae7, length_cons → ac1
namespace Go.Proofs.YtlddmnojanpdoaaGreatDoor
section
open Go Hk
section
variable {L:List Token}{α β:Type}
def PR (x:PM α) (Q:α→Prop):Prop:=∀a d v a' d',x a d=.ok v a' d'→Q v
theorem PR.bind {x:PM α}{f:α→PM β}{Q:α→Prop}{S:β→Prop}(hx:PR x Q) (hf:∀v,Q v→PR (f v) S):PR (x >>= f) S:=by
 intro a d v a' d' h
 simp only [mL,PM.bind] at h
 cases h1:x a d with
 | ok u a1 d1 =>
  rw [h1] at h
  exact hf u (hx a d u a1 d1 h1) a1 d1 v a' d' h
 | bad e p a1 d1=>rw [h1] at h; cases h
theorem PR.any {x:PM α}{f:α→PM β}{S:β→Prop}(hf:∀v,PR (f v) S):PR (x >>= f) S:=PR.bind (Q:=fun _=>True) (fun _ _ _ _ _ _=>trivial) fun v _=>hf v
theorem PR.pure {v:α}{Q:α→Prop}(h:Q v):PR (Pure.pure v:PM α) Q:=by
 intro a d u a' d' e
 simp only [y6,Out.ok.injEq] at e
 obtain⟨rfl,_,_⟩:=e
 exact h
theorem PR.fail {e:Nat}{Q:α→Prop}:PR (w8 L e:PM α) Q:=by intro a d u a' d' h; cases h
theorem PR.ite {p:Prop} [Decidable p] {x y:PM α}{Q:α→Prop}(hx:PR x Q) (hy:PR y Q):PR (if p then x else y) Q:=by
 split
 ·exact hx
 ·exact hy
theorem Ym:∀{l m:List GS},Fw (l++m)=max (Fw l) (Fw m)
 | [],m=>by simp [Fw]
 | x::r,m=>by simp only [ae7,Fw,Ym (l:=r)]; omega
theorem Vx:∀{l m:List XS},XS.pJ (l++m)=XS.pJ l++XS.pJ m
 | [],m=>rfl
 | x::r,m=>by simp only [ae7,XS.pJ,Vx (l:=r)]
def DB (n:Nat) (l:List XS):Prop:=Fw (XS.pJ l)≤n
def DS (n:Nat) (x:XS):Prop:=dS x.o8≤n+1
theorem Ri {n k p m:Nat}{name:List UInt8}{ty:Ty}{args:List XE}{b e:List XS}{has:Bool}(h1:DB n b) (h2:DB n e):DS n (.mk k p m name ty args b e has):=by
 unfold DS DB at *
 simp only [XS.o8,dS]
 omega
theorem Ce {n:Nat}:DB n []:=by simp [DB,XS.pJ,Fw]
theorem ay2 {block:PM (List XS)}{n:Nat}(hb:PR block (DB n)) (k:Nat):PR (uK L block k) (DS n):=by
 have nn:PR (pN L k 0) (DS n)∧∀p,PR (pN L k p) (DS n):=by
  have:∀p,PR (pN L k p) (DS n):=fun p=>PR.any fun _=>PR.any fun _=>PR.ite (PR.any fun _=>PR.any fun _=>PR.pure (Ri Ce Ce)) (PR.any fun _=>PR.ite (PR.any fun _=>PR.any fun _=>PR.any fun _=>PR.pure (Ri Ce Ce)) (PR.any fun _=>PR.any fun _=>PR.pure (Ri Ce Ce)))
  exact⟨this 0,this⟩
 exact PR.any fun t=>PR.any fun _=>PR.ite
  (PR.any fun _=>PR.any fun _=>PR.any fun _=>PR.pure (Ri Ce Ce))
  (PR.any fun _=>PR.ite
   (PR.any fun _=>PR.any fun _=>PR.any fun _=>PR.any fun _=>PR.any fun _=>PR.pure (Ri Ce Ce))
   (PR.any fun _=>PR.ite
    (PR.any fun _=>hb.bind fun b h1=>PR.any fun _=>PR.ite (hb.bind fun e h2=>PR.pure (Ri h1 h2)) (PR.pure (Ri h1 Ce)))
    (PR.any fun _=>PR.ite
     (PR.any fun _=>PR.any fun _=>PR.any fun _=>PR.any fun _=>PR.any fun _=>hb.bind fun b h1=>PR.pure (Ri h1 Ce))
     (PR.any fun _=>PR.ite (PR.any fun _=>PR.pure (Ri Ce Ce)) (nn.2 _)))))
theorem Yp {stmt:PM XS}{n:Nat}(hs:PR stmt (DS n)):∀(m:Nat) (l:List XS),DB (n+1) l→PR (vX L stmt m l) (DB (n+1))
 | 0,_,_=>PR.fail
 | m+1,l,hl=>PR.any fun _=>PR.ite (PR.pure hl) (hs.bind fun x hx=>Yp hs m _ (by
   unfold DB DS at *
   rw [Vx,Ym]
   simp only [XS.pJ,Fw]
   omega))
theorem Rh:∀n,PR (sB L n) (DB n)
 | 0=>PR.fail
 | n+1=>PR.any fun _=>(Yp (ay2 (Rh n) n) 131073 [] Ce).bind fun l hl=>PR.any fun _=>PR.pure hl
theorem ay1:PR (wJ L) (fun f=>DB 65 f.body) :=
 PR.any fun _=>PR.any fun _=>PR.any fun _=>PR.any fun _=>PR.any fun _=>PR.any fun _=>PR.ite
  (PR.any fun _=>PR.any fun _=>(Rh 65).bind fun b hb=>PR.pure hb)
  ((Rh 65).bind fun b hb=>PR.pure hb)
theorem Yo:∀(m:Nat) (l:List XF),(∀f∈l,DB 65 f.body)→PR (o7 L m l) (fun l'=>∀f∈l',DB 65 f.body)
 | 0,_,_=>PR.fail
 | m+1,l,hl=>PR.any fun _=>PR.ite (PR.pure hl) (ay1.bind fun f hf=>Yo m _ (by
   intro g hg
   rcases List.mem_append.1 hg with h | h
   ·exact hl g h
   ·simp at h; subst h; exact hf))
end
theorem ajJ {L:List Token}(h:∀x∈L,x.text.length≤65536):∀a,Jn L a≤a * 65736
 | 0=>by simp [Jn]
 | a+1=>by
  have:=ajJ h a
  have h1:(tk L a).text.length≤65536:=by
   unfold tk
   cases hl:L[a]? with
   | none=>simp
   | some x=>exact h x (List.mem_of_getElem? hl)
  simp only [Jn]
  omega
theorem UU (s:List UInt8):J1 ((mW s).1.map XF.o8)≤4308140232∧∀f∈(mW s).1,DB 65 f.body:=by
 by_cases he:(mW s).2.1=0
 ·have hr:mW s=((mW s).1,0,(mW s).2.2):=by rw [←he]
  obtain⟨l,h1,h2,a,d,h3⟩:=UW hr
  have hlex:(oI s).2.1=0:=by rw [h1]
  have hlen:=Nj s
  rw [h1] at hlen
  have hin:=RM (L:=l++[⟨0,s.length,0,[]⟩]) DN 131073 [] 0 (by simp) 0
  rw [h3] at hin
  simp only [Out.idx] at hin
  have hpay:=X7 (L:=l++[⟨0,s.length,0,[]⟩]) 131073 [] 0 0 0 _ a d h3
  have hx:∀x∈l++[(⟨0,s.length,0,[]⟩:Token)],x.text.length≤65536:=by
   intro x hx
   rcases List.mem_append.1 hx with h | h
   ·obtain⟨l',e1,e2,_⟩:=CT hlex
    rw [h1] at e1
    simp only [Prod.mk.injEq,and_true] at e1
    have:l=l':=by
     have:=congrArg List.dropLast e1
     simpa using this
    subst this
    exact(e2 x h).2.1.2.2.1
   ·simp at h; subst h; simp
  have hle:=ajJ hx a
  rw [ak1]
  simp only [lw,Jn,Nat.zero_add,Nat.add_zero] at hpay
  refine⟨by simp only at hlen; omega,?_⟩
  exact Yo 131073 [] (by simp) 0 0 _ a d h3
 ·rw [acS s he]
  simp [J1]
end
section
open Go Hk
section loop
variable {R:List (List kM)}{c:wG}{f:GF}
end loop
section mid
variable {R:List (List kM)}{c:wG}{f:GF}
end mid
end
section
open Go Hk
mutual
theorem XE.Gt:∀x:XE,x.cells=x.o8.cells
 | .mk k p n name args=>by simp only [XE.cells,XE.o8,GE.cells,XE.KO args]
theorem XE.KO:∀l:List XE,XE.rows l=GE.rows (XE.pJ l)
 | []=>rfl
 | x::r=>by simp only [XE.rows,XE.pJ,GE.rows,XE.Gt x,XE.KO r]
end
theorem XE.acG (l:List XE):l.map XE.cells=(XE.pJ l).map GE.cells:=by rw [←XE.nN,←GE.nN,XE.KO]
mutual
theorem XS.Gt:∀x:XS,x.cells=x.o8.cells
 | .mk k p m name ty args body els has=>by simp only [XS.cells,XS.o8,GS.cells,XS.KO body,XS.KO els,XE.acG args,Ty.o8]
theorem XS.KO:∀l:List XS,XS.rows l=GS.rows (XS.pJ l)
 | []=>rfl
 | x::r=>by simp only [XS.rows,XS.pJ,GS.rows,XS.Gt x,XS.KO r]
end
theorem XS.acG (l:List XS):l.map XS.cells=(XS.pJ l).map GS.cells:=by rw [←XS.nN,←GS.nN,XS.KO]
theorem XF.Gt (f:XF):f.cells=f.o8.cells:=by
 simp only [XF.cells,XF.o8,GF.cells,XS.acG,List.map_map,Ty.o8]
 rfl
theorem XF.acG (l:List XF):l.map XF.cells=(l.map XF.o8).map GF.cells:=by
 rw [List.map_map]; exact List.map_congr_left fun f _=>XF.Gt f
mutual
theorem atG:∀x:GE,x.size≤wE x
 | .mk _ _ _ name args=>by have:=Oh args; simp only [GE.size,wE]; omega
theorem Oh:∀l:List GE,GE.nJ l≤FY l
 | []=>by simp [GE.nJ,FY]
 | x::r=>by have:=atG x; have:=Oh r; simp only [GE.nJ,FY]; omega
end
mutual
theorem atI:∀x:GS,x.size≤wS x
 | .mk _ _ _ name _ args body els _=>by have:=Oh args; have:=DM body; have:=DM els; simp only [GS.size,wS]; omega
theorem DM:∀l:List GS,GS.nJ l≤FZ l
 | []=>by simp [GS.nJ,FZ]
 | x::r=>by have:=atI x; have:=DM r; simp only [GS.nJ,FZ]; omega
end
theorem Ix:∀l:List GP,l.length * 64≤VD l
 | []=>by simp
 | x::r=>by
  have:=Ix r
  have:60≤wP x:=by simp only [wP]; omega
  simp only [VD,ac1]; omega
theorem Iv:∀l:List GF,l.length * 120≤J1 l
 | []=>by simp
 | x::r=>by
  have:=Iv r
  have:120≤wF x:=by simp only [wF]; omega
  simp only [J1,ac1]; omega
theorem Iw {f:GF}:∀{l:List GF},f∈l→wF f≤J1 l
 | y::r,h=>by
  simp only [J1]
  cases h with
  | head=>omega
  | tail _ h=>have:=Iw h; omega
theorem Sr {T:Nat}:∀{l:List GF},l.all o0=true→(∀f∈l,1+Fw f.body≤T)→((l.map vE).flatten).length≤J1 l * (T+1)∧qJ (l.map vA)≤J1 l
 | [],_,_=>by simp [qJ]
 | f::r,h,hd=>by
  simp only [List.all_cons,Bool.and_eq_true] at h
  have h1:=atV h.1 (hd f (by simp))
  have h2:=Sr h.2 (fun g hg=>hd g (by simp [hg]))
  simp only [List.map_cons,List.flatten_cons,List.length_append,J1,qJ,Nat.add_mul]
  omega
theorem NT {l:List GF}(hw:J1 l≤4400000000) (hd:∀f∈l,Fw f.body≤67):(∀f∈l,f.size≤4611686018427387904)∧l.length≤4611686018427387904∧(l.all o0=true→(uL l l.length).length≤1099511627776)∧(l.all o0=true→uE l l.length≤1000000000000000):=by
 have h0:=Iv l
 refine⟨fun f hf=>?_,by omega,fun h=>?_,fun h=>?_⟩
 ·have h1:=Iw hf
  have h2:=Ix f.params
  have h3:=DM f.body
  unfold wF at h1
  unfold GF.size
  omega
 ·have:=(Sr (T:=68) h (fun f hf=>by have:=hd f hf; omega)).1
  simp only [uL,List.take_length]
  omega
 ·have:=(Sr (T:=68) h (fun f hf=>by have:=hd f hf; omega)).2
  simp only [uE,List.take_length]
  omega
theorem zR (s:List UInt8):J1 ((mW s).1.map XF.o8)≤4308140232∧∀f∈(mW s).1.map XF.o8,Fw f.body≤65:=by
 have h:=UU s
 refine⟨h.1,fun f hf=>?_⟩
 obtain⟨x,hx,rfl⟩:=List.mem_map.1 hf
 exact h.2 x hx
def mQ (s:List UInt8):List GF:=(mW s).1.map XF.o8
end
section
open Go Hk
theorem afO (s:List UInt8) (h:kP):KK 25 [.str s] h=some (.ret (.tuple [.agg (oT (mQ s)),.agg [.int .i64 ((mW s).2.1:Int),.int .i64 ((mW s).2.2:Int)]]),h):=by
 rw [c25,XF.acG]; rfl
end
end Go.Proofs.YtlddmnojanpdoaaGreatDoor
