/-
  The texts WG.BC, WG.CB, WG.CC, WG.LD, one behind another. No conditions.
-/
import Derived.Test.YtlddmnojanpdoaaGreatDoorPWgn1
import Derived.Test.YtlddmnojanpdoaaGreatDoorPSg2
import Derived.Test.YtlddmnojanpdoaaGreatDoorPSg1
import Derived.Test.YtlddmnojanpdoaaGreatDoorPWg2
import Derived.Test.YtlddmnojanpdoaaGreatDoorPVt1
import Derived.Test.YtlddmnojanpdoaaGreatDoorPRg1
import Derived.Test.YtlddmnojanpdoaaGreatDoorPWg1
set_option linter.unusedVariables false
set_option linter.unusedSimpArgs false
set_option linter.all false
open List renaming cons_append → af2, length_cons → ac8
namespace Go.Proofs.YtlddmnojanpdoaaGreatDoor
section
open Go Hk
section
variable {L:List Token}{α β:Type}
def PR (x:PM α) (Q:α→Prop):Prop:=∀a d v a' d',x a d=.ok v a' d'→Q v
theorem PR.bind {x:PM α}{f:α→PM β}{Q:α→Prop}{S:β→Prop}(hx:PR x Q) (hf:∀v,Q v→PR (f v) S):PR (x >>= f) S:=by
 intro a d v a' d' h
 simp only [mK,PM.bind] at h
 cases h1:x a d with
 | ok u a1 d1 =>
  rw [h1] at h
  exact hf u (hx a d u a1 d1 h1) a1 d1 v a' d' h
 | bad e p a1 d1=>rw [h1] at h; cases h
theorem PR.any {x:PM α}{f:α→PM β}{S:β→Prop}(hf:∀v,PR (f v) S):PR (x >>= f) S:=PR.bind (Q:=fun _=>True) (fun _ _ _ _ _ _=>trivial) fun v _=>hf v
theorem PR.pure {v:α}{Q:α→Prop}(h:Q v):PR (Pure.pure v:PM α) Q:=by
 intro a d u a' d' e
 simp only [y9,Out.ok.injEq] at e
 obtain⟨rfl,_,_⟩:=e
 exact h
theorem PR.fail {e:Nat}{Q:α→Prop}:PR (w_ L e:PM α) Q:=by intro a d u a' d' h; cases h
theorem PR.ite {p:Prop} [Decidable p] {x y:PM α}{Q:α→Prop}(hx:PR x Q) (hy:PR y Q):PR (if p then x else y) Q:=by
 split
 ·exact hx
 ·exact hy
theorem Yx:∀{l m:List GS},FA (l++m)=max (FA l) (FA m)
 | [],m=>by simp [FA]
 | x::r,m=>by simp only [af2,FA,Yx (l:=r)]; omega
theorem VJ:∀{l m:List XS},XS.pJ (l++m)=XS.pJ l++XS.pJ m
 | [],m=>rfl
 | x::r,m=>by simp only [af2,XS.pJ,VJ (l:=r)]
def DB (n:Nat) (l:List XS):Prop:=FA (XS.pJ l)≤n
def DS (n:Nat) (x:XS):Prop:=dS x.o8≤n+1
theorem Rs {n k p m:Nat}{name:List UInt8}{ty:Ty}{args:List XE}{b e:List XS}{has:Bool}(h1:DB n b) (h2:DB n e):DS n (.mk k p m name ty args b e has):=by
 unfold DS DB at *
 simp only [XS.o8,dS]
 omega
theorem Cj {n:Nat}:DB n []:=by simp [DB,XS.pJ,FA]
theorem azE {block:PM (List XS)}{n:Nat}(hb:PR block (DB n)) (k:Nat):PR (uL L block k) (DS n):=by
 have nn:PR (pN L k 0) (DS n)∧∀p,PR (pN L k p) (DS n):=by
  have:∀p,PR (pN L k p) (DS n):=fun p=>PR.any fun _=>PR.any fun _=>PR.ite (PR.any fun _=>PR.any fun _=>PR.pure (Rs Cj Cj)) (PR.any fun _=>PR.ite (PR.any fun _=>PR.any fun _=>PR.any fun _=>PR.pure (Rs Cj Cj)) (PR.any fun _=>PR.any fun _=>PR.pure (Rs Cj Cj)))
  exact⟨this 0,this⟩
 exact PR.any fun t=>PR.any fun _=>PR.ite
  (PR.any fun _=>PR.any fun _=>PR.any fun _=>PR.pure (Rs Cj Cj))
  (PR.any fun _=>PR.ite
   (PR.any fun _=>PR.any fun _=>PR.any fun _=>PR.any fun _=>PR.any fun _=>PR.pure (Rs Cj Cj))
   (PR.any fun _=>PR.ite
    (PR.any fun _=>hb.bind fun b h1=>PR.any fun _=>PR.ite (hb.bind fun e h2=>PR.pure (Rs h1 h2)) (PR.pure (Rs h1 Cj)))
    (PR.any fun _=>PR.ite
     (PR.any fun _=>PR.any fun _=>PR.any fun _=>PR.any fun _=>PR.any fun _=>hb.bind fun b h1=>PR.pure (Rs h1 Cj))
     (PR.any fun _=>PR.ite (PR.any fun _=>PR.pure (Rs Cj Cj)) (nn.2 _)))))
theorem YA {stmt:PM XS}{n:Nat}(hs:PR stmt (DS n)):∀(m:Nat) (l:List XS),DB (n+1) l→PR (vZ L stmt m l) (DB (n+1))
 | 0,_,_=>PR.fail
 | m+1,l,hl=>PR.any fun _=>PR.ite (PR.pure hl) (hs.bind fun x hx=>YA hs m _ (by
   unfold DB DS at *
   rw [VJ,Yx]
   simp only [XS.pJ,FA]
   omega))
theorem Rr:∀n,PR (sE L n) (DB n)
 | 0=>PR.fail
 | n+1=>PR.any fun _=>(YA (azE (Rr n) n) 131073 [] Cj).bind fun l hl=>PR.any fun _=>PR.pure hl
theorem azD:PR (wL L) (fun f=>DB 65 f.body) :=
 PR.any fun _=>PR.any fun _=>PR.any fun _=>PR.any fun _=>PR.any fun _=>PR.any fun _=>PR.ite
  (PR.any fun _=>PR.any fun _=>(Rr 65).bind fun b hb=>PR.pure hb)
  ((Rr 65).bind fun b hb=>PR.pure hb)
theorem Yz:∀(m:Nat) (l:List XF),(∀f∈l,DB 65 f.body)→PR (o7 L m l) (fun l'=>∀f∈l',DB 65 f.body)
 | 0,_,_=>PR.fail
 | m+1,l,hl=>PR.any fun _=>PR.ite (PR.pure hl) (azD.bind fun f hf=>Yz m _ (by
   intro g hg
   rcases List.mem_append.1 hg with h | h
   ·exact hl g h
   ·simp at h; subst h; exact hf))
end
theorem ajU {L:List Token}(h:∀x∈L,x.text.length≤65536):∀a,Jr L a≤a * 65736
 | 0=>by simp [Jr]
 | a+1=>by
  have:=ajU h a
  have h1:(tk L a).text.length≤65536:=by
   unfold tk
   cases hl:L[a]? with
   | none=>simp
   | some x=>exact h x (List.mem_of_getElem? hl)
  simp only [Jr]
  omega
theorem U6 (s:List UInt8):J5 ((mW s).1.map XF.o8)≤4308140232∧∀f∈(mW s).1,DB 65 f.body:=by
 by_cases he:(mW s).2.1=0
 ·have hr:mW s=((mW s).1,0,(mW s).2.2):=by rw [←he]
  obtain⟨l,h1,h2,a,d,h3⟩:=U7 hr
  have hlex:(oI s).2.1=0:=by rw [h1]
  have hlen:=Nr s
  rw [h1] at hlen
  have hin:=R0 (L:=l++[⟨0,s.length,0,[]⟩]) DR 131073 [] 0 (by simp) 0
  rw [h3] at hin
  simp only [Out.idx] at hin
  have hpay:=Yh (L:=l++[⟨0,s.length,0,[]⟩]) 131073 [] 0 0 0 _ a d h3
  have hx:∀x∈l++[(⟨0,s.length,0,[]⟩:Token)],x.text.length≤65536:=by
   intro x hx
   rcases List.mem_append.1 hx with h | h
   ·obtain⟨l',e1,e2,_⟩:=CY hlex
    rw [h1] at e1
    simp only [Prod.mk.injEq,and_true] at e1
    have:l=l':=by
     have:=congrArg List.dropLast e1
     simpa using this
    subst this
    exact(e2 x h).2.1.2.2.1
   ·simp at h; subst h; simp
  have hle:=ajU hx a
  rw [alD]
  simp only [lw,Jr,Nat.zero_add,Nat.add_zero] at hpay
  refine⟨by simp only at hlen; omega,?_⟩
  exact Yz 131073 [] (by simp) 0 0 _ a d h3
 ·rw [ac3 s he]
  simp [J5]
end
section
open Go Hk
section loop
variable {R:List (List kM)}{c:wI}{f:GF}
end loop
section mid
variable {R:List (List kM)}{c:wI}{f:GF}
end mid
end
section
open Go Hk
mutual
theorem XE.Gx:∀x:XE,x.cells=x.o8.cells
 | .mk k p n name args=>by simp only [XE.cells,XE.o8,GE.cells,XE.KW args]
theorem XE.KW:∀l:List XE,XE.rows l=GE.rows (XE.pJ l)
 | []=>rfl
 | x::r=>by simp only [XE.rows,XE.pJ,GE.rows,XE.Gx x,XE.KW r]
end
theorem XE.acR (l:List XE):l.map XE.cells=(XE.pJ l).map GE.cells:=by rw [←XE.nO,←GE.nO,XE.KW]
mutual
theorem XS.Gx:∀x:XS,x.cells=x.o8.cells
 | .mk k p m name ty args body els has=>by simp only [XS.cells,XS.o8,GS.cells,XS.KW body,XS.KW els,XE.acR args,Ty.o8]
theorem XS.KW:∀l:List XS,XS.rows l=GS.rows (XS.pJ l)
 | []=>rfl
 | x::r=>by simp only [XS.rows,XS.pJ,GS.rows,XS.Gx x,XS.KW r]
end
theorem XS.acR (l:List XS):l.map XS.cells=(XS.pJ l).map GS.cells:=by rw [←XS.nO,←GS.nO,XS.KW]
theorem XF.Gx (f:XF):f.cells=f.o8.cells:=by
 simp only [XF.cells,XF.o8,GF.cells,XS.acR,List.map_map,Ty.o8]
 rfl
theorem XF.acR (l:List XF):l.map XF.cells=(l.map XF.o8).map GF.cells:=by
 rw [List.map_map]; exact List.map_congr_left fun f _=>XF.Gx f
mutual
theorem atT:∀x:GE,x.size≤wE x
 | .mk _ _ _ name args=>by have:=On args; simp only [GE.size,wE]; omega
theorem On:∀l:List GE,GE.nJ l≤F4 l
 | []=>by simp [GE.nJ,F4]
 | x::r=>by have:=atT x; have:=On r; simp only [GE.nJ,F4]; omega
end
mutual
theorem atV:∀x:GS,x.size≤wS x
 | .mk _ _ _ name _ args body els _=>by have:=On args; have:=DQ body; have:=DQ els; simp only [GS.size,wS]; omega
theorem DQ:∀l:List GS,GS.nJ l≤F5 l
 | []=>by simp [GS.nJ,F5]
 | x::r=>by have:=atV x; have:=DQ r; simp only [GS.nJ,F5]; omega
end
theorem IB:∀l:List GP,l.length * 64≤VO l
 | []=>by simp
 | x::r=>by
  have:=IB r
  have:60≤wP x:=by simp only [wP]; omega
  simp only [VO,ac8]; omega
theorem Iz:∀l:List GF,l.length * 120≤J5 l
 | []=>by simp
 | x::r=>by
  have:=Iz r
  have:120≤wF x:=by simp only [wF]; omega
  simp only [J5,ac8]; omega
theorem IA {f:GF}:∀{l:List GF},f∈l→wF f≤J5 l
 | y::r,h=>by
  simp only [J5]
  cases h with
  | head=>omega
  | tail _ h=>have:=IA h; omega
theorem SC {T:Nat}:∀{l:List GF},l.all o0=true→(∀f∈l,1+FA f.body≤T)→((l.map vF).flatten).length≤J5 l * (T+1)∧qJ (l.map vB)≤J5 l
 | [],_,_=>by simp [qJ]
 | f::r,h,hd=>by
  simp only [List.all_cons,Bool.and_eq_true] at h
  have h1:=at7 h.1 (hd f (by simp))
  have h2:=SC h.2 (fun g hg=>hd g (by simp [hg]))
  simp only [List.map_cons,List.flatten_cons,List.length_append,J5,qJ,Nat.add_mul]
  omega
theorem NZ {l:List GF}(hw:J5 l≤4400000000) (hd:∀f∈l,FA f.body≤67):(∀f∈l,f.size≤4611686018427387904)∧l.length≤4611686018427387904∧(l.all o0=true→(uM l l.length).length≤1099511627776)∧(l.all o0=true→uF l l.length≤1000000000000000):=by
 have h0:=Iz l
 refine⟨fun f hf=>?_,by omega,fun h=>?_,fun h=>?_⟩
 ·have h1:=IA hf
  have h2:=IB f.params
  have h3:=DQ f.body
  unfold wF at h1
  unfold GF.size
  omega
 ·have:=(SC (T:=68) h (fun f hf=>by have:=hd f hf; omega)).1
  simp only [uM,List.take_length]
  omega
 ·have:=(SC (T:=68) h (fun f hf=>by have:=hd f hf; omega)).2
  simp only [uF,List.take_length]
  omega
theorem zU (s:List UInt8):J5 ((mW s).1.map XF.o8)≤4308140232∧∀f∈(mW s).1.map XF.o8,FA f.body≤65:=by
 have h:=U6 s
 refine⟨h.1,fun f hf=>?_⟩
 obtain⟨x,hx,rfl⟩:=List.mem_map.1 hf
 exact h.2 x hx
def mP (s:List UInt8):List GF:=(mW s).1.map XF.o8
end
section
open Go Hk
theorem afZ (s:List UInt8) (h:kP):KK 25 [.str s] h=some (.ret (.tuple [.agg (oT (mP s)),.agg [.int .i64 ((mW s).2.1:Int),.int .i64 ((mW s).2.2:Int)]]),h):=by
 rw [c25,XF.acR]; rfl
end
end Go.Proofs.YtlddmnojanpdoaaGreatDoor
