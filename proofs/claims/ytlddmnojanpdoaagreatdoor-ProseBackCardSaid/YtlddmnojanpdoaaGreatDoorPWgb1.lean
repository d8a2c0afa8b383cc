/-
  The texts WG.BC, WG.CB, WG.CC, WG.LD, WG.OB, WG.L11v, WG.W7, one behind another. No conditions.
-/
import Derived.Test.YtlddmnojanpdoaaGreatDoorPWgn1
import Derived.Test.YtlddmnojanpdoaaGreatDoorPSg1
import Derived.Test.YtlddmnojanpdoaaGreatDoorPWg2
import Derived.Test.YtlddmnojanpdoaaGreatDoorPVt1
import Derived.Test.YtlddmnojanpdoaaGreatDoorPRg1
import Derived.Test.YtlddmnojanpdoaaGreatDoorPWg1
import Derived.Test.YtlddmnojanpdoaaGreatDoorPWgo2
import Derived.Test.YtlddmnojanpdoaaGreatDoorPWgo1
import Derived.Test.YtlddmnojanpdoaaGreatDoorPWgu1
set_option linter.unusedVariables false
set_option linter.unusedSimpArgs false
set_option linter.all false
open List renaming cons_append → af5, getElem?_eq_getElem → ac1, length_cons → am1
namespace Go.Proofs.YtlddmnojanpdoaaGreatDoor
section
open Go Hk
section
variable {L:List Token}{α β:Type}
def PR (x:PM α) (Q:α→Prop):Prop:=∀a d v a' d',x a d=.ok v a' d'→Q v
theorem PR.bind {x:PM α}{f:α→PM β}{Q:α→Prop}{S:β→Prop}(hx:PR x Q) (hf:∀v,Q v→PR (f v) S):PR (x >>= f) S:=by
 intro a d v a' d' h
 simp only [mO,PM.bind] at h
 cases h1:x a d with
 | ok u a1 d1 =>
  rw [h1] at h
  exact hf u (hx a d u a1 d1 h1) a1 d1 v a' d' h
 | bad e p a1 d1=>rw [h1] at h; cases h
theorem PR.any {x:PM α}{f:α→PM β}{S:β→Prop}(hf:∀v,PR (f v) S):PR (x >>= f) S:=PR.bind (Q:=fun _=>True) (fun _ _ _ _ _ _=>trivial) fun v _=>hf v
theorem PR.pure {v:α}{Q:α→Prop}(h:Q v):PR (Pure.pure v:PM α) Q:=by
 intro a d u a' d' e
 simp only [yI,Out.ok.injEq] at e
 obtain⟨rfl,_,_⟩:=e
 exact h
theorem PR.fail {e:Nat}{Q:α→Prop}:PR (xY L e:PM α) Q:=by intro a d u a' d' h; cases h
theorem PR.ite {p:Prop} [Decidable p] {x y:PM α}{Q:α→Prop}(hx:PR x Q) (hy:PR y Q):PR (if p then x else y) Q:=by
 split
 ·exact hx
 ·exact hy
theorem Vh:∀{l m:List GS},GH (l++m)=max (GH l) (GH m)
 | [],m=>by simp [GH]
 | x::r,m=>by simp only [af5,GH,Vh (l:=r)]; omega
theorem SZ:∀{l m:List XS},XS.pY (l++m)=XS.pY l++XS.pY m
 | [],m=>rfl
 | x::r,m=>by simp only [af5,XS.pY,SZ (l:=r)]
def DB (n:Nat) (l:List XS):Prop:=GH (XS.pY l)≤n
def DS (n:Nat) (x:XS):Prop:=dS x.pC≤n+1
theorem Pd {n k p m:Nat}{name:List UInt8}{ty:Ty}{args:List XE}{b e:List XS}{has:Bool}(h1:DB n b) (h2:DB n e):DS n (.mk k p m name ty args b e has):=by
 unfold DS DB at *
 simp only [XS.pC,dS]
 omega
theorem BX {n:Nat}:DB n []:=by simp [DB,XS.pY,GH]
theorem aqU {block:PM (List XS)}{n:Nat}(hb:PR block (DB n)) (k:Nat):PR (qM L block k) (DS n):=by
 have nn:PR (pG L k 0) (DS n)∧∀p,PR (pG L k p) (DS n):=by
  have:∀p,PR (pG L k p) (DS n):=fun p=>PR.any fun _=>PR.any fun _=>PR.ite (PR.any fun _=>PR.any fun _=>PR.pure (Pd BX BX)) (PR.any fun _=>PR.ite (PR.any fun _=>PR.any fun _=>PR.any fun _=>PR.pure (Pd BX BX)) (PR.any fun _=>PR.any fun _=>PR.pure (Pd BX BX)))
  exact⟨this 0,this⟩
 exact PR.any fun t=>PR.any fun _=>PR.ite
  (PR.any fun _=>PR.any fun _=>PR.any fun _=>PR.pure (Pd BX BX))
  (PR.any fun _=>PR.ite
   (PR.any fun _=>PR.any fun _=>PR.any fun _=>PR.any fun _=>PR.any fun _=>PR.pure (Pd BX BX))
   (PR.any fun _=>PR.ite
    (PR.any fun _=>hb.bind fun b h1=>PR.any fun _=>PR.ite (hb.bind fun e h2=>PR.pure (Pd h1 h2)) (PR.pure (Pd h1 BX)))
    (PR.any fun _=>PR.ite
     (PR.any fun _=>PR.any fun _=>PR.any fun _=>PR.any fun _=>PR.any fun _=>hb.bind fun b h1=>PR.pure (Pd h1 BX))
     (PR.any fun _=>PR.ite (PR.any fun _=>PR.pure (Pd BX BX)) (nn.2 _)))))
theorem Vl {stmt:PM XS}{n:Nat}(hs:PR stmt (DS n)):∀(m:Nat) (l:List XS),DB (n+1) l→PR (vE L stmt m l) (DB (n+1))
 | 0,_,_=>PR.fail
 | m+1,l,hl=>PR.any fun _=>PR.ite (PR.pure hl) (hs.bind fun x hx=>Vl hs m _ (by
   unfold DB DS at *
   rw [SZ,Vh]
   simp only [XS.pY,GH]
   omega))
theorem Pc:∀n,PR (rD L n) (DB n)
 | 0=>PR.fail
 | n+1=>PR.any fun _=>(Vl (aqU (Pc n) n) 131073 [] BX).bind fun l hl=>PR.any fun _=>PR.pure hl
theorem aqT:PR (wH L) (fun f=>DB 65 f.body) :=
 PR.any fun _=>PR.any fun _=>PR.any fun _=>PR.any fun _=>PR.any fun _=>PR.any fun _=>PR.ite
  (PR.any fun _=>PR.any fun _=>(Pc 65).bind fun b hb=>PR.pure hb)
  ((Pc 65).bind fun b hb=>PR.pure hb)
theorem Vj:∀(m:Nat) (l:List XF),(∀f∈l,DB 65 f.body)→PR (pO L m l) (fun l'=>∀f∈l',DB 65 f.body)
 | 0,_,_=>PR.fail
 | m+1,l,hl=>PR.any fun _=>PR.ite (PR.pure hl) (aqT.bind fun f hf=>Vj m _ (by
   intro g hg
   rcases List.mem_append.1 hg with h | h
   ·exact hl g h
   ·simp at h; subst h; exact hf))
end
theorem adD {L:List Token}(h:∀x∈L,x.text.length≤65536):∀a,IA L a≤a * 65736
 | 0=>by simp [IA]
 | a+1=>by
  have:=adD h a
  have h1:(tk L a).text.length≤65536:=by
   unfold tk
   cases hl:L[a]? with
   | none=>simp
   | some x=>exact h x (List.mem_of_getElem? hl)
  simp only [IA]
  omega
theorem Sn (s:List UInt8):MT ((nM s).1.map XF.pC)≤4308140232∧∀f∈(nM s).1,DB 65 f.body:=by
 by_cases he:(nM s).2.1=0
 ·have hr:nM s=((nM s).1,0,(nM s).2.2):=by rw [←he]
  obtain⟨l,h1,h2,a,d,h3⟩:=Hi hr
  have hlex:(oT s).2.1=0:=by rw [h1]
  have hlen:=De s
  rw [h1] at hlen
  have hin:=PC (L:=l++[⟨0,s.length,0,[]⟩]) B_ 131073 [] 0 (by simp) 0
  rw [h3] at hin
  simp only [Out.idx] at hin
  have hpay:=U3 (L:=l++[⟨0,s.length,0,[]⟩]) 131073 [] 0 0 0 _ a d h3
  have hx:∀x∈l++[(⟨0,s.length,0,[]⟩:Token)],x.text.length≤65536:=by
   intro x hx
   rcases List.mem_append.1 hx with h | h
   ·obtain⟨l',e1,e2,_⟩:=E_ hlex
    rw [h1] at e1
    simp only [Prod.mk.injEq,and_true] at e1
    have:l=l':=by
     have:=congrArg List.dropLast e1
     simpa using this
    subst this
    exact(e2 x h).2.1.2.2.1
   ·simp at h; subst h; simp
  have hle:=adD hx a
  rw [aeT]
  simp only [lw,IA,Nat.zero_add,Nat.add_zero] at hpay
  refine⟨by simp only at hlen; omega,?_⟩
  exact Vj 131073 [] (by simp) 0 0 _ a d h3
 ·rw [Yh s he]
  simp [MT]
end
section
open Go Hk
section loop
variable {R:List (List kP)}{c:wM}{f:GF}
end loop
section mid
variable {R:List (List kP)}{c:wM}{f:GF}
end mid
end
section
open Go Hk
mutual
theorem XE.H9:∀x:XE,x.cells=x.pC.cells
 | .mk k p n name args=>by simp only [XE.cells,XE.pC,GE.cells,XE.Ju args]
theorem XE.Ju:∀l:List XE,XE.rows l=GE.rows (XE.pY l)
 | []=>rfl
 | x::r=>by simp only [XE.rows,XE.pY,GE.rows,XE.H9 x,XE.Ju r]
end
theorem XE.P9 (l:List XE):l.map XE.cells=(XE.pY l).map GE.cells:=by rw [←XE.pM,←GE.pM,XE.Ju]
mutual
theorem XS.H9:∀x:XS,x.cells=x.pC.cells
 | .mk k p m name ty args body els has=>by simp only [XS.cells,XS.pC,GS.cells,XS.Ju body,XS.Ju els,XE.P9 args,Ty.pC]
theorem XS.Ju:∀l:List XS,XS.rows l=GS.rows (XS.pY l)
 | []=>rfl
 | x::r=>by simp only [XS.rows,XS.pY,GS.rows,XS.H9 x,XS.Ju r]
end
theorem XS.P9 (l:List XS):l.map XS.cells=(XS.pY l).map GS.cells:=by rw [←XS.pM,←GS.pM,XS.Ju]
theorem XF.H9 (f:XF):f.cells=f.pC.cells:=by
 simp only [XF.cells,XF.pC,GF.cells,XS.P9,List.map_map,Ty.pC]
 rfl
theorem XF.P9 (l:List XF):l.map XF.cells=(l.map XF.pC).map GF.cells:=by
 rw [List.map_map]; exact List.map_congr_left fun f _=>XF.H9 f
mutual
theorem alP:∀x:GE,x.size≤wE x
 | .mk _ _ _ name args=>by have:=Ms args; simp only [GE.size,wE]; omega
theorem Ms:∀l:List GE,GE.pD l≤Fm l
 | []=>by simp [GE.pD,Fm]
 | x::r=>by have:=alP x; have:=Ms r; simp only [GE.pD,Fm]; omega
end
mutual
theorem alR:∀x:GS,x.size≤wS x
 | .mk _ _ _ name _ args body els _=>by have:=Ms args; have:=EP body; have:=EP els; simp only [GS.size,wS]; omega
theorem EP:∀l:List GS,GS.pD l≤Gq l
 | []=>by simp [GS.pD,Gq]
 | x::r=>by have:=alR x; have:=EP r; simp only [GS.pD,Gq]; omega
end
theorem Ke:∀l:List GP,l.length * 64≤Wj l
 | []=>by simp
 | x::r=>by
  have:=Ke r
  have:60≤wP x:=by simp only [wP]; omega
  simp only [Wj,am1]; omega
theorem Kb:∀l:List GF,l.length * 120≤MT l
 | []=>by simp
 | x::r=>by
  have:=Kb r
  have:120≤wF x:=by simp only [wF]; omega
  simp only [MT,am1]; omega
theorem Kc {f:GF}:∀{l:List GF},f∈l→wF f≤MT l
 | y::r,h=>by
  simp only [MT]
  cases h with
  | head=>omega
  | tail _ h=>have:=Kc h; omega
def wM.short (c:wM):wM:={ c with name:=[] }
theorem Qi {T:Nat}:∀{l:List GF},l.all qE=true→(∀f∈l,1+GH f.body≤T)→((l.map qI).flatten).length≤MT l * (T+1)∧pV (l.map wD)≤MT l
 | [],_,_=>by simp [pV]
 | f::r,h,hd=>by
  simp only [List.all_cons,Bool.and_eq_true] at h
  have h1:=al0 h.1 (hd f (by simp))
  have h2:=Qi h.2 (fun g hg=>hd g (by simp [hg]))
  simp only [List.map_cons,List.flatten_cons,List.length_append,MT,pV,Nat.add_mul]
  omega
theorem Qh {l:List GF}(hw:MT l≤4400000000) (hd:∀f∈l,GH f.body≤67):(∀f∈l,f.size≤4611686018427387904)∧l.length≤4611686018427387904∧(l.all qE=true→(uO l l.length).length≤1099511627776)∧(l.all qE=true→uD l l.length≤1000000000000000):=by
 have h0:=Kb l
 refine⟨fun f hf=>?_,by omega,fun h=>?_,fun h=>?_⟩
 ·have h1:=Kc hf
  have h2:=Ke f.params
  have h3:=EP f.body
  unfold wF at h1
  unfold GF.size
  omega
 ·have:=(Qi (T:=68) h (fun f hf=>by have:=hd f hf; omega)).1
  simp only [uO,List.take_length]
  omega
 ·have:=(Qi (T:=68) h (fun f hf=>by have:=hd f hf; omega)).2
  simp only [uD,List.take_length]
  omega
theorem AG (s:List UInt8):MT ((nM s).1.map XF.pC)≤4308140232∧∀f∈(nM s).1.map XF.pC,GH f.body≤65:=by
 have h:=Sn s
 refine⟨h.1,fun f hf=>?_⟩
 obtain⟨x,hx,rfl⟩:=List.mem_map.1 hf
 exact h.2 x hx
def nN (s:List UInt8):List GF:=(nM s).1.map XF.pC
theorem ahH (s:List UInt8) (h:kT):KK 14 [.agg (o8 (nN s))] h=some (.ret (.tuple [.str (xQ (nN s)).1,.int .i64 (xQ (nN s)).2]),h):=by
 obtain⟨h1,h2,h3,h4⟩:=Qh (l:=nN s) (by have:=(AG s).1; unfold nN; omega) (fun f hf=>by have:=(AG s).2 f hf; omega)
 exact c14 _ h1 h2 h3 h4 h
end
section
open Go Hk
theorem ZP (s:List UInt8) (h:kT):KK 25 [.str s] h=some (.ret (.tuple [.agg (o8 (nN s)),.agg [.int .i64 ((nM s).2.1:Int),.int .i64 ((nM s).2.2:Int)]]),h):=by
 rw [c25,XF.P9]; rfl
theorem LX {s:List UInt8}(h:(nM s).2.1≠0):nN s=[]:=by
 unfold nN
 revert h
 unfold nM
 split
 ·split
  ·intro h; exact absurd rfl h
  ·intro _; rfl
 ·intro _; rfl
end
section
open Go Hk
mutual
theorem alM {far:Int}:∀(x y z:XE),wN far x z→y.pC.zR=z.pC.zR→wN (-1) x y
 | .mk k q n nm us,y,z,h,he=>by
  simp only [wN] at h ⊢
  obtain⟨p,vs,rfl,_,hl,hs⟩:=h
  obtain⟨k',p',n',nm',ws⟩:=y
  simp only [XE.pC,GE.zR,GE.mk.injEq] at he
  obtain⟨h1,-,h3,h4,h5⟩:=he
  have h1:k'=k:=by omega
  have h3:n'=n:=by omega
  subst h1; subst h3; subst h4
  exact⟨p',ws,rfl,.inl (by decide),hl,Mq us ws vs hs h5⟩
theorem Mq {far:Int}:∀(xs ys zs:List XE),uT far xs zs→GE.y8 (XE.pY ys)=GE.y8 (XE.pY zs)→uT (-1) xs ys
 | [],ys,zs,h,he=>by
  simp only [uT] at h ⊢
  subst h
  cases ys with
  | nil=>rfl
  | cons y r=>simp [XE.pY,GE.y8] at he
 | x::r,ys,zs,h,he=>by
  simp only [uT] at h ⊢
  obtain⟨z,s,rfl,h1,h2⟩:=h
  cases ys with
  | nil=>simp [XE.pY,GE.y8] at he
  | cons y t =>
   simp only [XE.pY,GE.y8,List.cons.injEq] at he
   exact⟨y,t,rfl,alM x y z h1 he.1,Mq r t s h2 he.2⟩
end
theorem UH {a b:Ty}(h:a.pC=b.pC):a=b:=by
 obtain⟨e,l,b1⟩:=a
 obtain⟨e2,l2,b2⟩:=b
 simp only [Ty.pC,GT.mk.injEq] at h
 obtain⟨h1,h2,h3⟩:=h
 have h1:e=e2:=by omega
 have h2:l=l2:=by omega
 have h3:b1=b2:=by omega
 subst h1; subst h2; subst h3; rfl
mutual
theorem alO {far:Int}:∀(x y z:XS),BO far x z→y.pC.zR=z.pC.zR→BO (-1) x y
 | .mk k q m nm ty us b e has,y,z,h,he=>by
  simp only [BO] at h ⊢
  obtain⟨p,vs,b',e',rfl,_,l1,l2,l3,h1,h2,h3⟩:=h
  obtain⟨k',p',m',nm',ty',ws,b2,e2,has'⟩:=y
  simp only [XS.pC,GS.zR,GS.mk.injEq] at he
  obtain⟨g1,-,g3,g4,g5,g6,g7,g8,g9⟩:=he
  have g1:k'=k:=by omega
  have g3:m'=m:=by omega
  have g5:=UH g5
  subst g1; subst g3; subst g4; subst g5; subst g9
  exact⟨p',ws,b2,e2,rfl,.inl (by decide),l1,l2,l3,Mq us ws vs h1 g6,Hz b b2 b' h2 g7,Hz e e2 e' h3 g8⟩
theorem Hz {far:Int}:∀(xs ys zs:List XS),vL far xs zs→GS.y8 (XS.pY ys)=GS.y8 (XS.pY zs)→vL (-1) xs ys
 | [],ys,zs,h,he=>by
  simp only [vL] at h ⊢
  subst h
  cases ys with
  | nil=>rfl
  | cons y r=>simp [XS.pY,GS.y8] at he
 | x::r,ys,zs,h,he=>by
  simp only [vL] at h ⊢
  obtain⟨z,s,rfl,h1,h2⟩:=h
  cases ys with
  | nil=>simp [XS.pY,GS.y8] at he
  | cons y t =>
   simp only [XS.pY,GS.y8,List.cons.injEq] at he
   exact⟨y,t,rfl,alO x y z h1 he.1,Hz r t s h2 he.2⟩
end
theorem SL {far:Int}:∀(xs ys zs:List XP),BN far xs zs→(ys.map XP.pC).map GP.zR=(zs.map XP.pC).map GP.zR→BN (-1) xs ys
 | [],ys,zs,h,he=>by
  simp only [BN] at h ⊢
  subst h
  cases ys with
  | nil=>rfl
  | cons y r=>simp at he
 | x::r,ys,zs,h,he=>by
  simp only [BN] at h ⊢
  obtain⟨z,s,rfl,⟨_,h1,h2,h3⟩,h4⟩:=h
  cases ys with
  | nil=>simp at he
  | cons y t =>
   simp only [List.map_cons,List.cons.injEq] at he
   have he1:=he.1
   simp only [GP.zR,XP.pC,GP.mk.injEq] at he1
   exact⟨y,t,rfl,⟨.inl (by decide),by rw [h1]; exact he1.2.1.symm,by rw [h2]; exact(UH he1.2.2.1).symm,by rw [h3]; exact he1.2.2.2.symm⟩,SL r t s h4 he.2⟩
theorem alN {far:Int}{x y z:XF}(h:Fq far x z) (he:y.pC.zR=z.pC.zR):Fq (-1) x y:=by
 simp only [GF.zR,XF.pC,GF.mk.injEq] at he
 obtain⟨-,h2,h3,h4,h5,h6⟩:=he
 exact⟨.inl (by decide),by rw [h.name]; exact h2.symm,by rw [h.has]; exact h4.symm,by rw [h.result]; exact(UH h5).symm,h.plen,SL _ _ _ h.params h3,h.blen,Hz _ _ _ h.body h6⟩
mutual
theorem Ov:∀x:GE,lU x.zR=lU x
 | .mk k p n name args=>by simp only [GE.zR,lU,LZ args]
theorem LZ:∀l:List GE,rP (GE.y8 l)=rP l
 | []=>rfl
 | x::r=>by simp only [GE.y8,rP,Ov x,LZ r]
end
theorem UB (l:List GE):(GE.y8 l).map mB=l.map mB:=by
 rw [GE.BE,List.map_map]
 exact List.map_congr_left fun x _=>by show(lU x.zR).2.1=(lU x).2.1; rw [Ov]
mutual
theorem YD:∀(x:GS) (n:Nat),p_ n x.zR=p_ n x
 | .mk k p m name ty args body els has,n=>by simp only [GS.zR,p_,UB,D0 body,D0 els]
theorem D0:∀(l:List GS) (n:Nat),n9 n (GS.y8 l)=n9 n l
 | [],_=>rfl
 | x::r,n=>by simp only [GS.y8,n9,YD x,D0 r]
end
theorem YC (f:GF):qI f.zR=qI f:=by
 unfold qI GF.zR
 simp only [List.map_map,D0]
 have:(pP∘GP.zR)=pP:=by funext p; rfl
 rw [this]
theorem YE {l m:List GF}(h:l.map GF.zR=m.map GF.zR):(l.map qI).flatten=(m.map qI).flatten:=by
 have e:∀l:List GF,l.map qI=(l.map GF.zR).map qI:=fun l=>by
  rw [List.map_map]; exact List.map_congr_left fun f _=>(YC f).symm
 rw [e l,e m,h]
theorem c7 (s:List UInt8) (e11:∀h,KK 11 [] h=some (.ret (.bool true),h)) (h:kT):KK 7 [.str s] h=some (.ret (.bool true),h):=by
 refine lK rfl rfl (lJ (aAn _ _ _) ?_)
 by_cases he:(nM s).2.1=0
 ·have hw:=EH s
  have e14:=ahH s
  have hp:xQ (nN s)=(((nN s).map qI).flatten,0):=DT s
  rw [hp] at e14
  have key:(((nN s).map qI).flatten).length≤65536→∃l',nM (((nN s).map qI).flatten)=(l',0,0)∧l'.map (fun g=>g.pC.zR)=(nN s).map GF.zR:=fun hl=>round hw.1 hw.2 hl
  generalize hT:((nN s).map qI).flatten=T at *
  refine c7t s T ((nN s).map GF.cells) ((nN T).map GF.cells) _ _ e11 (ZP s) e14 he (fun hl=>?_) (fun hl=>?_) (fun hl=>?_)
  ·obtain⟨l',h1,_⟩:=key hl
   have:=ZP T
   rw [h1] at this
   exact this
  ·obtain⟨l',h1,h2⟩:=key hl
   have h14:=ahH T
   rw [show xQ (nN T)=(((nN T).map qI).flatten,0) from DT T] at h14
   have e:((nN T).map qI).flatten=T:=by
    rw [←hT]
    refine YE ?_
    rw [hT,←h2]
    unfold nN
    rw [h1,List.map_map]; rfl
   rw [e] at h14
   exact h14
  ·obtain⟨l',h1,h2⟩:=key hl
   obtain⟨F,e0,p0⟩:∃F p,nM s=(F,0,p):=⟨(nM s).1,(nM s).2.2,by rw [←he]⟩
   obtain⟨s1,s2⟩:=Yt p0
   have eF:nN s=F.map XF.pC:=by unfold nN; rw [p0]
   have eG:nN T=l'.map XF.pC:=by unfold nN; rw [h1]
   have hlen:l'.length=F.length:=by
    have:=congrArg List.length h2
    rw [eF] at this
    simpa using this
   rw [eF,eG,←XF.P9,←XF.P9]
   refine aDK F l' s2 hlen fun i hi hi'=>?_
   have hsame:Fq 0 F[i] F[i]:=by
    have:∀(xs ys:List XF),Bd (Fq ((0:Nat):Int)) xs ys→∀(i:Nat) (h:i < xs.length) (h':i < ys.length),Fq 0 xs[i] ys[i]:=fun xs=>by
     induction xs with
     | nil=>intro ys _ i h; exact absurd h (by simp)
     | cons x r ih =>
      intro ys hr i h h'
      obtain⟨y,t,rfl,h1,h2⟩:=hr
      cases i with
      | zero=>exact h1
      | succ i=>exact ih t h2 i (by simpa using h) (by simpa using h')
    exact this F F s1 i hi hi
   refine alN hsame ?_
   have:=congrArg (fun l=>l[i]?) h2
   rw [eF] at this
   simp only [List.getElem?_map,ac1 hi,ac1 hi',Option.map_some,Option.some.injEq] at this
   exact this
 ·have e25:=ZP s
  rw [LX he] at e25
  exact c7u s _ _ he e11 e25
end
section
open Go Hk
def exQ:List UInt8:=[102,110,32,102,40,41,32,123,10,32,120,32,61,32,49,32,43,32,50,32,42,32,121,59,10,125,10]
theorem azA:xQ (nN YR)=(exQ,0):=by kernel_rfl
theorem ayP (h:kT):KK 11 [] h=some (.ret (.bool true),h):=by
 refine lK rfl rfl (lJ (ar5 _ _) ?_)
 have e12:∀h,KK 12 [.str YR] h=some (.ret (.tuple [.agg [.slice ((nN YR).map GF.cells) .no],.agg [.int .i64 0,.int .i64 0]]),h):=fun h=>by
  rw [k12 h,←Yi.1,XF.P9]; rfl
 have e14:=ahH YR
 rw [azA] at e14
 simp only [o8,YR,exQ] at e12 e14
 simp -implicitDefEqProofs [m11,lZ,lL,e12,e14,putCells,kS]
end
section
open Go Hk
theorem aEc (s:List UInt8) (_:s.length≤maxLen):KX Tryz.prog mV 7 [.str s] []=some (.ret (.bool true),[]):=an7 rfl (c7 s ayP [])
end
end Go.Proofs.YtlddmnojanpdoaaGreatDoor
