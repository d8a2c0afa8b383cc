/-
  The texts WG.BC, WG.CB, WG.CC, WG.LD, WG.L11v, WG.W8, one behind another. No conditions.
-/
import Derived.Test.YtlddmnojanpdoaaGreatDoorPWgn1
import Derived.Test.YtlddmnojanpdoaaGreatDoorPSg1
import Derived.Test.YtlddmnojanpdoaaGreatDoorPWg2
import Derived.Test.YtlddmnojanpdoaaGreatDoorPVt1
import Derived.Test.YtlddmnojanpdoaaGreatDoorPRg1
import Derived.Test.YtlddmnojanpdoaaGreatDoorPWg1
import Derived.Test.YtlddmnojanpdoaaGreatDoorPWgo1
import Derived.Test.YtlddmnojanpdoaaGreatDoorPWgu1
set_option linter.unusedVariables false
set_option linter.unusedSimpArgs false
set_option linter.all false
open List renaming cons_append → af5, length_cons → ad1
namespace Go.Proofs.YtlddmnojanpdoaaGreatDoor
section
open Go Hk
section
variable {L:List Token}{α β:Type}
def PR (x:PM α) (Q:α→Prop):Prop:=∀a d v a' d',x a d=.ok v a' d'→Q v
theorem PR.bind {x:PM α}{f:α→PM β}{Q:α→Prop}{S:β→Prop}(hx:PR x Q) (hf:∀v,Q v→PR (f v) S):PR (x >>= f) S:=by
 intro a d v a' d' h
 simp only [mO,PM.bind] at h
 cases h1:x a d with
 | ok u a1 d1 =>
  rw [h1] at h
  exact hf u (hx a d u a1 d1 h1) a1 d1 v a' d' h
 | bad e p a1 d1=>rw [h1] at h; cases h
theorem PR.any {x:PM α}{f:α→PM β}{S:β→Prop}(hf:∀v,PR (f v) S):PR (x >>= f) S:=PR.bind (Q:=fun _=>True) (fun _ _ _ _ _ _=>trivial) fun v _=>hf v
theorem PR.pure {v:α}{Q:α→Prop}(h:Q v):PR (Pure.pure v:PM α) Q:=by
 intro a d u a' d' e
 simp only [yI,Out.ok.injEq] at e
 obtain⟨rfl,_,_⟩:=e
 exact h
theorem PR.fail {e:Nat}{Q:α→Prop}:PR (xY L e:PM α) Q:=by intro a d u a' d' h; cases h
theorem PR.ite {p:Prop} [Decidable p] {x y:PM α}{Q:α→Prop}(hx:PR x Q) (hy:PR y Q):PR (if p then x else y) Q:=by
 split
 ·exact hx
 ·exact hy
theorem Vh:∀{l m:List GS},GH (l++m)=max (GH l) (GH m)
 | [],m=>by simp [GH]
 | x::r,m=>by simp only [af5,GH,Vh (l:=r)]; omega
theorem SZ:∀{l m:List XS},XS.pY (l++m)=XS.pY l++XS.pY m
 | [],m=>rfl
 | x::r,m=>by simp only [af5,XS.pY,SZ (l:=r)]
def DB (n:Nat) (l:List XS):Prop:=GH (XS.pY l)≤n
def DS (n:Nat) (x:XS):Prop:=dS x.pC≤n+1
theorem Pd {n k p m:Nat}{name:List UInt8}{ty:Ty}{args:List XE}{b e:List XS}{has:Bool}(h1:DB n b) (h2:DB n e):DS n (.mk k p m name ty args b e has):=by
 unfold DS DB at *
 simp only [XS.pC,dS]
 omega
theorem BX {n:Nat}:DB n []:=by simp [DB,XS.pY,GH]
theorem aqU {block:PM (List XS)}{n:Nat}(hb:PR block (DB n)) (k:Nat):PR (qM L block k) (DS n):=by
 have nn:PR (pG L k 0) (DS n)∧∀p,PR (pG L k p) (DS n):=by
  have:∀p,PR (pG L k p) (DS n):=fun p=>PR.any fun _=>PR.any fun _=>PR.ite (PR.any fun _=>PR.any fun _=>PR.pure (Pd BX BX)) (PR.any fun _=>PR.ite (PR.any fun _=>PR.any fun _=>PR.any fun _=>PR.pure (Pd BX BX)) (PR.any fun _=>PR.any fun _=>PR.pure (Pd BX BX)))
  exact⟨this 0,this⟩
 exact PR.any fun t=>PR.any fun _=>PR.ite
  (PR.any fun _=>PR.any fun _=>PR.any fun _=>PR.pure (Pd BX BX))
  (PR.any fun _=>PR.ite
   (PR.any fun _=>PR.any fun _=>PR.any fun _=>PR.any fun _=>PR.any fun _=>PR.pure (Pd BX BX))
   (PR.any fun _=>PR.ite
    (PR.any fun _=>hb.bind fun b h1=>PR.any fun _=>PR.ite (hb.bind fun e h2=>PR.pure (Pd h1 h2)) (PR.pure (Pd h1 BX)))
    (PR.any fun _=>PR.ite
     (PR.any fun _=>PR.any fun _=>PR.any fun _=>PR.any fun _=>PR.any fun _=>hb.bind fun b h1=>PR.pure (Pd h1 BX))
     (PR.any fun _=>PR.ite (PR.any fun _=>PR.pure (Pd BX BX)) (nn.2 _)))))
theorem Vl {stmt:PM XS}{n:Nat}(hs:PR stmt (DS n)):∀(m:Nat) (l:List XS),DB (n+1) l→PR (vE L stmt m l) (DB (n+1))
 | 0,_,_=>PR.fail
 | m+1,l,hl=>PR.any fun _=>PR.ite (PR.pure hl) (hs.bind fun x hx=>Vl hs m _ (by
   unfold DB DS at *
   rw [SZ,Vh]
   simp only [XS.pY,GH]
   omega))
theorem Pc:∀n,PR (rD L n) (DB n)
 | 0=>PR.fail
 | n+1=>PR.any fun _=>(Vl (aqU (Pc n) n) 131073 [] BX).bind fun l hl=>PR.any fun _=>PR.pure hl
theorem aqT:PR (wH L) (fun f=>DB 65 f.body) :=
 PR.any fun _=>PR.any fun _=>PR.any fun _=>PR.any fun _=>PR.any fun _=>PR.any fun _=>PR.ite
  (PR.any fun _=>PR.any fun _=>(Pc 65).bind fun b hb=>PR.pure hb)
  ((Pc 65).bind fun b hb=>PR.pure hb)
theorem Vj:∀(m:Nat) (l:List XF),(∀f∈l,DB 65 f.body)→PR (pO L m l) (fun l'=>∀f∈l',DB 65 f.body)
 | 0,_,_=>PR.fail
 | m+1,l,hl=>PR.any fun _=>PR.ite (PR.pure hl) (aqT.bind fun f hf=>Vj m _ (by
   intro g hg
   rcases List.mem_append.1 hg with h | h
   ·exact hl g h
   ·simp at h; subst h; exact hf))
end
theorem adD {L:List Token}(h:∀x∈L,x.text.length≤65536):∀a,IA L a≤a * 65736
 | 0=>by simp [IA]
 | a+1=>by
  have:=adD h a
  have h1:(tk L a).text.length≤65536:=by
   unfold tk
   cases hl:L[a]? with
   | none=>simp
   | some x=>exact h x (List.mem_of_getElem? hl)
  simp only [IA]
  omega
theorem Sn (s:List UInt8):MT ((nM s).1.map XF.pC)≤4308140232∧∀f∈(nM s).1,DB 65 f.body:=by
 by_cases he:(nM s).2.1=0
 ·have hr:nM s=((nM s).1,0,(nM s).2.2):=by rw [←he]
  obtain⟨l,h1,h2,a,d,h3⟩:=Hi hr
  have hlex:(oT s).2.1=0:=by rw [h1]
  have hlen:=De s
  rw [h1] at hlen
  have hin:=PC (L:=l++[⟨0,s.length,0,[]⟩]) B_ 131073 [] 0 (by simp) 0
  rw [h3] at hin
  simp only [Out.idx] at hin
  have hpay:=U3 (L:=l++[⟨0,s.length,0,[]⟩]) 131073 [] 0 0 0 _ a d h3
  have hx:∀x∈l++[(⟨0,s.length,0,[]⟩:Token)],x.text.length≤65536:=by
   intro x hx
   rcases List.mem_append.1 hx with h | h
   ·obtain⟨l',e1,e2,_⟩:=E_ hlex
    rw [h1] at e1
    simp only [Prod.mk.injEq,and_true] at e1
    have:l=l':=by
     have:=congrArg List.dropLast e1
     simpa using this
    subst this
    exact(e2 x h).2.1.2.2.1
   ·simp at h; subst h; simp
  have hle:=adD hx a
  rw [aeT]
  simp only [lw,IA,Nat.zero_add,Nat.add_zero] at hpay
  refine⟨by simp only at hlen; omega,?_⟩
  exact Vj 131073 [] (by simp) 0 0 _ a d h3
 ·rw [Yh s he]
  simp [MT]
end
section
open Go Hk
section loop
variable {R:List (List kP)}{c:wM}{f:GF}
end loop
section mid
variable {R:List (List kP)}{c:wM}{f:GF}
end mid
end
section
open Go Hk
mutual
theorem XE.H9:∀x:XE,x.cells=x.pC.cells
 | .mk k p n name args=>by simp only [XE.cells,XE.pC,GE.cells,XE.Ju args]
theorem XE.Ju:∀l:List XE,XE.rows l=GE.rows (XE.pY l)
 | []=>rfl
 | x::r=>by simp only [XE.rows,XE.pY,GE.rows,XE.H9 x,XE.Ju r]
end
theorem XE.P9 (l:List XE):l.map XE.cells=(XE.pY l).map GE.cells:=by rw [←XE.pM,←GE.pM,XE.Ju]
mutual
theorem XS.H9:∀x:XS,x.cells=x.pC.cells
 | .mk k p m name ty args body els has=>by simp only [XS.cells,XS.pC,GS.cells,XS.Ju body,XS.Ju els,XE.P9 args,Ty.pC]
theorem XS.Ju:∀l:List XS,XS.rows l=GS.rows (XS.pY l)
 | []=>rfl
 | x::r=>by simp only [XS.rows,XS.pY,GS.rows,XS.H9 x,XS.Ju r]
end
theorem XS.P9 (l:List XS):l.map XS.cells=(XS.pY l).map GS.cells:=by rw [←XS.pM,←GS.pM,XS.Ju]
theorem XF.H9 (f:XF):f.cells=f.pC.cells:=by
 simp only [XF.cells,XF.pC,GF.cells,XS.P9,List.map_map,Ty.pC]
 rfl
theorem XF.P9 (l:List XF):l.map XF.cells=(l.map XF.pC).map GF.cells:=by
 rw [List.map_map]; exact List.map_congr_left fun f _=>XF.H9 f
mutual
theorem alP:∀x:GE,x.size≤wE x
 | .mk _ _ _ name args=>by have:=Ms args; simp only [GE.size,wE]; omega
theorem Ms:∀l:List GE,GE.pD l≤Fm l
 | []=>by simp [GE.pD,Fm]
 | x::r=>by have:=alP x; have:=Ms r; simp only [GE.pD,Fm]; omega
end
mutual
theorem alR:∀x:GS,x.size≤wS x
 | .mk _ _ _ name _ args body els _=>by have:=Ms args; have:=EP body; have:=EP els; simp only [GS.size,wS]; omega
theorem EP:∀l:List GS,GS.pD l≤Gq l
 | []=>by simp [GS.pD,Gq]
 | x::r=>by have:=alR x; have:=EP r; simp only [GS.pD,Gq]; omega
end
theorem Ke:∀l:List GP,l.length * 64≤Wj l
 | []=>by simp
 | x::r=>by
  have:=Ke r
  have:60≤wP x:=by simp only [wP]; omega
  simp only [Wj,ad1]; omega
theorem Kb:∀l:List GF,l.length * 120≤MT l
 | []=>by simp
 | x::r=>by
  have:=Kb r
  have:120≤wF x:=by simp only [wF]; omega
  simp only [MT,ad1]; omega
theorem Kc {f:GF}:∀{l:List GF},f∈l→wF f≤MT l
 | y::r,h=>by
  simp only [MT]
  cases h with
  | head=>omega
  | tail _ h=>have:=Kc h; omega
def wM.short (c:wM):wM:={ c with name:=[] }
theorem Qi {T:Nat}:∀{l:List GF},l.all qE=true→(∀f∈l,1+GH f.body≤T)→((l.map qI).flatten).length≤MT l * (T+1)∧pV (l.map wD)≤MT l
 | [],_,_=>by simp [pV]
 | f::r,h,hd=>by
  simp only [List.all_cons,Bool.and_eq_true] at h
  have h1:=al0 h.1 (hd f (by simp))
  have h2:=Qi h.2 (fun g hg=>hd g (by simp [hg]))
  simp only [List.map_cons,List.flatten_cons,List.length_append,MT,pV,Nat.add_mul]
  omega
theorem Qh {l:List GF}(hw:MT l≤4400000000) (hd:∀f∈l,GH f.body≤67):(∀f∈l,f.size≤4611686018427387904)∧l.length≤4611686018427387904∧(l.all qE=true→(uO l l.length).length≤1099511627776)∧(l.all qE=true→uD l l.length≤1000000000000000):=by
 have h0:=Kb l
 refine⟨fun f hf=>?_,by omega,fun h=>?_,fun h=>?_⟩
 ·have h1:=Kc hf
  have h2:=Ke f.params
  have h3:=EP f.body
  unfold wF at h1
  unfold GF.size
  omega
 ·have:=(Qi (T:=68) h (fun f hf=>by have:=hd f hf; omega)).1
  simp only [uO,List.take_length]
  omega
 ·have:=(Qi (T:=68) h (fun f hf=>by have:=hd f hf; omega)).2
  simp only [uD,List.take_length]
  omega
theorem AG (s:List UInt8):MT ((nM s).1.map XF.pC)≤4308140232∧∀f∈(nM s).1.map XF.pC,GH f.body≤65:=by
 have h:=Sn s
 refine⟨h.1,fun f hf=>?_⟩
 obtain⟨x,hx,rfl⟩:=List.mem_map.1 hf
 exact h.2 x hx
def nN (s:List UInt8):List GF:=(nM s).1.map XF.pC
theorem ahH (s:List UInt8) (h:kT):KK 14 [.agg (o8 (nN s))] h=some (.ret (.tuple [.str (xQ (nN s)).1,.int .i64 (xQ (nN s)).2]),h):=by
 obtain⟨h1,h2,h3,h4⟩:=Qh (l:=nN s) (by have:=(AG s).1; unfold nN; omega) (fun f hf=>by have:=(AG s).2 f hf; omega)
 exact c14 _ h1 h2 h3 h4 h
end
section
open Go Hk
theorem ZP (s:List UInt8) (h:kT):KK 25 [.str s] h=some (.ret (.tuple [.agg (o8 (nN s)),.agg [.int .i64 ((nM s).2.1:Int),.int .i64 ((nM s).2.2:Int)]]),h):=by
 rw [c25,XF.P9]; rfl
theorem LX {s:List UInt8}(h:(nM s).2.1≠0):nN s=[]:=by
 unfold nN
 revert h
 unfold nM
 split
 ·split
  ·intro h; exact absurd rfl h
  ·intro _; rfl
 ·intro _; rfl
theorem aeN {l:List GF}:(l.map qI).flatten=[]↔l=[]:=by
 cases l with
 | nil=>simp
 | cons f r=>simp [aeM]
theorem c8 (s:List UInt8) (e11:∀h,KK 11 [] h=some (.ret (.bool true),h)) (h:kT):KK 8 [.str s] h=some (.ret (.bool true),h):=by
 refine lK rfl rfl (lJ (aAo _ _ _) ?_)
 by_cases he:(nM s).2.1=0
 ·have hw:=EH s
  obtain⟨-,-,hT,-⟩:=Qh (l:=nN s) (by have:=(AG s).1; unfold nN; omega) (fun f hf=>by have:=(AG s).2 f hf; omega)
  have hT:=hT hw.1
  simp only [uO,List.take_length] at hT
  have e14:=ahH s
  have hp:xQ (nN s)=(((nN s).map qI).flatten,0):=DT s
  rw [hp] at e14
  obtain⟨pv,hsc⟩:=Hw (l:=nN s) hw.1 0
  exact c8t s _ ((nN s).map GF.cells) (by rw [aeN,List.map_eq_nil_iff]) _ _ e11 (ZP s) e14 (Nat.le_trans hT (by decide)) pv hsc he
 ·have e25:=ZP s
  rw [LX he] at e25
  exact c8u s _ _ he e11 e25
end
section
open Go Hk
def exQ:List UInt8:=[102,110,32,102,40,41,32,123,10,32,120,32,61,32,49,32,43,32,50,32,42,32,121,59,10,125,10]
theorem azA:xQ (nN YR)=(exQ,0):=by kernel_rfl
theorem ayP (h:kT):KK 11 [] h=some (.ret (.bool true),h):=by
 refine lK rfl rfl (lJ (ar5 _ _) ?_)
 have e12:∀h,KK 12 [.str YR] h=some (.ret (.tuple [.agg [.slice ((nN YR).map GF.cells) .no],.agg [.int .i64 0,.int .i64 0]]),h):=fun h=>by
  rw [k12 h,←Yi.1,XF.P9]; rfl
 have e14:=ahH YR
 rw [azA] at e14
 simp only [o8,YR,exQ] at e12 e14
 simp -implicitDefEqProofs [m11,lZ,lL,e12,e14,putCells,kS]
end
section
open Go Hk
theorem aEd (s:List UInt8) (_:s.length≤maxLen):KX Tryz.prog mV 8 [.str s] []=some (.ret (.bool true),[]):=an7 rfl (c8 s ayP [])
end
end Go.Proofs.YtlddmnojanpdoaaGreatDoor
