/-
  The texts YM.Q1, YM.H1, YM.H2, YM.H3, YM.H4, YM.H5, YM.H6, YM.H7, YM.H8, YM.Q2, YM.Q3, YM.H9, YM.H10, YM.H11, YM.H12, YM.H13, YM.W2, YM.W3, YM.S7, YM.TE, YM.S8, YM.E1, YM.L6, YM.L4, YM.S9, one behind another. No conditions.
-/
import Derived.Test.YtgllbnabmglcfaaGreatDoorIm4
import Derived.Test.YtgllbnabmglcfaaGreatDoorIm1
import Derived.Test.YtgllbnabmglcfaaGreatDoorVt1
import Derived.Test.YtgllbnabmglcfaaGreatDoorYm3
import Derived.Test.YtgllbnabmglcfaaGreatDoorYm2
import Derived.Test.YtgllbnabmglcfaaGreatDoorYm4
import Derived.Test.YtgllbnabmglcfaaGreatDoorYm1
set_option linter.unusedVariables false
set_option linter.unusedSimpArgs false
set_option linter.all false
open Int renaming toNat_natCast → av8
open List renaming append_assoc → aw8, getD_eq_getElem?_getD → ah6, getElem?_eq_getElem → ag8, getElem?_eq_some_iff → ag0, getElem?_map → ak4, getElem_mem → ax5, length → aa5, length_append → au9, length_cons → ar8, length_map → au7, length_nil → ay5, length_take → ar6, map_cons → as6, mem_append → au0, mem_map → au6, nil_append → av6, range → ar9, replicate → ak7
open Nat renaming le_refl → ak5, zero_add → av7
open Option renaming bind_some → ak6
namespace Hk.PQ
section
variable {α:Type}{key:α→Int}
def kg (key:α→Int) (l:List α) (i:Nat):Int:=match l[i]? with
 | some a=>key a
 | none=>0
theorem TP {l:List α}{i:Nat}{a:α}(h:l[i]?=some a):kg key l i=key a:=by unfold kg;rw [h]
def sw (l:List α) (i j:Nat):List α:=match l[i]?,l[j]? with
 | some a,some b=>(l.set i b).set j a
 | _,_=>l
theorem Zt {l:List α}{i j:Nat}{a b:α}(hi:l[i]?=some a) (hj:l[j]?=some b):sw l i j=(l.set i b).set j a:=by unfold sw;rw [hi,hj]
theorem Je {l:List α}{i j:Nat}:(sw l i j).length=l.length:=by
 unfold sw;split <;> simp
theorem Hj {l:List α}{i j:Nat}:(sw l i j).Perm l:=by
 unfold sw
 split
 ·rename_i a b ha hb
  obtain⟨h1,h2⟩:=ag0.1 ha
  obtain⟨h3,h4⟩:=ag0.1 hb
  subst h2;subst h4
  exact List.set_set_perm h1 h3
 ·exact List.Perm.refl _
theorem ah3 {l:List α}{i j:Nat}(hi:i<l.length) (hj:j<l.length) (k:Nat):kg key (sw l i j) k=if k=j then kg key l i else if k=i then kg key l j else kg key l k:=by
 rw [Zt (ag8 hi) (ag8 hj)]
 unfold kg
 by_cases h1:k=j
 ·subst h1
  rw [if_pos rfl,List.getElem?_set_self (by simpa using hj),ag8 hi]
 ·rw [if_neg h1,List.getElem?_set_ne (fun e=>h1 e.symm)]
  by_cases h2:k=i
  ·subst h2
   rw [if_pos rfl,List.getElem?_set_self hi,ag8 hj]
  ·rw [if_neg h2,List.getElem?_set_ne (fun e=>h2 e.symm)]
def lT (key:α→Int) (l:List α):Prop:=∀j,0<j→j<l.length→kg key l ((j-1)/2)≤kg key l j
def ZV (key:α→Int) (l:List α) (i:Nat):Prop:=i<l.length∧(∀j,0<j→j<l.length→j≠i→kg key l ((j-1)/2)≤kg key l j) ∧
 ∀j,0<j→j<l.length→(j-1)/2=i→0<i→kg key l ((i-1)/2)≤kg key l j
def DnI (key:α→Int) (l:List α) (i:Nat):Prop:=(∀j,0<j→j<l.length→(j-1)/2≠i→kg key l ((j-1)/2)≤kg key l j) ∧
 (0<i→∀j,0<j→j<l.length→(j-1)/2=i→kg key l ((i-1)/2)≤kg key l j)
theorem Us {l:List α}{i:Nat}(h:ZV key l i) (h0:0<i) (hlt:kg key l i<kg key l ((i-1)/2)):ZV key (sw l i ((i-1)/2)) ((i-1)/2):=by
 obtain⟨h1,h2,h3⟩:=h
 have hp:(i-1)/2<i:=by omega
 have hpl:(i-1)/2<l.length:=by omega
 have hk:=ah3 (key:=key) h1 hpl
 generalize hpe:(i-1)/2=p at *
 refine⟨by rw [Je];exact hpl,fun j j0 jl jp=>?_,fun j j0 jl jp p0=>?_⟩
 ·rw [Je] at jl
  rw [hk,hk]
  by_cases e1:j=i
  ·subst e1
   rw [hpe,if_pos rfl,if_neg jp,if_pos rfl];omega
  ·rw [if_neg jp,if_neg e1]
   by_cases e2:(j-1)/2=p
   ·rw [if_pos e2]
    have:=h2 j j0 jl e1
    rw [e2] at this;omega
   ·rw [if_neg e2]
    by_cases e3:(j-1)/2=i
    ·rw [if_pos e3]
     exact h3 j j0 jl e3 h0
    ·rw [if_neg e3]
     exact h2 j j0 jl e1
 ·rw [Je] at jl
  rw [hk,hk]
  have a1:(p-1)/2≠p:=by omega
  have a2:(p-1)/2≠i:=by omega
  rw [if_neg a1,if_neg a2]
  have b1:=h2 p p0 hpl (by omega)
  have b2:j≠p:=by omega
  rw [if_neg b2]
  by_cases e1:j=i
  ·rw [if_pos e1];exact b1
  ·rw [if_neg e1]
   have:=h2 j j0 jl e1
   rw [jp] at this;omega
theorem N6 {l:List α}{i:Nat}(h:ZV key l i) (hn:¬(0<i∧kg key l i<kg key l ((i-1)/2))):lT key l:=by
 intro j j0 jl
 by_cases e:j=i
 ·subst e;omega
 ·exact h.2.1 j j0 jl e
theorem Ur {l:List α}{x:α}(h:lT key l):ZV key (l++[x]) l.length:=by
 have hk:∀k,k<l.length→kg key (l++[x]) k=kg key l k:=by
  intro k hk
  unfold kg
  rw [List.getElem?_append_left hk]
 refine⟨by simp,fun j j0 jl jn=>?_,fun j j0 jl jp p0=>?_⟩
 ·simp at jl
  rw [hk _ (by omega),hk _ (by omega)]
  exact h j j0 (by omega)
 ·simp at jl;omega
theorem TL {l:List α}{i k:Nat}(h:DnI key l i) (hil:i<l.length) (k0:0<k) (kl:k<l.length) (kp:(k-1)/2=i)
  (hm:∀j,0<j→j<l.length→(j-1)/2=i→kg key l k≤kg key l j) (hlt:kg key l k<kg key l i):DnI key (sw l i k) k:=by
 obtain⟨h1,h2⟩:=h
 have hk:=ah3 (key:=key) hil kl
 have hik:i<k:=by omega
 refine⟨fun j j0 jl jp=>?_,fun _ j j0 jl jp=>?_⟩
 ·rw [Je] at jl
  rw [hk,hk,if_neg jp]
  by_cases e1:(j-1)/2=i
  ·rw [if_pos e1]
   by_cases e2:j=k
   ·rw [if_pos e2];omega
   ·rw [if_neg e2,if_neg (by omega)]
    exact hm j j0 jl e1
  ·rw [if_neg e1]
   have e2:j≠k:=fun e=>e1 (by rw [e];exact kp)
   rw [if_neg e2]
   by_cases e3:j=i
   ·rw [if_pos e3,e3]
    exact h2 (by omega) k k0 kl kp
   ·rw [if_neg e3]
    exact h1 j j0 jl e1
 ·rw [Je] at jl
  rw [hk,hk,kp,if_neg (by omega),if_pos rfl,if_neg (by omega),if_neg (by omega)]
  have:=h1 j j0 jl (by omega)
  rw [jp] at this;exact this
theorem W6 {l:List α}{i:Nat}(h:DnI key l i) (hm:∀j,0<j→j<l.length→(j-1)/2=i→kg key l i≤kg key l j):lT key l:=by
 intro j j0 jl
 by_cases e:(j-1)/2=i
 ·rw [e];exact hm j j0 jl e
 ·exact h.1 j j0 jl e
theorem O1 {l:List α}(h:lT key l):∀i,i<l.length→kg key l 0≤kg key l i:=by
 intro i
 induction i using Nat.strongRecOn with
 | _ i ih =>
  intro hi
  by_cases e:i=0
  ·subst e;exact Int.le_refl _
  ·have:=ih ((i-1)/2) (by omega) (by omega)
   have:=h i (by omega) hi
   omega
def pop (l:List α):List α:=match l with
 | []=>[]
 | x::r=>(match (x::r)[r.length]? with
  | some y=>((x::r).set 0 y).take r.length
  | none=>[])
theorem aeT {l:List α}:(pop l).length=l.length-1:=by
 cases l with
 | nil=>rfl
 | cons x r =>
  unfold pop
  have:r.length<(x::r).length:=by simp
  simp only [ag8 this]
  simp
theorem Ps {x:α}{r:List α}:(x::pop (x::r)).Perm (x::r):=by
 have hlt:r.length<(x::r).length:=by simp
 have e:pop (x::r)=((x::r).set 0 (x::r)[r.length]).take r.length:=by
  unfold pop
  simp only [ag8 hlt]
 rw [e]
 cases r with
 | nil=>simp
 | cons y s =>
  refine List.Perm.cons x ?_
  simp only [List.set_cons_zero,ar8,List.take_succ_cons,List.getElem_cons_succ]
  have h2:(y::s)=(y::s).take s.length++[(y::s)[s.length]]:=by
   have h3:=List.take_append_getElem (l:=y::s) (i:=s.length) (by simp)
   have h4:(y::s).take (s.length+1)=y::s:=List.take_of_length_le (by simp)
   rw [h4] at h3
   exact h3.symm
  refine List.Perm.trans ?_ (List.Perm.of_eq h2.symm)
  exact(List.perm_append_comm (l₁:=[(y::s)[s.length]]) (l₂:=(y::s).take s.length))
theorem Y4 {l:List α}(h:lT key l):DnI key (pop l) 0:=by
 cases l with
 | nil=>exact⟨fun j _ jl=>by simp [pop] at jl,fun h0=>by omega⟩
 | cons x r =>
  have hlt:r.length<(x::r).length:=by simp
  have e:pop (x::r)=((x::r).set 0 (x::r)[r.length]).take r.length:=by
   unfold pop
   simp only [ag8 hlt]
  have hk:∀k,0<k→k<r.length→kg key (pop (x::r)) k=kg key (x::r) k:=by
   intro k k0 kl
   unfold kg
   rw [e,List.getElem?_take_of_lt kl,List.getElem?_set_ne (by omega)]
  refine⟨fun j j0 jl jp=>?_,fun h0=>by omega⟩
  rw [aeT] at jl
  simp at jl
  rw [hk _ (by omega) (by omega),hk _ j0 jl]
  exact h j j0 (by simp;omega)
end
end Hk.PQ
namespace Go.Proofs.YtgllbnabmglcfaaGreatDoor
section
open Go Hk
theorem GZ {F:List lS×lT→Option R}{σ:Type}(enc:σ→List lS×lT) (inv:σ→Prop) (μ:σ→Nat) (Post:σ→R→Prop)
  (h:∀s,inv s→(∃s',F (enc s)=some (.normal,enc s')∧inv s'∧μ s'<μ s∧∀r,Post s' r→Post s r)∨(∃r,F (enc s)=some r∧r.1≠.normal∧Post s r)) :
  ∀s,inv s→∃r,nL F (enc s)=some r∧Post s r:=by
 have key:∀n s,μ s=n→inv s→∃r,nL F (enc s)=some r∧Post s r:=by
  intro n
  induction n using Nat.strongRecOn with
  | _ n ih =>
   intro s hn hi
   rw [nW]
   rcases h s hi with ⟨s',e1,e2,e3,e4⟩ | ⟨r,e1,e2,e3⟩
   ·obtain⟨r,h1,h2⟩:=ih (μ s') (by omega) s' rfl e2
    refine⟨r,?_,e4 r h2⟩
    rw [e1]
    simp only [ak6,tX]
    exact h1
   ·refine⟨r,?_,e3⟩
    rw [e1]
    obtain⟨e,l⟩:=r
    cases e <;> first | exact absurd rfl e2 | rfl
 exact fun s hi=>key (μ s) s rfl hi
@[simp] theorem aaU {f:Nat}{x y:List lS}:rF (.func f x y)=some (f,x,y):=(rfl)
@[simp] theorem apV {f m:Nat}{h:Hk.lT}:lS.oL m h (.func f [] [])=.func f [] []:=(rfl)
@[simp] theorem OP {f:Nat}{x y:List lS}:lS.mZ (.func f x y)=true:=(rfl)
def vB (C:Hk.lT) (S:List Int) (n:Nat):Hk.lT:=.cells [.vslice 1 S.length 0 n 1,.func 44 [] []]::Vc (ci .i64) 1 S::C
def rd (S:List Int) (j:Nat):Int:=S.getD j 0
theorem AN {S:List Int}{j:Nat}(h:j<S.length):S[j]?=some (rd S j):=by unfold rd;rw [ah6,ag8 h];rfl
@[simp high] theorem aDt {c:mT}{C:Hk.lT}{S:List Int}{n j:Nat}{v:Int}(h:S.length=n) (hj:j<n):mL 1 (c::Vc (ci .i64) 1 S::C) (.vptr 1 n j) (.int .i64 v)=some (c::Vc (ci .i64) 1 (S.set j v)::C):=by
 subst h
 have:=Ic (enc:=ci .i64) (sz:=1) (h:=c::Vc (ci .i64) 1 S::C) (id:=1) (tot:=S.length) (j:=j) (xs:=S) (v:=.int .i64 v) v (fun _=>rfl) rfl (by omega) rfl rfl
 rw [Nat.mul_one] at this
 rw [this,vC,if_pos rfl,ag8 hj,mN,DG,if_pos ⟨rfl,hj⟩]
 rfl
@[simp high] theorem aDs {c:mT}{C:Hk.lT}{S:List Int}{n j:Nat}(h:S.length=n) (hj:j<n):mF false 1 (c::Vc (ci .i64) 1 S::C) (.vptr 1 n j)=some (.int .i64 (rd S j)):=by
 subst h
 rw [v_]
 have e:(c::Vc (ci .i64) 1 S::C:Hk.lT)[1]?=some (Vc (ci .i64) 1 S):=rfl
 rw [e,aqW (fun _=>rfl),vC,if_pos rfl,AN hj]
 rfl
def Still (C:Hk.lT):Prop:=∀m h,pC m h C=some C
section
variable {C:Hk.lT}(hC:Still C) {S:List Int}{n i:Nat}
include hC
theorem Ky {m:Nat}(hm:C.length+2=m):o_ m (vB C S n)=some (vB C S n):=by
 have h1:(1:Nat)<m:=by omega
 have h2:pC m (vB C S n) C=some C:=hC _ _
 rw [Hp,List.take_of_length_le (by simp [vB];omega)]
 have e:vB C S n=.cells [.vslice 1 S.length 0 n 1,.func 44 [] []]::Vc (ci .i64) 1 S::C:=rfl
 rw [e] at h2 ⊢
 simp [h1,h2]
theorem c44 (a b:Int):KK 44 [.int .i64 a,.int .i64 b] (vB C S n)=some (.ret (.bool (decide (a<b))),vB C S n):=by
 refine oN (anO _ _ _ _) ?_
 have hl:(vB C S n).length=C.length+2:=rfl
 have ht:o_ (C.length+2) (vB C S n)=some (vB C S n):=Ky hC rfl
 simp only [m44,HF,ak6,List.getD_cons_zero,Ex.oA,nZ,hl,ht,Option.map_some,lS.qJ,lS.oL,lS.l_,lS.pQ]
 rfl
theorem auJ (a b:Int):rI nM KK 44 (pO nM 44 [.int .i64 a,.int .i64 b]) (vB C S n)=some (.ret (.bool (decide (a<b))),vB C S n):=c44 hC a b
theorem ZL (hn:n≤S.length) (hn2:n≤1048576) (hi:i<n) (h0:0<i) :
  Dl KK (C.length+2) ([.ptr 0 0,.int .i64 (i:Int)],vB C S n)=(if rd S i<rd S ((i-1)/2) then some (.normal,[.ptr 0 0,.int .i64 (((i-1)/2:Nat):Int)],vB C ((S.set i (rd S ((i-1)/2))).set ((i-1)/2) (rd S i)) n) else some (.exit 0,[.ptr 0 0,.int .i64 (i:Int)],vB C S n)):=by
 have w1:IntKind.i64.wrap ((i:Int)-1)=((i-1:Nat):Int):=by rw [wrap64 (by omega) (by omega)];omega
 have q1:N3 .i64 ((i-1:Nat):Int) 2=some (((i-1)/2:Nat):Int):=by
  unfold N3
  rw [if_neg (by omega),Int.tdiv_eq_ediv_of_nonneg (by omega)]
  have:((i-1:Nat):Int)/2=(((i-1)/2:Nat):Int):=by omega
  rw [this,wrap64 (by omega) (by omega)]
 have hpn:(i-1)/2<n:=by omega
 have hil:i<S.length:=by omega
 have hpl:(i-1)/2<S.length:=by omega
 generalize hp:(i-1)/2=p at *
 have hc:=fun n=>auJ hC (S:=S) (n:=n) (rd S i) (rd S p)
 have hC2:∀m h,pC m h C=some C:=hC
 simp only [vB] at hc
 by_cases hlt:rd S i<rd S p
 ·rw [if_pos hlt]
  simp [Dl,vB,w1,q1,h0,hi,hpn,hil,hpl,hc,hlt,hC2]
 ·rw [if_neg hlt]
  simp [Dl,vB,w1,q1,h0,hi,hpn,hil,hpl,hc,hlt,hC2]
theorem ZM:Dl KK (C.length+2) ([.ptr 0 0,.int .i64 0],vB C S n)=some (.exit 0,[.ptr 0 0,.int .i64 0],vB C S n):=by
 have hC2:∀m h,pC m h C=some C:=hC
 simp [Dl,vB,hC2]
end
theorem KP {S:List Int}{n i:Nat}(hn:n≤S.length) (hi:i<n):PQ.kg (fun x=>x) (S.take n) i=rd S i:=by
 have:(S.take n)[i]?=some (rd S i):=by rw [List.getElem?_take_of_lt hi,AN (by omega)]
 rw [PQ.TP this]
theorem Ho {S:List Int}{n i p:Nat}(hn:n≤S.length) (hi:i<n) (hp:p<n):((S.set i (rd S p)).set p (rd S i)).take n=PQ.sw (S.take n) i p:=by
 have h1:(S.take n)[i]?=some (rd S i):=by rw [List.getElem?_take_of_lt hi,AN (by omega)]
 have h2:(S.take n)[p]?=some (rd S p):=by rw [List.getElem?_take_of_lt hp,AN (by omega)]
 rw [PQ.Zt h1 h2,List.take_set,List.take_set]
theorem up1 {C:Hk.lT}(hC:Still C) {S:List Int}{n i:Nat}(hn:n≤S.length) (hn2:n≤1048576) (h:PQ.ZV (fun x=>x) (S.take n) i) :
  ∃r,nL (Dl KK (C.length+2)) ([.ptr 0 0,.int .i64 (i:Int)],vB C S n)=some r ∧
   ∃(j:Nat) (S':List Int),r=(.exit 0,[.ptr 0 0,.int .i64 (j:Int)],vB C S' n)∧S'.length=S.length∧PQ.lT (fun x=>x) (S'.take n)∧(S'.take n).Perm (S.take n):=by
 refine GZ (fun s:List Int×Nat=>([.ptr 0 0,.int .i64 (s.2:Int)],vB C s.1 n)) (fun s=>s.1.length=S.length∧PQ.ZV (fun x=>x) (s.1.take n) s.2∧(s.1.take n).Perm (S.take n)) (fun s=>s.2)
  (fun _ r=>∃(j:Nat) (S':List Int),r=(.exit 0,[.ptr 0 0,.int .i64 (j:Int)],vB C S' n)∧S'.length=S.length∧PQ.lT (fun x=>x) (S'.take n)∧(S'.take n).Perm (S.take n)) ?_ (S,i) ⟨rfl,h,List.Perm.refl _⟩
 rintro⟨T,j⟩ ⟨hl,hu,hp⟩
 simp only at hl hu hp ⊢
 have hj:j<n:=by have:=hu.1;rw [ar6] at this;omega
 rcases Nat.eq_zero_or_pos j with h0 | h0
 ·subst h0
  refine .inr ⟨_,ZM hC,by simp,0,T,rfl,hl,PQ.N6 hu (by omega),hp⟩
 ·have hs:=ZL hC (S:=T) (n:=n) (i:=j) (by omega) hn2 hj h0
  have hpn:(j-1)/2<n:=by omega
  by_cases hlt:rd T j<rd T ((j-1)/2)
  ·rw [if_pos hlt] at hs
   refine .inl ⟨(((T.set j (rd T ((j-1)/2))).set ((j-1)/2) (rd T j)),(j-1)/2),hs,⟨by simp [hl],?_,?_⟩,by simp only;omega,fun r hr=>hr⟩
   ·simp only
    rw [Ho (by omega) hj hpn]
    exact PQ.Us hu h0 (by rw [KP (by omega) hj,KP (by omega) hpn];exact hlt)
   ·simp only
    rw [Ho (by omega) hj hpn]
    exact PQ.Hj.trans hp
  ·rw [if_neg hlt] at hs
   exact .inr ⟨_,hs,by simp,j,T,rfl,hl,PQ.N6 hu (by rw [KP (by omega) hj,KP (by omega) hpn];omega),hp⟩
def HPn (S:List Int) (n:Nat):Hk.lT:=if S=[] then [.cells [.slice [] (.own 1),.func 44 [] []],.front 0 0] else vB [] S n
theorem Lg:Still []:=fun _ _=>rfl
theorem PU {i j:Nat}:Still [.front i j]:=fun _ _=>rfl
theorem aAD {S:List Int}{n:Nat}(x:Int) (hn:n≤S.length) (hl:S.length≤1000000) (hh:PQ.lT (fun x=>x) (S.take n)) :
  ∃S',m46 KK (.ptr 0 0) (.int .i64 x) (HPn S n)=some (.ret (.tuple []),vB [] S' (n+1))∧n+1≤S'.length∧S'.length≤max S.length (n+1)∧PQ.lT (fun x=>x) (S'.take (n+1))∧(S'.take (n+1)).Perm (x::S.take n):=by
 let T:=S.take n++[x]++S.drop (n+1)
 have hT:T=S.take n++[x]++S.drop (n+1):=rfl
 have hTl:T.length=max S.length (n+1):=by rw [hT];simp;omega
 have hTt:T.take (n+1)=S.take n++[x]:=by
  rw [hT]
  have:(S.take n++[x]).length=n+1:=by simp;omega
  rw [←this,List.take_left]
 have hup:PQ.ZV (fun x=>x) (T.take (n+1)) n:=by
  rw [hTt]
  have:=PQ.Ur (key:=fun x=>x) (x:=x) hh
  rwa [show(S.take n).length=n by simp;omega] at this
 obtain⟨r,hr,j,S',rfl,h1,h2,h3⟩:=up1 (C:=[.front 1 1]) PU (by omega) (by omega) hup
 refine⟨S',?_,by omega,by omega,h2,h3.trans ?_⟩
 ·have hfin:o_ 2 (vB [.front 1 1] S' (n+1))=some (vB [] S' (n+1)):=by
   rw [Hp]
   simp [vB]
  have hdn:T.drop (n+1)=S.drop (n+1):=by
   rw [hT]
   have:(S.take n++[x]).length=n+1:=by simp;omega
   rw [←this,List.drop_left]
  by_cases h0:S=[]
  ·subst h0
   have hn0:n=0:=by simpa using hn
   subst hn0
   have hT1:T=[x]:=rfl
   rw [hT1] at hr
   have e1:vB [.front 1 1] [x] 1=[.cells [.vslice 1 1 0 1 1,.func 44 [] []],.vec 1 1 [.int .i64 x],.front 1 1]:=rfl
   have wz:IntKind.i64.wrap 0=0:=by decide
   have n0:((0:Nat):Int)=0:=rfl
   rw [av7,e1,n0] at hr
   simp only [vB,ar8,ay5,Nat.reduceAdd] at hr ⊢
   simp only [HPn,if_true]
   simp [m46,mD,rX,oM,lS.Bc,rowsOf,oY,wz]
   simp [hr]
  ·simp only [HPn,h0,if_false]
   have ha:=HD (enc:=ci .i64) (sz:=1) (by_:=8) (h:=vB [] S n++[.front 1 1]) (id:=1) (tot:=S.length) (n:=n) (xs:=S) (ys:=[x]) (T:=.own 2) (fun _=>rfl) (by omega) rfl hn (by simp)
   have hva:tva 8 S.length n S [x]=some T:=by
    unfold tva
    rw [if_pos ⟨rfl,hn,by simp;omega,by simp;omega⟩]
    rfl
   rw [hva,pH] at ha
   have eR:Rw (ci .i64) [x]=[[.int .i64 x]]:=rfl
   have eH:(vB [] S n++[.front 1 1]:Hk.lT).set 1 (Vc (ci .i64) 1 T)=[.cells [.vslice 1 S.length 0 n 1,.func 44 [] []],Vc (ci .i64) 1 T,.front 1 1]:=rfl
   have eH2:(vB [] S n++[.front 1 1]:Hk.lT)=[.cells [.vslice 1 S.length 0 n 1,.func 44 [] []],Vc (ci .i64) 1 S,.front 1 1]:=rfl
   rw [eH,eH2,eR] at ha
   have w1:IntKind.i64.wrap (n:Int)=(n:Int):=by rw [wrap64 (by omega) (by omega)]
   simp only [vB,ar8,ay5,Nat.reduceAdd] at hr ha ⊢
   simp [m46,mD,rX,oM,lS.Bc,rowsOf]
   rw [ha]
   simp [w1]
   simp [hr]
 ·rw [hTt]
  exact List.perm_append_comm
section
variable {S:List Int}{n i:Nat}{x:Int}
theorem QL (hn : n ≤ S.length) (hn2 : S.length ≤ 1000000) (hi : i < n ∨ i = 0) :
    let k := if 2 * i + 2 < n ∧ rd S (2 * i + 2) < rd S (2 * i + 1) then 2 * i + 2 else 2 * i + 1
    zL KK 2 ([.ptr 0 0, .int .i64 0, .int .i64 x, .int .i64 (n : Int), .int .i64 (i : Int)], vB [] S n) =
      (if n ≤ k ∨ ¬ rd S k < rd S i then some (.ret, [.ptr 0 0, .int .i64 x, .int .i64 x, .int .i64 (n : Int), .int .i64 (i : Int)], vB [] S n)
       else some (.normal, [.ptr 0 0, .int .i64 0, .int .i64 x, .int .i64 (n : Int), .int .i64 (k : Int)], vB [] ((S.set i (rd S k)).set k (rd S i)) n)) := by
  intro k
  have w1 : IntKind.i64.wrap (2 * (i : Int)) = ((2 * i : Nat) : Int) := by rw [wrap64 (by omega) (by omega)]; omega
  have w2 : IntKind.i64.wrap (((2 * i : Nat) : Int) + 1) = ((2 * i + 1 : Nat) : Int) := by rw [wrap64 (by omega) (by omega)]; omega
  have w3 : IntKind.i64.wrap (((2 * i + 1 : Nat) : Int) + 1) = ((2 * i + 2 : Nat) : Int) := by rw [wrap64 (by omega) (by omega)]; omega
  have hC2 : ∀ m h, pC m h [] = some [] := fun _ _ => rfl
  have hc := fun a b => auJ Lg (S := S) (n := n) a b
  simp only [vB] at hc
  have rest : ∀ k : Nat, k = 2 * i + 1 ∨ k = 2 * i + 2 ∧ k < n → True := fun _ _ => trivial
  have hkd : k = if 2 * i + 2 < n ∧ rd S (2 * i + 2) < rd S (2 * i + 1) then 2 * i + 2 else 2 * i + 1 := rfl
  clear_value k
  generalize h1 : 2 * i + 1 = k1 at *
  generalize h2 : 2 * i + 2 = k2 at *
  generalize h0 : 2 * i = k0 at *
  by_cases c1 : k2 < n
  · have hk2 : k2 < S.length := by omega
    have hk1 : k1 < n := by omega
    have hk1l : k1 < S.length := by omega
    have hil : i < n := by omega
    have hill : i < S.length := by omega
    by_cases c2 : rd S k2 < rd S k1
    · rw [if_pos ⟨c1, c2⟩] at hkd
      subst hkd
      have hnk : ¬ n ≤ k := by omega
      by_cases c3 : rd S k < rd S i
      · rw [if_neg (by intro h; rcases h with h | h; exact hnk h; exact h c3)]
        simp [zL, vB, w1, w2, w3, c1, c2, c3, hk2, hk1, hk1l, hil, hill, hc, hnk]
      · rw [if_pos (.inr c3)]
        simp [zL, vB, w1, w2, w3, c1, c2, c3, hk2, hk1, hk1l, hil, hill, hc, hnk]
    · rw [if_neg (fun h => c2 h.2)] at hkd
      subst hkd
      have hnk : ¬ n ≤ k := by omega
      by_cases c3 : rd S k < rd S i
      · rw [if_neg (by intro h; rcases h with h | h; exact hnk h; exact h c3)]
        simp [zL, vB, w1, w2, w3, c1, c2, c3, hk2, hk1, hk1l, hil, hill, hc, hnk]
      · rw [if_pos (.inr c3)]
        simp [zL, vB, w1, w2, w3, c1, c2, c3, hk2, hk1, hk1l, hil, hill, hc, hnk]
  · rw [if_neg (fun h => c1 h.1)] at hkd
    subst hkd
    by_cases c4 : n ≤ k
    · rw [if_pos (.inl c4)]
      simp [zL, vB, w1, w2, w3, c1, c4]
    · have hkl : k < S.length := by omega
      have hkn : k < n := by omega
      have hil : i < n := by omega
      have hill : i < S.length := by omega
      by_cases c3 : rd S k < rd S i
      · rw [if_neg (by intro h; rcases h with h | h; exact c4 h; exact h c3)]
        simp [zL, vB, w1, w2, w3, c1, c3, c4, hkl, hkn, hil, hill, hc]
      · rw [if_pos (.inr c3)]
        simp [zL, vB, w1, w2, w3, c1, c3, c4, hkl, hkn, hil, hill, hc]
end
end
end Go.Proofs.YtgllbnabmglcfaaGreatDoor
namespace Hk.PQ
theorem Y5 {α:Type}{l:List α}{y:α}(h0:l≠[]) (hy:l[l.length-1]?=some y):pop l=(l.set 0 y).take (l.length-1):=by
 cases l with
 | nil=>exact absurd rfl h0
 | cons x r =>
  simp only [ar8,Nat.add_sub_cancel] at hy
  have e:pop (x::r)=(match (x::r)[r.length]? with
   | some y=>((x::r).set 0 y).take r.length
   | none=>[]):=rfl
  rw [e,hy]
  rfl
end Hk.PQ
namespace Go.Proofs.YtgllbnabmglcfaaGreatDoor
open Go Hk
theorem auO {S:List Int}{n i:Nat}{x:Int}(hn:n≤S.length) (hn2:S.length≤1000000) (hi:i<n∨i=0) (h:PQ.DnI (fun x=>x) (S.take n) i) :
  ∃r,nL (zL KK 2) ([.ptr 0 0,.int .i64 0,.int .i64 x,.int .i64 (n:Int),.int .i64 (i:Int)],vB [] S n)=some r ∧
   ∃(j:Nat) (S':List Int),r=(.ret,[.ptr 0 0,.int .i64 x,.int .i64 x,.int .i64 (n:Int),.int .i64 (j:Int)],vB [] S' n)∧S'.length=S.length∧PQ.lT (fun x=>x) (S'.take n)∧(S'.take n).Perm (S.take n):=by
 refine GZ (fun s:List Int×Nat=>([.ptr 0 0,.int .i64 0,.int .i64 x,.int .i64 (n:Int),.int .i64 (s.2:Int)],vB [] s.1 n)) (fun s=>s.1.length=S.length∧(s.2<n∨s.2=0)∧PQ.DnI (fun x=>x) (s.1.take n) s.2∧(s.1.take n).Perm (S.take n)) (fun s=>n-s.2)
  (fun _ r=>∃(j:Nat) (S':List Int),r=(.ret,[.ptr 0 0,.int .i64 x,.int .i64 x,.int .i64 (n:Int),.int .i64 (j:Int)],vB [] S' n)∧S'.length=S.length∧PQ.lT (fun x=>x) (S'.take n)∧(S'.take n).Perm (S.take n)) ?_ (S,i) ⟨rfl,hi,h,List.Perm.refl _⟩
 rintro⟨T,j⟩ ⟨hl,hj,hu,hp⟩
 simp only at hl hj hu hp ⊢
 have hs:=QL (S:=T) (n:=n) (i:=j) (x:=x) (by omega) (by omega) hj
 simp only at hs
 have hlt:(T.take n).length=n:=by rw [ar6];omega
 have hkg:∀m,m<n→PQ.kg (fun x=>x) (T.take n) m=rd T m:=fun m hm=>KP (by omega) hm
 generalize hk:(if 2*j+2<n∧rd T (2*j+2)<rd T (2*j+1) then 2*j+2 else 2*j+1)=k at hs
 have hkmin:∀c,0<c→c<n→(c-1)/2=j→k<n∧rd T k≤rd T c:=by
  intro c c0 cn cj
  rcases (show c=2*j+1∨c=2*j+2 by omega) with rfl | rfl
  ·rw [←hk]
   split
   ·rename_i hc;exact⟨hc.1,by omega⟩
   ·exact⟨cn,Int.le_refl _⟩
  ·rw [←hk]
   split
   ·exact⟨cn,Int.le_refl _⟩
   ·rename_i hc
    exact⟨by omega,by by_cases h2:rd T (2*j+2)<rd T (2*j+1);exact absurd ⟨cn,h2⟩ hc;omega⟩
 have hkj:(k-1)/2=j∧0<k∧j<k:=by rw [←hk];split <;> omega
 by_cases hc:n≤k∨¬rd T k<rd T j
 ·rw [if_pos hc] at hs
  refine .inr ⟨_,hs,by simp,j,T,rfl,hl,PQ.W6 hu fun c c0 cl cj=>?_,hp⟩
  rw [hlt] at cl
  obtain⟨h1,h2⟩:=hkmin c c0 cl cj
  rw [hkg _ (by omega),hkg _ cl]
  rcases hc with hc | hc <;> omega
 ·rw [if_neg hc] at hs
  have hkn:k<n:=by omega
  have hrd:rd T k<rd T j:=by
   by_cases h:rd T k<rd T j
   ·exact h
   ·exact absurd (.inr h) hc
  refine .inl ⟨((T.set j (rd T k)).set k (rd T j),k),hs,⟨by simp [hl],.inl hkn,?_,?_⟩,by simp only;omega,fun r hr=>hr⟩
  ·simp only
   rw [Ho (by omega) (by omega) hkn]
   refine PQ.TL hu (by rw [hlt];omega) hkj.2.1 (by rw [hlt];exact hkn) hkj.1 (fun c c0 cl cj=>?_) ?_
   ·rw [hlt] at cl
    rw [hkg _ hkn,hkg _ cl];exact(hkmin c c0 cl cj).2
   ·rw [hkg _ hkn,hkg _ (by omega)];exact hrd
  ·simp only
   rw [Ho (by omega) (by omega) hkn]
   exact PQ.Hj.trans hp
theorem aAF {S:List Int}{n:Nat}(hn:n+1≤S.length) (hl:S.length≤1000000) (hh:PQ.lT (fun x=>x) (S.take (n+1))) :
  ∃S',m48 KK (.ptr 0 0) (vB [] S (n+1))=some (.ret (.int .i64 (rd S 0)),vB [] S' n)∧S'.length=S.length∧PQ.lT (fun x=>x) (S'.take n)∧(rd S 0::S'.take n).Perm (S.take (n+1)):=by
 have hpop:PQ.pop (S.take (n+1))=(S.set 0 (rd S n)).take n:=by
  have e:(S.take (n+1)).length=n+1:=by rw [ar6];omega
  rw [PQ.Y5 (y:=rd S n) (by intro h;rw [h] at e;simp at e) (by rw [e,Nat.add_sub_cancel,List.getElem?_take_of_lt (by omega),AN (by omega)]),e,Nat.add_sub_cancel]
  rw [List.take_set,List.take_take,List.take_set]
  congr 1
  congr 1
  omega
 have hdn:=PQ.Y4 hh
 rw [hpop] at hdn
 obtain⟨r,hr,j,S',rfl,h1,h2,h3⟩:=auO (S:=S.set 0 (rd S n)) (n:=n) (i:=0) (x:=rd S 0) (by simp;omega) (by simpa using hl) (.inr rfl) hdn
 refine⟨S',?_,by simpa using h1,h2,?_⟩
 ·have hfin:o_ 2 (vB [] S' n)=some (vB [] S' n):=Ky Lg rfl
  have w1:IntKind.i64.wrap (((n+1:Nat):Int)-1)=(n:Int):=by rw [wrap64 (by omega) (by omega)];omega
  have n0:((0:Nat):Int)=0:=rfl
  have h0l:0<S.length:=by omega
  have hnl:n<S.length:=by omega
  simp only [vB,n0,List.length_set] at hr hfin ⊢
  have w2:IntKind.i64.wrap (n:Int)=(n:Int):=by rw [wrap64 (by omega) (by omega)]
  have t0:DF (n+1) 0=some 0:=by unfold DF;rw [if_pos (by omega)];rfl
  have hsl:pF 1 (.vslice 1 S.length 0 (n+1) 1) none (some (.int .i64 (n:Int)))=some (.vslice 1 S.length 0 n 1):=by
   simp [pF,pZ]
  simp [m48,w2,t0,h0l,hnl,hsl]
  simp [hr]
 ·have hne:∃y r,S.take (n+1)=y::r:=by
   cases S with
   | nil=>simp at hn
   | cons y r=>exact⟨y,r.take n,rfl⟩
  obtain⟨y,r,hyr⟩:=hne
  have hy:y=rd S 0:=by
   have:(S.take (n+1))[0]?=some y:=by rw [hyr];rfl
   rw [List.getElem?_take_of_lt (by omega),AN (by omega)] at this
   exact(Option.some.inj this).symm
  have:=PQ.Ps (x:=y) (r:=r)
  rw [←hyr,hpop,hy] at this
  exact(List.Perm.cons _ h3).trans this
end Go.Proofs.YtgllbnabmglcfaaGreatDoor
namespace Go.Proofs.YtgllbnabmglcfaaGreatDoor
section
open Go Hk
structure qH where
 slot:Int
 last:Int
def qH.cells (x:qH):List lS:=[.int .i64 x.slot,.int .i64 x.last]
theorem qH.pW (x:qH):x.cells=[.int .i64 x.slot,.int .i64 x.last]:=(rfl)
attribute [simp] qH.pW
def vD (C:Hk.lT) (S:List qH) (n:Nat):Hk.lT:=.cells [.vslice 1 S.length 0 n 2,.func 45 [] []]::Vc qH.cells 2 S::C
def rt (S:List qH) (j:Nat):qH:=S.getD j ⟨0,0⟩
theorem BU {S:List qH}{j:Nat}(h:j<S.length):S[j]?=some (rt S j):=by unfold rt;rw [ah6,ag8 h];rfl
@[simp high] theorem azV {c:mT}{C:Hk.lT}{S:List qH}{n j:Nat}{u v:Int}(h:S.length=n) (hj:j<n):mL 2 (c::Vc qH.cells 2 S::C) (.vptr 1 n (j*2)) (.agg [.int .i64 u,.int .i64 v])=some (c::Vc qH.cells 2 (S.set j ⟨u,v⟩)::C):=by
 subst h
 have:=Ic (enc:=qH.cells) (sz:=2) (h:=c::Vc qH.cells 2 S::C) (id:=1) (tot:=S.length) (j:=j) (xs:=S) (v:=.agg [.int .i64 u,.int .i64 v]) ⟨u,v⟩ (fun _=>rfl) rfl (by omega) rfl rfl
 rw [this,vC,if_pos rfl,ag8 hj,mN,DG,if_pos ⟨rfl,hj⟩]
 rfl
@[simp high] theorem azS {c:mT}{C:Hk.lT}{S:List qH}{n j:Nat}(h:S.length=n) (hj:j<n):mF true 2 (c::Vc qH.cells 2 S::C) (.vptr 1 n (j*2))=some (.agg [.int .i64 (rt S j).slot,.int .i64 (rt S j).last]):=by
 subst h
 rw [v_]
 have e:(c::Vc qH.cells 2 S::C:Hk.lT)[1]?=some (Vc qH.cells 2 S):=rfl
 rw [e,aqX (enc:=qH.cells) (sz:=2) (fun _=>rfl) (by omega),vC,if_pos rfl,BU hj]
 rfl
theorem atT {c:mT}{C:Hk.lT}{S:List qH}{n:Nat}{u v:Int}(h:S.length=n) (hj:0<n):mL 2 (c::Vc qH.cells 2 S::C) (.vptr 1 n 0) (.agg [.int .i64 u,.int .i64 v])=some (c::Vc qH.cells 2 (S.set 0 ⟨u,v⟩)::C):=by
 have:=azV (c:=c) (C:=C) (j:=0) (u:=u) (v:=v) h hj
 simpa using this
theorem atP {c:mT}{C:Hk.lT}{S:List qH}{n:Nat}(h:S.length=n) (hj:0<n):mF true 2 (c::Vc qH.cells 2 S::C) (.vptr 1 n 0)=some (.agg [.int .i64 (rt S 0).slot,.int .i64 (rt S 0).last]):=by
 have:=azS (c:=c) (C:=C) (j:=0) h hj
 simpa using this
section
variable {C:Hk.lT}(hC:Still C) {S:List qH}{n i:Nat}
include hC
theorem Kz {m:Nat}(hm:C.length+2=m) {D:Hk.lT}:o_ m (vD (C++D) S n)=some (vD C S n):=by
 have h1:(1:Nat)<m:=by omega
 have h2:pC m (vD (C++D) S n) C=some C:=hC _ _
 have e2:(vD (C++D) S n).take m=vD C S n:=by
  subst hm
  unfold vD
  simp
 rw [Hp,e2]
 have e:∀C,vD C S n=.cells [.vslice 1 S.length 0 n 2,.func 45 [] []]::Vc qH.cells 2 S::C:=fun _=>rfl
 simp only [e] at h2 ⊢
 simp [h1,h2]
theorem c45 (a b:qH):KK 45 [.agg a.cells,.agg b.cells] (vD C S n)=some (.ret (.bool (decide (a.last<b.last))),vD C S n):=by
 refine oN (anP _ _ _ _) ?_
 have hl:(vD C S n).length=C.length+2:=rfl
 have hf:nZ (vD C S n).length (.bool (decide (a.last<b.last))) (vD C S n++[.cells a.cells,.cells b.cells])=some (.ret (.bool (decide (a.last<b.last))),vD C S n):=by
  have ht:=Kz hC (S:=S) (n:=n) (m:=C.length+2) rfl (D:=[.cells a.cells,.cells b.cells])
  have e:vD C S n++[.cells a.cells,.cells b.cells]=vD (C++[.cells a.cells,.cells b.cells]) S n:=rfl
  rw [nZ,hl,e,ht];rfl
 generalize vD C S n=H at *
 have g1:∀x,(H++[x]:Hk.lT)[H.length]?=some x:=fun x=>by simp
 have g2:∀x y,(H++[x,y]:Hk.lT)[H.length]?=some x:=fun x y=>by simp
 have g3:∀x y,(H++[x,y]:Hk.lT)[H.length+1]?=some y:=fun x y=>by rw [List.getElem?_append_right (by omega)];simp
 simp [m45,mF,oX,g1,g2,g3,aw8]
 simpa using hf
theorem auK (a b:qH):rI nM KK 45 (pO nM 45 [.agg [.int .i64 a.slot,.int .i64 a.last],.agg [.int .i64 b.slot,.int .i64 b.last]]) (vD C S n)=some (.ret (.bool (decide (a.last<b.last))),vD C S n):=c45 hC a b
theorem ZN (hn:n≤S.length) (hn2:n≤1048576) (hi:i<n) (h0:0<i) :
  Dm KK (C.length+2) ([.ptr 0 0,.int .i64 (i:Int)],vD C S n)=(if (rt S i).last<(rt S ((i-1)/2)).last then some (.normal,[.ptr 0 0,.int .i64 (((i-1)/2:Nat):Int)],vD C ((S.set i (rt S ((i-1)/2))).set ((i-1)/2) (rt S i)) n) else some (.exit 0,[.ptr 0 0,.int .i64 (i:Int)],vD C S n)):=by
 have w1:IntKind.i64.wrap ((i:Int)-1)=((i-1:Nat):Int):=by rw [wrap64 (by omega) (by omega)];omega
 have q1:N3 .i64 ((i-1:Nat):Int) 2=some (((i-1)/2:Nat):Int):=by
  unfold N3
  rw [if_neg (by omega),Int.tdiv_eq_ediv_of_nonneg (by omega)]
  have:((i-1:Nat):Int)/2=(((i-1)/2:Nat):Int):=by omega
  rw [this,wrap64 (by omega) (by omega)]
 have hpn:(i-1)/2<n:=by omega
 have hil:i<S.length:=by omega
 have hpl:(i-1)/2<S.length:=by omega
 generalize hp:(i-1)/2=p at *
 have hc:=fun n=>auK hC (S:=S) (n:=n) (rt S i) (rt S p)
 have hC2:∀m h,pC m h C=some C:=hC
 simp only [vD] at hc
 by_cases hlt:(rt S i).last<(rt S p).last
 ·rw [if_pos hlt]
  simp [Dm,vD,w1,q1,h0,hi,hpn,hil,hpl,hc,hlt,hC2]
 ·rw [if_neg hlt]
  simp [Dm,vD,w1,q1,h0,hi,hpn,hil,hpl,hc,hlt,hC2]
theorem ZO:Dm KK (C.length+2) ([.ptr 0 0,.int .i64 0],vD C S n)=some (.exit 0,[.ptr 0 0,.int .i64 0],vD C S n):=by
 have hC2:∀m h,pC m h C=some C:=hC
 simp [Dm,vD,hC2]
end
end
section
open Go Hk
theorem KQ {S:List qH}{n i:Nat}(hn:n≤S.length) (hi:i<n):PQ.kg qH.last (S.take n) i=(rt S i).last:=by
 have:(S.take n)[i]?=some (rt S i):=by rw [List.getElem?_take_of_lt hi,BU (by omega)]
 rw [PQ.TP this]
theorem EP {S:List qH}{n i p:Nat}(hn:n≤S.length) (hi:i<n) (hp:p<n):((S.set i (rt S p)).set p (rt S i)).take n=PQ.sw (S.take n) i p:=by
 have h1:(S.take n)[i]?=some (rt S i):=by rw [List.getElem?_take_of_lt hi,BU (by omega)]
 have h2:(S.take n)[p]?=some (rt S p):=by rw [List.getElem?_take_of_lt hp,BU (by omega)]
 rw [PQ.Zt h1 h2,List.take_set,List.take_set]
theorem up2 {C:Hk.lT}(hC:Still C) {S:List qH}{n i:Nat}(hn:n≤S.length) (hn2:n≤1048576) (h:PQ.ZV qH.last (S.take n) i) :
  ∃r,nL (Dm KK (C.length+2)) ([.ptr 0 0,.int .i64 (i:Int)],vD C S n)=some r ∧
   ∃(j:Nat) (S':List qH),r=(.exit 0,[.ptr 0 0,.int .i64 (j:Int)],vD C S' n)∧S'.length=S.length∧PQ.lT qH.last (S'.take n)∧(S'.take n).Perm (S.take n):=by
 refine GZ (fun s:List qH×Nat=>([.ptr 0 0,.int .i64 (s.2:Int)],vD C s.1 n)) (fun s=>s.1.length=S.length∧PQ.ZV qH.last (s.1.take n) s.2∧(s.1.take n).Perm (S.take n)) (fun s=>s.2)
  (fun _ r=>∃(j:Nat) (S':List qH),r=(.exit 0,[.ptr 0 0,.int .i64 (j:Int)],vD C S' n)∧S'.length=S.length∧PQ.lT qH.last (S'.take n)∧(S'.take n).Perm (S.take n)) ?_ (S,i) ⟨rfl,h,List.Perm.refl _⟩
 rintro⟨T,j⟩ ⟨hl,hu,hp⟩
 simp only at hl hu hp ⊢
 have hj:j<n:=by have:=hu.1;rw [ar6] at this;omega
 rcases Nat.eq_zero_or_pos j with h0 | h0
 ·subst h0
  refine .inr ⟨_,ZO hC,by simp,0,T,rfl,hl,PQ.N6 hu (by omega),hp⟩
 ·have hs:=ZN hC (S:=T) (n:=n) (i:=j) (by omega) hn2 hj h0
  have hpn:(j-1)/2<n:=by omega
  by_cases hlt:(rt T j).last<(rt T ((j-1)/2)).last
  ·rw [if_pos hlt] at hs
   refine .inl ⟨(((T.set j (rt T ((j-1)/2))).set ((j-1)/2) (rt T j)),(j-1)/2),hs,⟨by simp [hl],?_,?_⟩,by simp only;omega,fun r hr=>hr⟩
   ·simp only
    rw [EP (by omega) hj hpn]
    exact PQ.Us hu h0 (by rw [KQ (by omega) hj,KQ (by omega) hpn];exact hlt)
   ·simp only
    rw [EP (by omega) hj hpn]
    exact PQ.Hj.trans hp
  ·rw [if_neg hlt] at hs
   exact .inr ⟨_,hs,by simp,j,T,rfl,hl,PQ.N6 hu (by rw [KQ (by omega) hj,KQ (by omega) hpn];omega),hp⟩
def CT (z x:qH):Hk.lT:=[.cells z.cells,.cells x.cells]
theorem Zq {z x:qH}:Still (CT z x):=fun m h=>by simp [CT]
section
variable {S:List qH}{n i:Nat}{x:qH}
theorem QM (hn : n ≤ S.length) (hn2 : S.length ≤ 1000000) (hi : i < n ∨ i = 0) :
    let k := if 2 * i + 2 < n ∧ (rt S (2 * i + 2)).last < (rt S (2 * i + 1)).last then 2 * i + 2 else 2 * i + 1
    zK KK 4 ([.ptr 0 0, .ptr 2 0, .ptr 3 0, .int .i64 (n : Int), .int .i64 (i : Int)], vD (CT ⟨0, 0⟩ x) S n) =
      (if n ≤ k ∨ ¬ (rt S k).last < (rt S i).last then some (.ret, [.ptr 0 0, .ptr 2 0, .ptr 3 0, .int .i64 (n : Int), .int .i64 (i : Int)], vD (CT x x) S n)
       else some (.normal, [.ptr 0 0, .ptr 2 0, .ptr 3 0, .int .i64 (n : Int), .int .i64 (k : Int)], vD (CT ⟨0, 0⟩ x) ((S.set i (rt S k)).set k (rt S i)) n)) := by
  intro k
  have w1 : IntKind.i64.wrap (2 * (i : Int)) = ((2 * i : Nat) : Int) := by rw [wrap64 (by omega) (by omega)]; omega
  have w2 : IntKind.i64.wrap (((2 * i : Nat) : Int) + 1) = ((2 * i + 1 : Nat) : Int) := by rw [wrap64 (by omega) (by omega)]; omega
  have w3 : IntKind.i64.wrap (((2 * i + 1 : Nat) : Int) + 1) = ((2 * i + 2 : Nat) : Int) := by rw [wrap64 (by omega) (by omega)]; omega
  have hc := fun a b => auK (Zq (z := ⟨0, 0⟩) (x := x)) (S := S) (n := n) a b
  simp only [vD, CT, qH.pW] at hc ⊢
  have rest : ∀ k : Nat, k = 2 * i + 1 ∨ k = 2 * i + 2 ∧ k < n → True := fun _ _ => trivial
  have hkd : k = if 2 * i + 2 < n ∧ (rt S (2 * i + 2)).last < (rt S (2 * i + 1)).last then 2 * i + 2 else 2 * i + 1 := rfl
  clear_value k
  generalize h1 : 2 * i + 1 = k1 at *
  generalize h2 : 2 * i + 2 = k2 at *
  generalize h0 : 2 * i = k0 at *
  by_cases c1 : k2 < n
  · have hk2 : k2 < S.length := by omega
    have hk1 : k1 < n := by omega
    have hk1l : k1 < S.length := by omega
    have hil : i < n := by omega
    have hill : i < S.length := by omega
    by_cases c2 : (rt S k2).last < (rt S k1).last
    · rw [if_pos ⟨c1, c2⟩] at hkd
      subst hkd
      have hnk : ¬ n ≤ k := by omega
      by_cases c3 : (rt S k).last < (rt S i).last
      · rw [if_neg (by intro h; rcases h with h | h; exact hnk h; exact h c3)]
        simp [zK, w1, w2, w3, c1, c2, c3, hk2, hk1, hk1l, hil, hill, hc, hnk]
      · rw [if_pos (.inr c3)]
        simp [zK, w1, w2, w3, c1, c2, c3, hk2, hk1, hk1l, hil, hill, hc, hnk]
    · rw [if_neg (fun h => c2 h.2)] at hkd
      subst hkd
      have hnk : ¬ n ≤ k := by omega
      by_cases c3 : (rt S k).last < (rt S i).last
      · rw [if_neg (by intro h; rcases h with h | h; exact hnk h; exact h c3)]
        simp [zK, w1, w2, w3, c1, c2, c3, hk2, hk1, hk1l, hil, hill, hc, hnk]
      · rw [if_pos (.inr c3)]
        simp [zK, w1, w2, w3, c1, c2, c3, hk2, hk1, hk1l, hil, hill, hc, hnk]
  · rw [if_neg (fun h => c1 h.1)] at hkd
    subst hkd
    by_cases c4 : n ≤ k
    · rw [if_pos (.inl c4)]
      simp [zK, w1, w2, w3, c1, c4]
    · have hkl : k < S.length := by omega
      have hkn : k < n := by omega
      have hil : i < n := by omega
      have hill : i < S.length := by omega
      by_cases c3 : (rt S k).last < (rt S i).last
      · rw [if_neg (by intro h; rcases h with h | h; exact c4 h; exact h c3)]
        simp [zK, w1, w2, w3, c1, c3, c4, hkl, hkn, hil, hill, hc]
      · rw [if_pos (.inr c3)]
        simp [zK, w1, w2, w3, c1, c3, c4, hkl, hkn, hil, hill, hc]
end
theorem auP {S:List qH}{n i:Nat}{x:qH}(hn:n≤S.length) (hn2:S.length≤1000000) (hi:i<n∨i=0) (h:PQ.DnI qH.last (S.take n) i) :
  ∃r,nL (zK KK 4) ([.ptr 0 0,.ptr 2 0,.ptr 3 0,.int .i64 (n:Int),.int .i64 (i:Int)],vD (CT ⟨0,0⟩ x) S n)=some r ∧
   ∃(j:Nat) (S':List qH),r=(.ret,[.ptr 0 0,.ptr 2 0,.ptr 3 0,.int .i64 (n:Int),.int .i64 (j:Int)],vD (CT x x) S' n)∧S'.length=S.length∧PQ.lT qH.last (S'.take n)∧(S'.take n).Perm (S.take n):=by
 refine GZ (fun s:List qH×Nat=>([.ptr 0 0,.ptr 2 0,.ptr 3 0,.int .i64 (n:Int),.int .i64 (s.2:Int)],vD (CT ⟨0,0⟩ x) s.1 n)) (fun s=>s.1.length=S.length∧(s.2<n∨s.2=0)∧PQ.DnI qH.last (s.1.take n) s.2∧(s.1.take n).Perm (S.take n)) (fun s=>n-s.2)
  (fun _ r=>∃(j:Nat) (S':List qH),r=(.ret,[.ptr 0 0,.ptr 2 0,.ptr 3 0,.int .i64 (n:Int),.int .i64 (j:Int)],vD (CT x x) S' n)∧S'.length=S.length∧PQ.lT qH.last (S'.take n)∧(S'.take n).Perm (S.take n)) ?_ (S,i) ⟨rfl,hi,h,List.Perm.refl _⟩
 rintro⟨T,j⟩ ⟨hl,hj,hu,hp⟩
 simp only at hl hj hu hp ⊢
 have hs:=QM (S:=T) (n:=n) (i:=j) (x:=x) (by omega) (by omega) hj
 simp only at hs
 have hlt:(T.take n).length=n:=by rw [ar6];omega
 have hkg:∀m,m<n→PQ.kg qH.last (T.take n) m=(rt T m).last:=fun m hm=>KQ (by omega) hm
 generalize hk:(if 2*j+2<n∧(rt T (2*j+2)).last<(rt T (2*j+1)).last then 2*j+2 else 2*j+1)=k at hs
 have hkmin:∀c,0<c→c<n→(c-1)/2=j→k<n∧(rt T k).last≤(rt T c).last:=by
  intro c c0 cn cj
  rcases (show c=2*j+1∨c=2*j+2 by omega) with rfl | rfl
  ·rw [←hk]
   split
   ·rename_i hc;exact⟨hc.1,by omega⟩
   ·exact⟨cn,Int.le_refl _⟩
  ·rw [←hk]
   split
   ·exact⟨cn,Int.le_refl _⟩
   ·rename_i hc
    exact⟨by omega,by by_cases h2:(rt T (2*j+2)).last<(rt T (2*j+1)).last;exact absurd ⟨cn,h2⟩ hc;omega⟩
 have hkj:(k-1)/2=j∧0<k∧j<k:=by rw [←hk];split <;> omega
 by_cases hc:n≤k∨¬(rt T k).last<(rt T j).last
 ·rw [if_pos hc] at hs
  refine .inr ⟨_,hs,by simp,j,T,rfl,hl,PQ.W6 hu fun c c0 cl cj=>?_,hp⟩
  rw [hlt] at cl
  obtain⟨h1,h2⟩:=hkmin c c0 cl cj
  rw [hkg _ (by omega),hkg _ cl]
  rcases hc with hc | hc <;> omega
 ·rw [if_neg hc] at hs
  have hkn:k<n:=by omega
  have hrd:(rt T k).last<(rt T j).last:=by
   by_cases h:(rt T k).last<(rt T j).last
   ·exact h
   ·exact absurd (.inr h) hc
  refine .inl ⟨((T.set j (rt T k)).set k (rt T j),k),hs,⟨by simp [hl],.inl hkn,?_,?_⟩,by simp only;omega,fun r hr=>hr⟩
  ·simp only
   rw [EP (by omega) (by omega) hkn]
   refine PQ.TL hu (by rw [hlt];omega) hkj.2.1 (by rw [hlt];exact hkn) hkj.1 (fun c c0 cl cj=>?_) ?_
   ·rw [hlt] at cl
    rw [hkg _ hkn,hkg _ cl];exact(hkmin c c0 cl cj).2
   ·rw [hkg _ hkn,hkg _ (by omega)];exact hrd
  ·simp only
   rw [EP (by omega) (by omega) hkn]
   exact PQ.Hj.trans hp
end
section
open Go Hk
def HQn (S:List qH) (n:Nat):Hk.lT:=if S=[] then [.cells [.slice [] (.own 1),.func 45 [] []],.front 0 0] else vD [] S n
theorem Zp {x:qH}:Still [.cells x.cells,.front 1 2]:=fun m h=>by simp
theorem aAG {S:List qH}{n:Nat}(x:qH) (hn:n≤S.length) (hl:S.length≤1000000) (hh:PQ.lT qH.last (S.take n)) :
  ∃S',m49 KK (.ptr 0 0) (.agg x.cells) (HQn S n)=some (.ret (.tuple []),vD [] S' (n+1))∧n+1≤S'.length∧S'.length≤max S.length (n+1)∧PQ.lT qH.last (S'.take (n+1))∧(S'.take (n+1)).Perm (x::S.take n):=by
 let T:=S.take n++[x]++S.drop (n+1)
 have hT:T=S.take n++[x]++S.drop (n+1):=rfl
 have hTl:T.length=max S.length (n+1):=by rw [hT];simp;omega
 have hTt:T.take (n+1)=S.take n++[x]:=by
  rw [hT]
  have:(S.take n++[x]).length=n+1:=by simp;omega
  rw [←this,List.take_left]
 have hup:PQ.ZV qH.last (T.take (n+1)) n:=by
  rw [hTt]
  have:=PQ.Ur (key:=qH.last) (x:=x) hh
  rwa [show(S.take n).length=n by simp;omega] at this
 obtain⟨r,hr,j,S',rfl,h1,h2,h3⟩:=up2 (C:=[.cells x.cells,.front 1 2]) Zp (by omega) (by omega) hup
 refine⟨S',?_,by omega,by omega,h2,h3.trans ?_⟩
 ·have hfin:o_ 2 (vD [.cells x.cells,.front 1 2] S' (n+1))=some (vD [] S' (n+1)):=by
   rw [Hp]
   simp [vD]
  have hdn:T.drop (n+1)=S.drop (n+1):=by
   rw [hT]
   have:(S.take n++[x]).length=n+1:=by simp;omega
   rw [←this,List.drop_left]
  by_cases h0:S=[]
  ·subst h0
   have hn0:n=0:=by simpa using hn
   subst hn0
   have hT1:T=[x]:=rfl
   rw [hT1] at hr
   have e1:vD [.cells x.cells,.front 1 2] [x] 1=[.cells [.vslice 1 1 0 1 2,.func 45 [] []],.vec 1 2 [.int .i64 x.slot,.int .i64 x.last],.cells [.int .i64 x.slot,.int .i64 x.last],.front 1 2]:=rfl
   have wz:IntKind.i64.wrap 0=0:=by decide
   have n0:((0:Nat):Int)=0:=rfl
   rw [av7,e1,n0] at hr
   simp only [vD,qH.pW,ar8,ay5,Nat.reduceAdd] at hr ⊢
   simp only [HQn,if_true]
   simp [m49,mX,xR,rZ,oD,uM,rR,mD,rX,oM,lS.Bc,rowsOf,oY,wz]
   simp [hr]
  ·simp only [HQn,h0,if_false]
   have ha:=HD (enc:=qH.cells) (sz:=2) (by_:=16) (h:=vD [] S n++[.cells x.cells,.front 1 2]) (id:=1) (tot:=S.length) (n:=n) (xs:=S) (ys:=[x]) (T:=.own 3) (fun _=>rfl) (by omega) rfl hn (by simp)
   have hva:tva 16 S.length n S [x]=some T:=by
    unfold tva
    rw [if_pos ⟨rfl,hn,by simp;omega,by simp;omega⟩]
    rfl
   rw [hva,pH] at ha
   have eR:Rw qH.cells [x]=[[.int .i64 x.slot,.int .i64 x.last]]:=rfl
   have eH:(vD [] S n++[.cells x.cells,.front 1 2]:Hk.lT).set 1 (Vc qH.cells 2 T)=[.cells [.vslice 1 S.length 0 n 2,.func 45 [] []],Vc qH.cells 2 T,.cells [.int .i64 x.slot,.int .i64 x.last],.front 1 2]:=rfl
   have eH2:(vD [] S n++[.cells x.cells,.front 1 2]:Hk.lT)=[.cells [.vslice 1 S.length 0 n 2,.func 45 [] []],Vc qH.cells 2 S,.cells [.int .i64 x.slot,.int .i64 x.last],.front 1 2]:=rfl
   rw [eH,eH2,eR] at ha
   have w1:IntKind.i64.wrap (n:Int)=(n:Int):=by rw [wrap64 (by omega) (by omega)]
   simp only [vD,qH.pW,ar8,ay5,Nat.reduceAdd] at hr ha ⊢
   simp [m49,mX,xR,rZ,oD,uM,rR,mD,rX,oM,lS.Bc,rowsOf]
   rw [ha]
   simp [w1]
   simp [hr]
 ·rw [hTt]
  exact List.perm_append_comm
theorem aAE {S:List qH}{n:Nat}(hn:n+1≤S.length) (hl:S.length≤1000000) (hh:PQ.lT qH.last (S.take (n+1))) :
  ∃S',m47 KK (.ptr 0 0) (vD [] S (n+1))=some (.ret (.agg (rt S 0).cells),vD [] S' n)∧S'.length=S.length∧PQ.lT qH.last (S'.take n)∧(rt S 0::S'.take n).Perm (S.take (n+1)):=by
 have hpop:PQ.pop (S.take (n+1))=(S.set 0 (rt S n)).take n:=by
  have e:(S.take (n+1)).length=n+1:=by rw [ar6];omega
  rw [PQ.Y5 (y:=rt S n) (by intro h;rw [h] at e;simp at e) (by rw [e,Nat.add_sub_cancel,List.getElem?_take_of_lt (by omega),BU (by omega)]),e,Nat.add_sub_cancel]
  rw [List.take_set,List.take_take,List.take_set]
  congr 1
  congr 1
  omega
 have hdn:=PQ.Y4 hh
 rw [hpop] at hdn
 obtain⟨r,hr,j,S',rfl,h1,h2,h3⟩:=auP (S:=S.set 0 (rt S n)) (n:=n) (i:=0) (x:=rt S 0) (by simp;omega) (by simpa using hl) (.inr rfl) hdn
 refine⟨S',?_,by simpa using h1,h2,?_⟩
 ·have hfin:o_ 2 (vD (CT (rt S 0) (rt S 0)) S' n)=some (vD [] S' n):=Kz (C:=[]) (fun _ _=>rfl) rfl
  have w1:IntKind.i64.wrap (((n+1:Nat):Int)-1)=(n:Int):=by rw [wrap64 (by omega) (by omega)];omega
  have n0:((0:Nat):Int)=0:=rfl
  have h0l:0<S.length:=by omega
  have hnl:n<S.length:=by omega
  simp only [vD,CT,qH.pW,n0,List.length_set] at hr hfin ⊢
  have w2:IntKind.i64.wrap (n:Int)=(n:Int):=by rw [wrap64 (by omega) (by omega)]
  have t0:DF (n+1) 0=some 0:=by unfold DF;rw [if_pos (by omega)];rfl
  have hsl:pF 2 (.vslice 1 S.length 0 (n+1) 2) none (some (.int .i64 (n:Int)))=some (.vslice 1 S.length 0 n 2):=by
   simp [pF,pZ]
  have l0:∀(c:mT) C,mF true 2 (c::Vc qH.cells 2 S::C) (.vptr 1 S.length 0)=some (.agg [.int .i64 (rt S 0).slot,.int .i64 (rt S 0).last]):=fun c C=>atP rfl h0l
  have s0:∀(c:mT) C u v,mL 2 (c::Vc qH.cells 2 S::C) (.vptr 1 S.length 0) (.agg [.int .i64 u,.int .i64 v])=some (c::Vc qH.cells 2 (S.set 0 ⟨u,v⟩)::C):=fun c C u v=>atT rfl h0l
  have eta:∀y:qH,(⟨y.slot,y.last⟩:qH)=y:=fun _=>rfl
  simp [m47,w2,t0,h0l,hnl,hsl,l0,s0,eta]
  simp [hr]
 ·have hne:∃y r,S.take (n+1)=y::r:=by
   cases S with
   | nil=>simp at hn
   | cons y r=>exact⟨y,r.take n,rfl⟩
  obtain⟨y,r,hyr⟩:=hne
  have hy:y=rt S 0:=by
   have:(S.take (n+1))[0]?=some y:=by rw [hyr];rfl
   rw [List.getElem?_take_of_lt (by omega),BU (by omega)] at this
   exact(Option.some.inj this).symm
  have:=PQ.Ps (x:=y) (r:=r)
  rw [←hyr,hpop,hy] at this
  exact(List.Perm.cons _ h3).trans this
end
section
open Go Hk
def FC (id:Nat) (S:List Int) (n:Nat):mT:=if S=[] then .cells [.slice [] (.own id),.func 44 [] []] else .cells [.vslice id S.length 0 n 1,.func 44 [] []]
def FV (S:List Int):mT:=if S=[] then .front 0 0 else Vc (ci .i64) 1 S
def UC (id:Nat) (S:List qH) (n:Nat):mT:=if S=[] then .cells [.slice [] (.own id),.func 45 [] []] else .cells [.vslice id S.length 0 n 2,.func 45 [] []]
def UV (S:List qH):mT:=if S=[] then .front 0 0 else Vc qH.cells 2 S
theorem Wl (S:List Int) (n:Nat):HPn S n=[FC 1 S n,FV S]:=by unfold HPn FC FV;split <;> rfl
theorem Wm (S:List qH) (n:Nat):HQn S n=[UC 1 S n,UV S]:=by unfold HQn UC UV;split <;> rfl
theorem Qq {S:List Int}{n:Nat}(h:S≠[]):vB [] S n=[FC 1 S n,FV S]:=by rw [←Wl,HPn,if_neg h]
theorem Qr {S:List qH}{n:Nat}(h:S≠[]):vD [] S n=[UC 1 S n,UV S]:=by rw [←Wm,HQn,if_neg h]
section
variable {id:Nat}{S:List Int}{U:List qH}{n:Nat}
theorem Tm:(FC id S n).refs=[id]:=by unfold FC;split <;> rfl
theorem Tu:(UC id U n).refs=[id]:=by unfold UC;split <;> rfl
theorem To:(FV S).refs=[]:=by
 unfold FV;split
 ·rfl
 ·exact NF (fun _=>rfl)
theorem Tw:(UV U).refs=[]:=by
 unfold UV;split
 ·rfl
 ·exact NF (fun _=>rfl)
theorem Tl {p:Nat→Bool}(h:p id=true):(FC id S n).ok p=true:=by unfold FC;split <;> simp [mT.ok,lS.JV,uS,h]
theorem Tt {p:Nat→Bool}(h:p id=true):(UC id U n).ok p=true:=by unfold UC;split <;> simp [mT.ok,lS.JV,uS,h]
theorem Tn {p:Nat→Bool}:(FV S).ok p=true:=by
 unfold FV;split
 ·rfl
 ·exact YU (fun _=>rfl)
theorem Tv {p:Nat→Bool}:(UV U).ok p=true:=by
 unfold UV;split
 ·rfl
 ·exact YU (fun _=>rfl)
theorem LG {f:Nat→Nat}:(FC id S n).vH f=FC (f id) S n:=by unfold FC;split <;> rfl
theorem LK {f:Nat→Nat}:(UC id U n).vH f=UC (f id) U n:=by unfold UC;split <;> rfl
theorem LH {f:Nat→Nat}:(FV S).vH f=FV S:=by
 unfold FV;split
 ·rfl
 ·exact SM (fun _=>rfl)
theorem LL {f:Nat→Nat}:(UV U).vH f=UV U:=by
 unfold UV;split
 ·rfl
 ·exact SM (fun _=>rfl)
end
section
variable {b0 b1 b2 b3 b4 b5 b8 b9:mT}{S:List Int}{U:List qH}{n:Nat}
theorem c46 (x:Int) (hn:n≤S.length) (hl:S.length≤1000000) (hh:PQ.lT (fun x=>x) (S.take n)) :
  ∃S',KK 46 [.ptr 6 0,.int .i64 x] [b0,b1,b2,b3,b4,b5,FC 7 S n,FV S,b8,b9]=some (.ret (.tuple []),[b0,b1,b2,b3,b4,b5,FC 7 S' (n+1),FV S',b8,b9]) ∧
   n+1≤S'.length∧S'.length≤max S.length (n+1)∧PQ.lT (fun x=>x) (S'.take (n+1))∧(S'.take (n+1)).Perm (x::S.take n):=by
 obtain⟨S',h1,h2,h3⟩:=aAD x hn hl hh
 refine⟨S',?_,h2,h3⟩
 rw [Wl,Qq (by intro h;rw [h] at h2;simp at h2)] at h1
 have:=yA (P:=Tryz.prog) (A:=nM) (f:=46) (args:=[.ptr 6 0,.int .i64 x]) (args':=[.ptr 0 0,.int .i64 x]) (h:=[b0,b1,b2,b3,b4,b5,FC 7 S n,FV S,b8,b9]) (hs:=[FC 1 S n,FV S]) (ids:=[6,7]) (x:=some ()) (v:=fun _=>.tuple []) (v':=fun _=>.tuple [])
  (h1:=fun _=>[FC 1 S' (n+1),FV S']) (h2:=fun _=>[b0,b1,b2,b3,b4,b5,FC 7 S' (n+1),FV S',b8,b9]) rfl rfl ?_ ?_ rfl ?_ (anQ ..) h1 fun _=>?_
 ·exact this
 ·simp [Tm,To]
 ·simp [Tl,Tn]
 ·simp [LG,LH]
 ·simp [Tl,Tn,LG,LH]
theorem c48 (hn:n+1≤S.length) (hl:S.length≤1000000) (hh:PQ.lT (fun x=>x) (S.take (n+1))) :
  ∃S',KK 48 [.ptr 6 0] [b0,b1,b2,b3,b4,b5,FC 7 S (n+1),FV S,b8,b9]=some (.ret (.int .i64 (rd S 0)),[b0,b1,b2,b3,b4,b5,FC 7 S' n,FV S',b8,b9]) ∧
   S'.length=S.length∧PQ.lT (fun x=>x) (S'.take n)∧(rd S 0::S'.take n).Perm (S.take (n+1)):=by
 obtain⟨S',h1,h2,h3⟩:=aAF hn hl hh
 refine⟨S',?_,h2,h3⟩
 rw [Qq (by intro h;rw [h] at hn;simp at hn),Qq (by intro h;rw [h] at h2;simp at h2;omega)] at h1
 have:=yA (P:=Tryz.prog) (A:=nM) (f:=48) (args:=[.ptr 6 0]) (args':=[.ptr 0 0]) (h:=[b0,b1,b2,b3,b4,b5,FC 7 S (n+1),FV S,b8,b9]) (hs:=[FC 1 S (n+1),FV S]) (ids:=[6,7]) (x:=some ()) (v:=fun _=>.int .i64 (rd S 0)) (v':=fun _=>.int .i64 (rd S 0))
  (h1:=fun _=>[FC 1 S' n,FV S']) (h2:=fun _=>[b0,b1,b2,b3,b4,b5,FC 7 S' n,FV S',b8,b9]) rfl rfl ?_ ?_ rfl ?_ (anS ..) h1 fun _=>?_
 ·exact this
 ·simp [Tm,To]
 ·simp [Tl,Tn]
 ·simp [LG,LH]
 ·simp [Tl,Tn,LG,LH]
theorem c49 (x:qH) (hn:n≤U.length) (hl:U.length≤1000000) (hh:PQ.lT qH.last (U.take n)) :
  ∃S',KK 49 [.ptr 8 0,.agg [.int .i64 x.slot,.int .i64 x.last]] [b0,b1,b2,b3,b4,b5,b8,b9,UC 9 U n,UV U]=some (.ret (.tuple []),[b0,b1,b2,b3,b4,b5,b8,b9,UC 9 S' (n+1),UV S']) ∧
   n+1≤S'.length∧S'.length≤max U.length (n+1)∧PQ.lT qH.last (S'.take (n+1))∧(S'.take (n+1)).Perm (x::U.take n):=by
 obtain⟨S',h1,h2,h3⟩:=aAG x hn hl hh
 refine⟨S',?_,h2,h3⟩
 rw [Wm,Qr (by intro h;rw [h] at h2;simp at h2)] at h1
 have:=yA (P:=Tryz.prog) (A:=nM) (f:=49) (args:=[.ptr 8 0,.agg [.int .i64 x.slot,.int .i64 x.last]]) (args':=[.ptr 0 0,.agg x.cells]) (h:=[b0,b1,b2,b3,b4,b5,b8,b9,UC 9 U n,UV U]) (hs:=[UC 1 U n,UV U]) (ids:=[8,9]) (x:=some ()) (v:=fun _=>.tuple []) (v':=fun _=>.tuple [])
  (h1:=fun _=>[UC 1 S' (n+1),UV S']) (h2:=fun _=>[b0,b1,b2,b3,b4,b5,b8,b9,UC 9 S' (n+1),UV S']) rfl rfl ?_ ?_ rfl ?_ (anT ..) h1 fun _=>?_
 ·exact this
 ·simp [Tu,Tw]
 ·simp [Tt,Tv]
 ·simp [LK,LL]
 ·simp [Tt,Tv,LK,LL]
theorem c47 (hn:n+1≤U.length) (hl:U.length≤1000000) (hh:PQ.lT qH.last (U.take (n+1))) :
  ∃S',KK 47 [.ptr 8 0] [b0,b1,b2,b3,b4,b5,b8,b9,UC 9 U (n+1),UV U]=some (.ret (.agg [.int .i64 (rt U 0).slot,.int .i64 (rt U 0).last]),[b0,b1,b2,b3,b4,b5,b8,b9,UC 9 S' n,UV S']) ∧
   S'.length=U.length∧PQ.lT qH.last (S'.take n)∧(rt U 0::S'.take n).Perm (U.take (n+1)):=by
 obtain⟨S',h1,h2,h3⟩:=aAE hn hl hh
 refine⟨S',?_,h2,h3⟩
 rw [Qr (by intro h;rw [h] at hn;simp at hn),Qr (by intro h;rw [h] at h2;simp at h2;omega)] at h1
 have:=yA (P:=Tryz.prog) (A:=nM) (f:=47) (args:=[.ptr 8 0]) (args':=[.ptr 0 0]) (h:=[b0,b1,b2,b3,b4,b5,b8,b9,UC 9 U (n+1),UV U]) (hs:=[UC 1 U (n+1),UV U]) (ids:=[8,9]) (x:=some ()) (v:=fun _=>.agg (rt U 0).cells) (v':=fun _=>.agg (rt U 0).cells)
  (h1:=fun _=>[UC 1 S' n,UV S']) (h2:=fun _=>[b0,b1,b2,b3,b4,b5,b8,b9,UC 9 S' n,UV S']) rfl rfl ?_ ?_ rfl ?_ (anR ..) h1 fun _=>?_
 ·exact this
 ·simp [Tu,Tw]
 ·simp [Tt,Tv]
 ·simp [LK,LL]
 ·simp [Tt,Tv,LK,LL]
end
end
section
open Go Hk
def sB (sp:List Span) (k:Nat):List Int:=((ar9 k).filter fun t=>decide (0≤((sp[t]?).map (·.first)).getD (-1))).map Int.ofNat
def sX (n k:Nat):List Int:=ak7 k (-1)++ak7 (n-k) 0
theorem Vv {sp:List Span}{k:Nat}{s:Span}(h:sp[k]?=some s):sB sp (k+1)=if 0≤s.first then sB sp k++[(k:Int)] else sB sp k:=by
 unfold sB
 rw [List.range_succ,List.filter_append,List.map_append]
 by_cases hf:0≤s.first <;> simp [h,hf]
theorem Nq {sp:List Span}{k:Nat}:(sB sp k).length≤k:=by
 unfold sB
 rw [au7]
 have:=List.length_filter_le (fun t=>decide (0≤((sp[t]?).map (·.first)).getD (-1))) (ar9 k)
 simpa using this
theorem Sw {n k:Nat}(h:k<n):(sX n k).set k (-1)=sX n (k+1):=by
 unfold sX
 have e:n-k=(n-(k+1))+1:=by omega
 rw [List.set_append_right _ _ (by simp),List.length_replicate,Nat.sub_self,e,List.replicate_succ,List.set_cons_zero,List.replicate_succ',aw8]
 rfl
@[simp high] theorem azW {b0 b1 b2 b3:mT}{R:Hk.lT}{O:List Int}{k:Nat}{v:Int}(hk:k<O.length):mL 1 (b0::b1::b2::b3::.cells (O.map n_)::R) (.ptr 4 k) (.int .i64 v)=some (b0::b1::b2::b3::.cells ((O.set k v).map n_)::R):=by
 have hc:∃x,O[k]?=some x:=⟨_,ag8 hk⟩
 have hd:∃y r,(O.map n_).drop k=y::r∧tL (b0::b1::b2::b3::.cells (O.map n_)::R) y (.int .i64 v)=.int .i64 v:=by
  rw [List.drop_eq_getElem_cons (by simpa using hk)]
  exact⟨_,_,rfl,rfl⟩
 obtain⟨y,r,hd,hk2⟩:=hd
 have e:qS (b0::b1::b2::b3::.cells (O.map n_)::R) ((O.map n_).drop k) [.int .i64 v]=[.int .i64 v]:=by
  rw [hd];simp only [qS,hk2]
 have g:oX (b0::b1::b2::b3::.cells (O.map n_)::R) 4=some (O.map n_):=rfl
 unfold mL
 simp only [g,lS.cells,e]
 rw [if_pos (by simp [lS.mZ];omega)]
 congr 1
 have:putCells (O.map n_) k [.int .i64 v]=(O.set k v).map n_:=by
  unfold putCells
  rw [List.map_set,List.set_eq_take_append_cons_drop,if_pos (by simpa using hk)]
  simp [n_]
 rw [this];rfl
@[simp high] theorem azT {b0 b1 b2 b3:mT}{R:Hk.lT}{O:List Int}{k:Nat}(hk:k<O.length):mF false 1 (b0::b1::b2::b3::.cells (O.map n_)::R) (.ptr 4 k)=some (.int .i64 (rd O k)):=by
 have g:oX (b0::b1::b2::b3::.cells (O.map n_)::R) 4=some (O.map n_):=rfl
 unfold mF
 simp only [g,apart,cond_false,ak4,AN hk]
 rfl
theorem Qv {id sz n:Nat}(h:n≠0):Vs id sz n=.vslice id n 0 n sz:=if_neg h
theorem LM {α:Type}{enc:α→List lS}{sz:Nat}{xs:List α}(h:xs.length≠0):Vb enc sz xs=Vc enc sz xs:=if_neg h
theorem aA3 {H:Hk.lT}{id:Nat}{o:List Int}{k:Int}{T:Hk.Tok}(hb:H[id]?=some (Vb (ci .i64) 1 o)) (ho:o.length≤1000000) :
  oY 1 8 H (Vs id 1 o.length) (.slice [[.int .i64 k]] T)=some (Vs id 1 (o++[k]).length,H.set id (Vb (ci .i64) 1 (o++[k]))):=by
 have h:=Qx (enc:=ci .i64) (sz:=1) (by_:=8) (id:=id) (h:=H) (xs:=o) (ys:=[k]) (T:=T) (fun _=>rfl) (by simp) hb
 have e:pD 8 o [k]=some (o++[k]):=by unfold pD;rw [if_pos (by simp;omega)]
 rw [e,pH] at h
 have n0:(o++[k]).length≠0:=by simp
 rw [Qv n0,LM n0]
 exact h
@[simp] theorem asT {m:Nat}{h:Hk.lT}{o:List Int}:pX m h (Vb (ci .i64) 1 o)=some (Vb (ci .i64) 1 o):=by
 unfold Vb;split
 ·rfl
 ·exact FF (fun x=>by simp)
@[simp] theorem ayY {m n:Nat}{h:Hk.lT}(hm:5<m):lS.qJ m h (Vs 5 1 n)=Vs 5 1 n:=by
 unfold Vs;split
 ·simp [lS.qJ,lS.oL,hm]
 ·simp [lS.qJ,lS.oL,hm]
@[simp] theorem aaE {m:Nat}{h:Hk.lT}{O:List Int}:nQ m h (O.map n_)=some (O.map n_):=by
 induction O with
 | nil=>rfl
 | cons x r ih=>simp only [as6,pY,ih];rfl
@[simp] theorem aBQ {m id off len sz:Nat}{h:Hk.lT}(hm:id<m):lS.qJ m h (.mslice id off len sz)=.mslice id off len sz:=by simp [lS.qJ,lS.oL,hm]
section
variable {p:List lS}{sp:List Span}{n k:Nat}
def KA (p:List lS) (sp:List Span) (O o:List Int):Hk.lT:=[.cells p,.front 0 0,.cells [.slice (Rw Span.cells sp) .no],.front 0 0,.cells (O.map n_),Vb (ci .i64) 1 o]
theorem ac0 (hp:∀m h,nQ m h p=some p) (hn:sp.length=n) (hn2:n≤1000000) (hk:k<n) :
  BD KK 6 ([.slice [] (.own 1),.int .i64 0,.int .i64 0,.ptr 2 0,.mslice 4 0 n 1,Vs 5 1 (sB sp k).length,.slice (Rw Span.cells sp) .no,.int .i64 (n:Int),.int .i64 (k:Int)],KA p sp (sX n k) (sB sp k)) =
   some (.normal,[.slice [] (.own 1),.int .i64 0,.int .i64 0,.ptr 2 0,.mslice 4 0 n 1,Vs 5 1 (sB sp (k+1)).length,.slice (Rw Span.cells sp) .no,.int .i64 (n:Int),.int .i64 ((k+1:Nat):Int)],KA p sp (sX n (k+1)) (sB sp (k+1))):=by
 have hsk:sp[k]?=some sp[k]:=ag8 (by omega)
 have e1:o8 sp (k:Int)=some sp[k]:=by simp [o8,hsk]
 have w1:IntKind.i64.wrap ((k:Int)+1)=((k+1:Nat):Int):=by rw [wrap64 (by omega) (by omega)];omega
 have hol:k<(sX n k).length:=by unfold sX;simp;omega
 have hset:=Sw hk
 have hord:=Vv hsk
 have hle:=Nq (sp:=sp) (k:=k)
 have htap:pD 8 (sB sp k) [(k:Int)]=some (sB sp k++[(k:Int)]):=by
  unfold pD;rw [if_pos (by simp;omega)]
 have hix:mI 1 (.mslice 4 0 n 1) (.int .i64 (k:Int))=some (.ptr 4 k):=by simp [mI,hk]
 generalize sX n k=O at *
 generalize sB sp k=o at *
 rw [hord]
 rw [←hset]
 have bx:∀(b0 b1 b2 b3 b4 b5:mT) x y,mL 2 [b0,b1,b2,b3,b4,b5,.cells [.int .i64 0,.int .i64 0]] (.ptr 6 0) (.agg [.int .i64 x,.int .i64 y])=some [b0,b1,b2,b3,b4,b5,.cells [.int .i64 x,.int .i64 y]]:=fun _ _ _ _ _ _ _ _=>rfl
 by_cases hf:0≤sp[k].first
 ·have ha:=fun H T h=>aA3 (H:=H) (id:=5) (o:=o) (k:=(k:Int)) (T:=T) h (by omega)
  simp [BD,KA,e1,w1,hk,hol,hf,hp,hix,mD,rX,oM,lS.Bc,rowsOf,ha,bx,-s4,-List.map_set]
 ·simp [BD,KA,e1,w1,hk,hol,hf,hp,hix,bx,-s4,-List.map_set]
end
end
section
open Go Hk
def UH (id:Nat) (S:List qH) (n:Nat):lS:=if S=[] then .slice [] (.own id) else .vslice id S.length 0 n 2
def FH (id:Nat) (S:List Int) (n:Nat):lS:=if S=[] then .slice [] (.own id) else .vslice id S.length 0 n 1
section
variable {id m:Nat}{S:List Int}{U:List qH}{n:Nat}{h:Hk.lT}
theorem Wy:UC id U n=.cells [UH id U n,.func 45 [] []]:=by unfold UC UH;split <;> rfl
theorem agS:FC id S n=.cells [FH id S n,.func 44 [] []]:=by unfold FC FH;split <;> rfl
theorem WA (hn:n≤U.length):nK (UH id U n)=some (.int .i64 (n:Int)):=by
 unfold UH;split
 ·rename_i h;subst h
  have:n=0:=by simpa using hn
  subst this;rfl
 ·rfl
theorem ajG (hn:n≤S.length):nK (FH id S n)=some (.int .i64 (n:Int)):=by
 unfold FH;split
 ·rename_i h;subst h
  have:n=0:=by simpa using hn
  subst this;rfl
 ·rfl
theorem Wz (h0:0<n) (hn:n≤U.length):mI 2 (UH id U n) (.int .i64 0)=some (.vptr id U.length 0):=by
 have hne:U≠[]:=by intro e;subst e;simp at hn;omega
 rw [UH,if_neg hne]
 simp only [mI]
 rw [if_pos ⟨by omega,by omega,trivial⟩];rfl
theorem VG (hm:id<m):pX m h (FC id S n)=some (FC id S n):=by
 rw [agS];unfold FH;split <;> simp [hm,lS.mZ]
theorem VH (hm:id<m):pX m h (UC id U n)=some (UC id U n):=by
 rw [Wy];unfold UH;split <;> simp [hm,lS.mZ]
@[simp] theorem asR:pX m h (FV S)=some (FV S):=by
 unfold FV;split
 ·rfl
 ·exact FF (fun x=>by simp)
@[simp] theorem asS:pX m h (UV U)=some (UV U):=by
 unfold UV;split
 ·rfl
 ·exact FF (fun x=>by simp)
end
def HS (p:List lS) (sp:List Span) (O o:List Int) (SF:List Int) (nF:Nat) (SU:List qH) (nU:Nat):Hk.lT :=
 [.cells p,.front 0 0,.cells [.slice (Rw Span.cells sp) .no],.front 0 0,.cells (O.map n_),Vb (ci .i64) 1 o,FC 7 SF nF,FV SF,UC 9 SU nU,UV SU]
theorem DH {p:List lS}(hp:∀m h,nQ m h p=some p) {sp:List Span}{O o SF:List Int}{nF nU:Nat}{SU:List qH}:pC 10 (HS p sp O o SF nF SU nU) ((HS p sp O o SF nF SU nU).take 10)=some (HS p sp O o SF nF SU nU):=by
 have e:(HS p sp O o SF nF SU nU).take 10=HS p sp O o SF nF SU nU:=rfl
 rw [e]
 generalize hH:HS p sp O o SF nF SU nU=H
 conv=>lhs;rw [←hH]
 rw [←hH]
 simp [HS,hp,VG,VH,-List.map_set]
section
variable {p:List lS}(hp:∀m h,nQ m h p=some p) {sp:List Span}{O o SF:List Int}{nF nU N t k ns:Nat}{SU:List qH}{s:Span}
include hp
theorem TQ (hs:sp[t]?=some s) (hU:nU≤SU.length) (h:nU=0∨0<nU∧¬(rt SU 0).last<s.first) :
  Dk KK 10 ([.slice [] (.own 1),.int .i64 0,.int .i64 0,.ptr 2 0,.mslice 4 0 N 1,.ptr 6 0,.ptr 8 0,.int .i64 (ns:Int),.int .i64 (t:Int),Vs 5 1 o.length,.int .i64 (o.length:Int),.int .i64 (k:Int)],HS p sp O o SF nF SU nU) =
   some (.exit 4,[.slice [] (.own 1),.int .i64 0,.int .i64 0,.ptr 2 0,.mslice 4 0 N 1,.ptr 6 0,.ptr 8 0,.int .i64 (ns:Int),.int .i64 (t:Int),Vs 5 1 o.length,.int .i64 (o.length:Int),.int .i64 (k:Int)],HS p sp O o SF nF SU nU):=by
 have hl:=WA (id:=9) hU
 have ht:=DH hp (sp:=sp) (O:=O) (o:=o) (SF:=SF) (nF:=nF) (SU:=SU) (nU:=nU)
 have l8:mF false 1 (HS p sp O o SF nF SU nU) (.ptr 8 0)=some (UH 9 SU nU):=by simp [HS,Wy]
 have l2:mF false 1 (HS p sp O o SF nF SU nU) (.ptr 2 0)=some (.slice (Rw Span.cells sp) .no):=by simp [HS]
 have hlen:(HS p sp O o SF nF SU nU).length=10:=rfl
 have e1:o8 sp (t:Int)=some s:=by simp [o8,hs]
 rcases h with h0 | ⟨h0,hlt⟩
 ·generalize HS p sp O o SF nF SU nU=H at *
  subst h0
  simp [Dk,l8,hl,ht]
 ·have hne:SU≠[]:=by intro e;subst e;simp at hU;omega
  have hi:=Wz (id:=9) h0 hU
  have ld:mF false 1 (HS p sp O o SF nF SU nU) (.vptr 9 SU.length 1)=some (.int .i64 (rt SU 0).last):=by
   have e9:(HS p sp O o SF nF SU nU)[9]?=some (Vc qH.cells 2 SU):=by unfold HS UV;rw [if_neg hne];rfl
   have:=DN (enc:=qH.cells) (sz:=2) (h:=HS p sp O o SF nF SU nU) (id:=9) (xs:=SU) (tot:=SU.length) (j:=0) (off:=1) (fun _=>rfl) e9 (by omega)
   rw [Nat.zero_mul,av7,vC,if_pos rfl,BU (List.length_pos_iff.2 hne)] at this
   exact this
  generalize HS p sp O o SF nF SU nU=H at *
  have hz:(0:Int)<(nU:Int):=by omega
  simp [Dk,l8,l2,hl,ht,h0,hi,ld,e1,hlt,-q_,-v_]
theorem ac2 (hs:sp[t]?=some s) (hU:nU+1≤SU.length) (hUl:SU.length≤1000000) (hUh:PQ.lT qH.last (SU.take (nU+1))) (hF:nF≤SF.length) (hFl:SF.length≤1000000) (hFh:PQ.lT (fun x=>x) (SF.take nF)) (h:(rt SU 0).last<s.first) :
  ∃SF' SU',Dk KK 10 ([.slice [] (.own 1),.int .i64 0,.int .i64 0,.ptr 2 0,.mslice 4 0 N 1,.ptr 6 0,.ptr 8 0,.int .i64 (ns:Int),.int .i64 (t:Int),Vs 5 1 o.length,.int .i64 (o.length:Int),.int .i64 (k:Int)],HS p sp O o SF nF SU (nU+1)) =
   some (.normal,[.slice [] (.own 1),.int .i64 0,.int .i64 0,.ptr 2 0,.mslice 4 0 N 1,.ptr 6 0,.ptr 8 0,.int .i64 (ns:Int),.int .i64 (t:Int),Vs 5 1 o.length,.int .i64 (o.length:Int),.int .i64 (k:Int)],HS p sp O o SF' (nF+1) SU' nU) ∧
   SU'.length=SU.length∧PQ.lT qH.last (SU'.take nU)∧(rt SU 0::SU'.take nU).Perm (SU.take (nU+1)) ∧
   nF+1≤SF'.length∧SF'.length≤max SF.length (nF+1)∧PQ.lT (fun x=>x) (SF'.take (nF+1))∧(SF'.take (nF+1)).Perm ((rt SU 0).slot::SF.take nF):=by
 obtain⟨SU',k1,k2,k3,k4⟩:=c47 (b0:=.cells p) (b1:=.front 0 0) (b2:=.cells [.slice (Rw Span.cells sp) .no]) (b3:=.front 0 0) (b4:=.cells (O.map n_)) (b5:=Vb (ci .i64) 1 o) (b8:=FC 7 SF nF) (b9:=FV SF) hU hUl hUh
 obtain⟨SF',j1,j2,j3,j4,j5⟩:=c46 (b0:=.cells p) (b1:=.front 0 0) (b2:=.cells [.slice (Rw Span.cells sp) .no]) (b3:=.front 0 0) (b4:=.cells (O.map n_)) (b5:=Vb (ci .i64) 1 o) (b8:=UC 9 SU' nU) (b9:=UV SU') (rt SU 0).slot hF hFl hFh
 refine⟨SF',SU',?_,k2,k3,k4,j2,j3,j4,j5⟩
 have hl:=WA (id:=9) hU
 have ht:=DH hp (sp:=sp) (O:=O) (o:=o) (SF:=SF') (nF:=nF+1) (SU:=SU') (nU:=nU)
 have l8:mF false 1 (HS p sp O o SF nF SU (nU+1)) (.ptr 8 0)=some (UH 9 SU (nU+1)):=by simp [HS,Wy]
 have l2:mF false 1 (HS p sp O o SF nF SU (nU+1)) (.ptr 2 0)=some (.slice (Rw Span.cells sp) .no):=by simp [HS]
 have e1:o8 sp (t:Int)=some s:=by simp [o8,hs]
 have hne:SU≠[]:=by intro e;subst e;simp at hU
 have hi:=Wz (id:=9) (Nat.succ_pos nU) hU
 have ld:mF false 1 (HS p sp O o SF nF SU (nU+1)) (.vptr 9 SU.length 1)=some (.int .i64 (rt SU 0).last):=by
  have e9:(HS p sp O o SF nF SU (nU+1))[9]?=some (Vc qH.cells 2 SU):=by unfold HS UV;rw [if_neg hne];rfl
  have:=DN (enc:=qH.cells) (sz:=2) (h:=HS p sp O o SF nF SU (nU+1)) (id:=9) (xs:=SU) (tot:=SU.length) (j:=0) (off:=1) (fun _=>rfl) e9 (by omega)
  rw [Nat.zero_mul,av7,vC,if_pos rfl,BU (List.length_pos_iff.2 hne)] at this
  exact this
 have k1:KK 47 [.ptr 8 0] (HS p sp O o SF nF SU (nU+1))=some (.ret (.agg [.int .i64 (rt SU 0).slot,.int .i64 (rt SU 0).last]),HS p sp O o SF nF SU' nU):=k1
 have j1:KK 46 [.ptr 6 0,.int .i64 (rt SU 0).slot] (HS p sp O o SF nF SU' nU)=some (.ret (.tuple []),HS p sp O o SF' (nF+1) SU' nU):=j1
 generalize HS p sp O o SF nF SU (nU+1)=H at *
 generalize HS p sp O o SF nF SU' nU=H1 at *
 generalize HS p sp O o SF' (nF+1) SU' nU=H2 at *
 simp [Dk,l8,l2,hl,ht,hi,ld,e1,h,k1,j1,-q_,-v_]
end
end
end Go.Proofs.YtgllbnabmglcfaaGreatDoor
namespace Hk.PS
section
variable {e:Nat→Int}
def tk (e:Nat→Int) (ps:List (Nat×Nat)) (s:Nat) (f:Int):Bool:=ps.any fun p=>p.2 == s&&decide (f≤e p.1)
theorem S0 {ps:List (Nat×Nat)}{s:Nat}{f:Int}:tk e ps s f=true↔∃p∈ps,p.2=s∧f≤e p.1:=by
 simp [tk]
theorem VQ {ps bs:List (Nat×Nat)}{s:Nat}{f:Int}:tk e (ps++bs) s f=(tk e ps s f || tk e bs s f):=by simp [tk]
def TM (e:Nat→Int) (ps:List (Nat×Nat)) (f:Int):Nat→Nat→Nat
 | 0,s=>s
 | n+1,s=>if tk e ps s f then TM e ps f n (s+1) else s
theorem Fh {ps:List (Nat×Nat)}{f:Int}:∀{n s s':Nat},s≤s'→s'<TM e ps f n s→tk e ps s' f=true
 | 0,s,s',h1,h2=>by simp [TM] at h2;omega
 | n+1,s,s',h1,h2=>by
  unfold TM at h2
  split at h2
  ·rename_i h
   by_cases es:s=s'
   ·subst es;exact h
   ·exact Fh (n:=n) (s:=s+1) (by omega) h2
  ·omega
theorem AO {α:Type}{P:List α→Prop}(h0:P []) (h1:∀l x,P l→P (l++[x])) (l:List α):P l:=by
 have:∀r:List α,P r.reverse:=by
  intro r
  induction r with
  | nil=>exact h0
  | cons x r ih=>rw [List.reverse_cons];exact h1 _ _ ih
 have:=this l.reverse
 rwa [List.reverse_reverse] at this
theorem Uo (e:Nat→Int) (ps:List (Nat×Nat)) (f:Int):∃s≤ps.length,tk e ps s f=false:=by
 by_cases h:∃s≤ps.length,tk e ps s f=false
 ·exact h
 ·exfalso
  have h2:ar9 (ps.length+1) ⊆ ps.map (·.2):=by
   intro s hs
   have hs:=List.mem_range.1 hs
   cases ht:tk e ps s f with
   | false=>exact absurd ⟨s,by omega,ht⟩ h
   | true =>
    obtain⟨p,hp,h1,_⟩:=S0.1 ht
    exact au6.2 ⟨p,hp,h1⟩
  have:=List.Nodup.length_le_of_subset List.nodup_range h2
  simp at this
  omega
def rJ (e:Nat→Int) (ps:List (Nat×Nat)) (f:Int):Nat:=TM e ps f (ps.length+1) 0
theorem Jd (ps:List (Nat×Nat)) (f:Int):tk e ps (rJ e ps f) f=false:=by
 obtain⟨s,h1,h2⟩:=Uo e ps f
 cases h:tk e ps (rJ e ps f) f with
 | false=>rfl
 | true =>
  have hle:rJ e ps f≤s:=by
   by_cases hc:rJ e ps f≤s
   ·exact hc
   ·have:=Fh (e:=e) (ps:=ps) (f:=f) (n:=ps.length+1) (s:=0) (Nat.zero_le s) (by unfold rJ at hc;omega)
    rw [h2] at this;cases this
  have key:∀(n s0:Nat),tk e ps (TM e ps f n s0) f=true→TM e ps f n s0=s0+n:=by
   intro n
   induction n with
   | zero=>intro s0 _;rfl
   | succ n ih =>
    intro s0 h
    unfold TM at h ⊢
    split
    ·rename_i hc
     rw [if_pos hc] at h
     rw [ih _ h];omega
    ·rename_i hc
     rw [if_neg hc] at h
     exact absurd h hc
  have:=key _ _ h
  unfold rJ at hle
  omega
theorem BX {ps:List (Nat×Nat)}{f:Int}{s:Nat}(h:s<rJ e ps f):tk e ps s f=true:=Fh (Nat.zero_le _) h
theorem PN {ps:List (Nat×Nat)}{f:Int}{t:Nat}(ht:tk e ps t f=false) (hb:∀s<t,tk e ps s f=true):rJ e ps f=t:=by
 have h1:¬rJ e ps f<t:=fun h=>by have:=hb _ h;rw [Jd] at this;cases this
 have h2:¬t<rJ e ps f:=fun h=>by have:=BX h;rw [ht] at this;cases this
 omega
def gS (f e:Nat→Int) (ord:List Nat):List (Nat×Nat):=ord.foldl (fun ps t=>ps++[(t,rJ e ps (f t))]) []
def nS (ps:List (Nat×Nat)):Nat:=ps.foldl (fun n p=>max n (p.2+1)) 0
theorem Ci {ps:List (Nat×Nat)}{p:Nat×Nat}:nS (ps++[p])=max (nS ps) (p.2+1):=by simp [nS]
structure PI (e:Nat→Int) (ps:List (Nat×Nat)) (n:Nat) (F:List Int) (U:List (Int×Int)) (cur:Int):Prop where
 perm:(F++U.map (·.1)).Perm ((ar9 n).map Int.ofNat)
 taken:∀f,cur≤f→∀s:Nat,tk e ps s f=true↔∃x∈U,x.1=(s:Int)∧f≤x.2
 num:n=nS ps
theorem PI.empty (cur:Int):PI e [] 0 [] [] cur:=⟨by simp,fun f _ s=>by simp [tk],rfl⟩
theorem PI.later {ps:List (Nat×Nat)}{n:Nat}{F:List Int}{U:List (Int×Int)}{cur cur':Int}(h:PI e ps n F U cur) (hc:cur≤cur'):PI e ps n F U cur' :=
 ⟨h.perm,fun f hf=>h.taken f (by omega),h.num⟩
theorem PI.free {ps:List (Nat×Nat)}{n:Nat}{F F':List Int}{U U':List (Int×Int)}{cur:Int}{x:Int×Int}(h:PI e ps n F U cur) (hU:(x::U').Perm U) (hF:F'.Perm (x.1::F)) (hx:x.2<cur):PI e ps n F' U' cur:=by
 refine⟨?_,fun f hf s=>?_,h.num⟩
 ·refine List.Perm.trans ?_ h.perm
  have h1:(F'++U'.map (·.1)).Perm (x.1::F++U'.map (·.1)):=List.Perm.append_right _ hF
  have h2:(F++(x::U').map (·.1)).Perm (F++U.map (·.1)):=List.Perm.append_left _ (hU.map _)
  refine List.Perm.trans h1 (List.Perm.trans ?_ h2)
  simp only [as6,List.cons_append]
  exact List.perm_middle.symm
 ·rw [h.taken f hf s]
  constructor
  ·rintro⟨y,hy,h1,h2⟩
   rcases List.mem_cons.1 (hU.mem_iff.2 hy) with rfl | h3
   ·omega
   ·exact⟨y,h3,h1,h2⟩
  ·rintro⟨y,hy,h1,h2⟩
   exact⟨y,hU.mem_iff.1 (List.mem_cons_of_mem _ hy),h1,h2⟩
theorem PI.least {ps:List (Nat×Nat)}{n:Nat}{F:List Int}{U:List (Int×Int)}{cur s:Int}(h:PI e ps n F U cur) (hU:∀x∈U,cur≤x.2) (hs:s∈F) (hm:∀y∈F,s≤y):s=(rJ e ps cur:Int)∧rJ e ps cur<n:=by
 have hmem:s∈(ar9 n).map Int.ofNat:=h.perm.mem_iff.1 (List.mem_append_left _ hs)
 obtain⟨k,hk,rfl⟩:=au6.1 hmem
 have hk:=List.mem_range.1 hk
 have hof:Int.ofNat k=(k:Int):=rfl
 rw [hof] at hs hm ⊢
 have hnd:(F++U.map (·.1)).Nodup:=h.perm.nodup_iff.2 (by
  rw [List.nodup_iff_pairwise_ne,List.pairwise_map]
  refine(List.nodup_iff_pairwise_ne.1 (List.nodup_range (n:=n))).imp ?_
  intro a b hab hc;exact hab (Int.ofNat.inj hc))
 have hdis:=(List.nodup_append.1 hnd).2.2
 have e1:rJ e ps cur=k:=by
  refine PN ?_ fun s' hs'=>?_
  ·cases hb:tk e ps k cur with
   | false=>rfl
   | true =>
    obtain⟨x,hx,h1,h2⟩:=(h.taken cur (Int.le_refl _) k).1 hb
    exact absurd h1.symm (hdis _ hs _ (au6.2 ⟨x,hx,rfl⟩))
  ·rw [h.taken cur (Int.le_refl _) s']
   have hm':(s':Int)∈F++U.map (·.1):=h.perm.mem_iff.2 (au6.2 ⟨s',List.mem_range.2 (by omega),rfl⟩)
   rcases au0.1 hm' with h1 | h1
   ·have:=hm _ h1;omega
   ·obtain⟨x,hx,h2⟩:=au6.1 h1
    exact⟨x,hx,h2,hU x hx⟩
 exact⟨by rw [e1],by omega⟩
theorem PI.more {ps:List (Nat×Nat)}{n:Nat}{U:List (Int×Int)}{cur:Int}(h:PI e ps n [] U cur) (hU:∀x∈U,cur≤x.2):rJ e ps cur=n:=by
 refine PN ?_ fun s' hs'=>?_
 ·cases hb:tk e ps n cur with
  | false=>rfl
  | true =>
   obtain⟨x,hx,h1,h2⟩:=(h.taken cur (Int.le_refl _) n).1 hb
   have:=h.perm.mem_iff.1 (List.mem_append_right _ (au6.2 ⟨x,hx,rfl⟩))
   rw [h1] at this
   obtain⟨k,hk,e1⟩:=au6.1 this
   have:=List.mem_range.1 hk
   have hof:Int.ofNat k=(k:Int):=rfl
   omega
 ·rw [h.taken cur (Int.le_refl _) s']
  have hm':(s':Int)∈([]:List Int)++U.map (·.1):=h.perm.mem_iff.2 (au6.2 ⟨s',List.mem_range.2 (by omega),rfl⟩)
  rcases au0.1 hm' with h1 | h1
  ·cases h1
  ·obtain⟨x,hx,h2⟩:=au6.1 h1
   exact⟨x,hx,h2,hU x hx⟩
theorem PI.aA1 {ps:List (Nat×Nat)}{n n':Nat}{F F':List Int}{U U':List (Int×Int)}{cur:Int}{t:Nat}(h:PI e ps n F U cur)
  (hp:(F'++U'.map (·.1)).Perm ((ar9 n').map Int.ofNat)) (hU:U'.Perm ((((rJ e ps cur:Nat):Int),e t)::U)) (hn:n'=max n (rJ e ps cur+1)) (ht:cur≤e t):PI e (ps++[(t,rJ e ps cur)]) n' F' U' cur:=by
 refine⟨hp,fun f hf s=>?_,by rw [Ci,←h.num];exact hn⟩
 rw [VQ,Bool.or_eq_true,h.taken f hf s]
 constructor
 ·rintro(⟨x,hx,h1,h2⟩ | h1)
  ·exact⟨x,hU.mem_iff.2 (List.mem_cons_of_mem _ hx),h1,h2⟩
  ·simp [tk] at h1
   exact⟨_,hU.mem_iff.2 (List.mem_cons_self ..),by simp [h1.1],h1.2⟩
 ·rintro⟨x,hx,h1,h2⟩
  rcases List.mem_cons.1 (hU.mem_iff.1 hx) with rfl | h3
  ·refine .inr ?_
   simp [tk]
   exact⟨Int.ofNat.inj h1,h2⟩
  ·exact .inl ⟨x,h3,h1,h2⟩
end
section
variable {f e:Nat→Int}
theorem zY (ord:List Nat) (t:Nat):gS f e (ord++[t])=gS f e ord++[(t,rJ e (gS f e ord) (f t))]:=by simp [gS]
theorem Fi (ord:List Nat):(gS f e ord).map (·.1)=ord:=by
 induction ord using AO with
 | h0=>rfl
 | h1 l t ih=>rw [zY,List.map_append,ih];rfl
theorem PO (ps:List (Nat×Nat)) (c:Int):rJ e ps c≤ps.length:=by
 obtain⟨s,h1,h2⟩:=Uo e ps c
 by_cases h:rJ e ps c≤s
 ·omega
 ·have:=BX (e:=e) (ps:=ps) (f:=c) (s:=s) (by omega)
  rw [h2] at this;cases this
end
end Hk.PS
namespace Go.Proofs.YtgllbnabmglcfaaGreatDoor
section
open Go Hk
def pr (l:List qH):List (Int×Int):=l.map fun x=>(x.slot,x.last)
structure HG (N:Nat) (SF:List Int) (nF:Nat) (SU:List qH) (nU:Nat):Prop where
 f1:nF≤SF.length
 f2:SF.length≤N
 f3:PQ.lT (fun x=>x) (SF.take nF)
 u1:nU≤SU.length
 u2:SU.length≤N
 u3:PQ.lT qH.last (SU.take nU)
theorem Ww {e:Nat→Int}{ps:List (Nat×Nat)}{n:Nat}{F:List Int}{U:List (Int×Int)}{cur:Int}(h:PS.PI e ps n F U cur):F.length+U.length=n:=by
 have:=h.perm.length_eq
 simpa using this
section
variable {p:List lS}(hp:∀m h,nQ m h p=some p) {sp:List Span}{O o:List Int}{N t k ns:Nat}{s:Span}{e:Nat→Int}{ps:List (Nat×Nat)}
include hp
theorem ac1 (hs:sp[t]?=some s) (hN:N≤1000000) (hns:ns≤N):∀(nU nF:Nat) (SF:List Int) (SU:List qH),HG N SF nF SU nU→PS.PI e ps ns (SF.take nF) (pr (SU.take nU)) s.first →
  ∃SF' nF' SU' nU',nL (Dk KK 10) ([.slice [] (.own 1),.int .i64 0,.int .i64 0,.ptr 2 0,.mslice 4 0 N 1,.ptr 6 0,.ptr 8 0,.int .i64 (ns:Int),.int .i64 (t:Int),Vs 5 1 o.length,.int .i64 (o.length:Int),.int .i64 (k:Int)],HS p sp O o SF nF SU nU) =
   some (.exit 4,[.slice [] (.own 1),.int .i64 0,.int .i64 0,.ptr 2 0,.mslice 4 0 N 1,.ptr 6 0,.ptr 8 0,.int .i64 (ns:Int),.int .i64 (t:Int),Vs 5 1 o.length,.int .i64 (o.length:Int),.int .i64 (k:Int)],HS p sp O o SF' nF' SU' nU') ∧
   HG N SF' nF' SU' nU'∧PS.PI e ps ns (SF'.take nF') (pr (SU'.take nU')) s.first∧∀x∈pr (SU'.take nU'),s.first≤x.2:=by
 intro nU
 induction nU with
 | zero =>
  intro nF SF SU hg hpi
  refine⟨SF,nF,SU,0,?_,hg,hpi,by simp [pr]⟩
  rw [nW,TQ hp hs hg.u1 (.inl rfl)];rfl
 | succ nU ih =>
  intro nF SF SU hg hpi
  by_cases hlt:(rt SU 0).last<s.first
  ·obtain⟨SF',SU',h1,h2,h3,h4,h5,h6,h7,h8⟩:=ac2 hp (O:=O) (o:=o) (N:=N) (k:=k) (ns:=ns) hs hg.u1 (by have:=hg.u2;omega) hg.u3 hg.f1 (by have:=hg.f2;omega) hg.f3 hlt
   have hc:=Ww hpi
   simp only [pr,au7,ar6] at hc
   have g1:=hg.f1
   have g2:=hg.u1
   have g3:=hg.f2
   have g4:=hg.u2
   have hpi':PS.PI e ps ns (SF'.take (nF+1)) (pr (SU'.take nU)) s.first:=hpi.free (x:=((rt SU 0).slot,(rt SU 0).last)) (h4.map fun x:qH=>(x.slot,x.last)) h8 hlt
   obtain⟨SF2,nF2,SU2,nU2,r1,r2⟩:=ih (nF+1) SF' SU' ⟨h5,by omega,h7,by omega,by omega,h3⟩ hpi'
   refine⟨SF2,nF2,SU2,nU2,?_,r2⟩
   rw [nW,h1]
   simp only [ak6,tX]
   exact r1
  ·refine⟨SF,nF,SU,nU+1,?_,hg,hpi,fun x hx=>?_⟩
   ·rw [nW,TQ hp hs hg.u1 (.inr ⟨by omega,hlt⟩)];rfl
   ·obtain⟨y,hy,rfl⟩:=au6.1 hx
    obtain⟨j,hj⟩:=List.getElem?_of_mem hy
    have hjl:j<(SU.take (nU+1)).length:=(ag0.1 hj).1
    have hmin:=PQ.O1 hg.u3 j hjl
    have hn:=hg.u1
    rw [KQ hn (by omega),PQ.TP hj] at hmin
    simp only
    omega
end
end
section
open Go Hk
theorem ajF {id:Nat}{S:List Int}{n:Nat}{C:Hk.lT}{c0 c1 c2 c3 c4 c5:mT}:mF false 1 (c0::c1::c2::c3::c4::c5::FC id S n::C) (.ptr 6 0)=some (FH id S n):=by simp [agS]
theorem apN {S:List Int}{n:Nat}(hn:n≤S.length) (hh:PQ.lT (fun x=>x) (S.take n)):∀y∈S.take n,rd S 0≤y:=by
 intro y hy
 obtain⟨j,hj⟩:=List.getElem?_of_mem hy
 have hjl:j<(S.take n).length:=(ag0.1 hj).1
 have hmin:=PQ.O1 hh j hjl
 have hjn:j<n:=by rw [ar6] at hjl;omega
 rw [KP hn (by omega),PQ.TP hj] at hmin
 exact hmin
theorem Zh {S:List Int}{n:Nat}(hn:n≤S.length) (h0:0<n):rd S 0∈S.take n:=by
 have:(S.take n)[0]?=some (rd S 0):=by rw [List.getElem?_take_of_lt h0,AN (by omega)]
 exact List.mem_of_getElem? this
structure L2 (N:Nat) (e:Nat→Int) (ps:List (Nat×Nat)) (ns:Nat) (SF:List Int) (nF:Nat) (SU:List qH) (nU:Nat) (cur:Int):Prop where
 hg:HG N SF nF SU nU
 pi:PS.PI e ps ns (SF.take nF) (pr (SU.take nU)) cur
 b:ns≤N
section
variable {p:List lS}(hp:∀m h,nQ m h p=some p) {sp:List Span}{O o:List Int}{N t k ns nF nU:Nat}{SF:List Int}{SU:List qH}{s:Span}{e:Nat→Int}{ps:List (Nat×Nat)}{cur:Int}
include hp
theorem ac4 (hk : o[k]? = some (t : Int)) (hol : o.length ≤ 1000000) (hs : sp[t]? = some s) (hN : N ≤ 1000000) (ht : t < N) (hO : O.length = N) (hc : cur ≤ s.first) (hfl : s.first ≤ s.last) (he : e t = s.last) (hps : ps.length < N) (L : L2 N e ps ns SF nF SU nU cur) :
    ∃ (SF' : List Int) (nF' : Nat) (SU' : List qH) (nU' ns' : Nat), BE KK 10 ([.slice [] (.own 1), .int .i64 0, .int .i64 0, .ptr 2 0, .mslice 4 0 N 1, .ptr 6 0, .ptr 8 0, .int .i64 (ns : Int), Vs 5 1 o.length, .int .i64 (o.length : Int), .int .i64 (k : Int)], HS p sp O o SF nF SU nU) =
      some (.normal, [.slice [] (.own 1), .int .i64 0, .int .i64 0, .ptr 2 0, .mslice 4 0 N 1, .ptr 6 0, .ptr 8 0, .int .i64 (ns' : Int), Vs 5 1 o.length, .int .i64 (o.length : Int), .int .i64 ((k + 1 : Nat) : Int)], HS p sp (O.set t ((PS.rJ e ps s.first : Nat) : Int)) o SF' nF' SU' nU') ∧
      L2 N e (ps ++ [(t, PS.rJ e ps s.first)]) ns' SF' nF' SU' nU' s.first := by
  have hkl : k < o.length := (ag0.1 hk).1
  have hnsN := L.b
  obtain ⟨SF1, nF1, SU1, nU1, e1, g1, p1, q1⟩ := ac1 hp (O := O) (o := o) (k := k) hs hN hnsN nU nF SF SU L.hg (L.pi.later hc)
  have hsl := PS.PO (e := e) ps s.first
  obtain ⟨SF2, nF2, ns2, f1, f2, f3, f4, f5, f6, fcode⟩ : ∃ (SF2 : List Int) (nF2 ns2 : Nat), nF2 + 1 ≤ SF2.length ∧ SF2.length ≤ N ∧ PQ.lT (fun x => x) (SF2.take (nF2 + 1)) ∧
      (SF2.take (nF2 + 1) ++ (pr (SU1.take nU1)).map (·.1)).Perm ((ar9 ns2).map Int.ofNat) ∧ rd SF2 0 = ((PS.rJ e ps s.first : Nat) : Int) ∧ ns2 = max ns (PS.rJ e ps s.first + 1) ∧
      ((nF1 = 0 ∧ KK 46 [.ptr 6 0, .int .i64 (ns : Int)] (HS p sp O o SF1 nF1 SU1 nU1) = some (.ret (.tuple []), HS p sp O o SF2 (nF2 + 1) SU1 nU1) ∧ ns2 = ns + 1) ∨
       (0 < nF1 ∧ SF2 = SF1 ∧ nF2 + 1 = nF1 ∧ ns2 = ns)) := by
    have g11 := g1.f1
    have g12 := g1.f2
    rcases Nat.eq_zero_or_pos nF1 with h0 | h0
    · subst h0
      have hmore := PS.PI.more (by simpa using p1) q1
      obtain ⟨S', j1, j2, j3, j4, j5⟩ := c46 (b0 := .cells p) (b1 := .front 0 0) (b2 := .cells [.slice (Rw Span.cells sp) .no]) (b3 := .front 0 0) (b4 := .cells (O.map n_)) (b5 := Vb (ci .i64) 1 o) (b8 := UC 9 SU1 nU1) (b9 := UV SU1) (S := SF1) (n := 0) (ns : Int) (Nat.zero_le _) (by omega) g1.f3
      have hone : S'.take (0 + 1) = [(ns : Int)] := by
        simp only [List.take_zero] at j5
        exact List.perm_singleton.1 j5
      refine ⟨S', 0, ns + 1, j2, by omega, j4, ?_, ?_, by omega, .inl ⟨rfl, j1, rfl⟩⟩
      · have hp1 := p1.perm
        simp only [List.take_zero, av6] at hp1
        rw [hone, List.range_succ, List.map_append]
        exact (List.perm_append_comm (l₁ := [(ns : Int)])).trans (List.Perm.append_right _ hp1)
      · have := Zh (S := S') (n := 0 + 1) j2 (by omega)
        rw [hone] at this
        simp at this
        rw [this, hmore]
    · obtain ⟨m, rfl⟩ : ∃ m, nF1 = m + 1 := ⟨nF1 - 1, by omega⟩
      obtain ⟨h1, h2⟩ := p1.least (s := rd SF1 0) q1 (Zh g11 h0) (apN g11 g1.f3)
      exact ⟨SF1, m, ns, g11, g12, g1.f3, p1.perm, h1, by omega, .inr ⟨h0, rfl, rfl, rfl⟩⟩
  generalize hslot : PS.rJ e ps s.first = slot at *
  obtain ⟨SF3, t1, t2, t3, t4⟩ := c48 (b0 := .cells p) (b1 := .front 0 0) (b2 := .cells [.slice (Rw Span.cells sp) .no]) (b3 := .front 0 0) (b4 := .cells (O.map n_)) (b5 := Vb (ci .i64) 1 o) (b8 := UC 9 SU1 nU1) (b9 := UV SU1) f1 (by omega) f3
  have g13 := g1.u1
  have g14 := g1.u2
  obtain ⟨SU4, v1, v2, v3, v4, v5⟩ := c49 (b0 := .cells p) (b1 := .front 0 0) (b2 := .cells [.slice (Rw Span.cells sp) .no]) (b3 := .front 0 0) (b4 := .cells ((O.set t (slot : Int)).map n_)) (b5 := Vb (ci .i64) 1 o) (b8 := FC 7 SF3 nF2) (b9 := FV SF3) ⟨(slot : Int), s.last⟩ g13 (by omega) g1.u3
  have hcount : nU1 + 1 ≤ N := by
    have := f4.length_eq
    simp only [pr, au9, au7, ar6, List.length_range] at this
    omega
  refine ⟨SF3, nF2, SU4, nU1 + 1, ns2, ?_, ⟨⟨by omega, by omega, t3, v2, by omega, v4⟩, ?_, by omega⟩⟩
  · have t1 : KK 48 [.ptr 6 0] (HS p sp O o SF2 (nF2 + 1) SU1 nU1) = some (.ret (.int .i64 (slot : Int)), HS p sp O o SF3 nF2 SU1 nU1) := by rw [← f5]; exact t1
    have v1 : KK 49 [.ptr 8 0, .agg [.int .i64 (slot : Int), .int .i64 s.last]] (HS p sp (O.set t (slot : Int)) o SF3 nF2 SU1 nU1) = some (.ret (.tuple []), HS p sp (O.set t (slot : Int)) o SF3 nF2 SU4 (nU1 + 1)) := v1
    have ht := DH hp (sp := sp) (O := O.set t (slot : Int)) (o := o) (SF := SF3) (nF := nF2) (SU := SU4) (nU := nU1 + 1)
    have hlen : (HS p sp O o SF nF SU nU).length = 10 := rfl
    have hfl1 := ajG (id := 7) (n := nF1) (S := SF1) g1.f1
    have l6 : mF false 1 (HS p sp O o SF1 nF1 SU1 nU1) (.ptr 6 0) = some (FH 7 SF1 nF1) := ajF
    have lo : mF false 1 (HS p sp O o SF nF SU nU) (.vptr 5 o.length k) = some (.int .i64 (t : Int)) := by
      have ho : o.length ≠ 0 := by omega
      have e5 : (HS p sp O o SF nF SU nU)[5]? = some (Vc (ci .i64) 1 o) := by show some (Vb (ci .i64) 1 o) = _; rw [LM ho]
      have := DN (enc := ci .i64) (sz := 1) (h := HS p sp O o SF nF SU nU) (id := 5) (xs := o) (tot := o.length) (j := k) (off := 0) (fun _ => rfl) e5 (by omega)
      rw [Nat.mul_one, Nat.add_zero, vC, if_pos rfl, hk] at this
      exact this
    have hio : mI 1 (Vs 5 1 o.length) (.int .i64 (k : Int)) = some (.vptr 5 o.length k) := by
      rw [Qv (by omega)]
      simp [mI, hkl]
    have CJ : mI 1 (.mslice 4 0 N 1) (.int .i64 (t : Int)) = some (.ptr 4 t) := by simp [mI, ht]; omega
    have st : mL 1 (HS p sp O o SF3 nF2 SU1 nU1) (.ptr 4 t) (.int .i64 (slot : Int)) = some (HS p sp (O.set t (slot : Int)) o SF3 nF2 SU1 nU1) := azW (by omega)
    have ldt : mF false 1 (HS p sp (O.set t (slot : Int)) o SF3 nF2 SU1 nU1) (.ptr 4 t) = some (.int .i64 (slot : Int)) := by
      have h4 := azT (b0 := .cells p) (b1 := .front 0 0) (b2 := .cells [.slice (Rw Span.cells sp) .no]) (b3 := .front 0 0) (R := [Vb (ci .i64) 1 o, FC 7 SF3 nF2, FV SF3, UC 9 SU1 nU1, UV SU1]) (O := O.set t (slot : Int)) (k := t) (by simp; omega)
      have h5 : rd (O.set t (slot : Int)) t = (slot : Int) := by
        have := AN (S := O.set t (slot : Int)) (j := t) (by simp; omega)
        rw [List.getElem?_set_self (by omega)] at this
        exact (Option.some.inj this).symm
      rw [h5] at h4; exact h4
    have l2 : mF false 1 (HS p sp (O.set t (slot : Int)) o SF3 nF2 SU1 nU1) (.ptr 2 0) = some (.slice (Rw Span.cells sp) .no) := by simp [HS]
    have es : o8 sp (t : Int) = some s := by simp [o8, hs]
    have w1 : IntKind.i64.wrap ((k : Int) + 1) = ((k + 1 : Nat) : Int) := by rw [wrap64 (by omega) (by omega)]; omega
    have w2 : IntKind.i64.wrap ((ns : Int) + 1) = ((ns + 1 : Nat) : Int) := by rw [wrap64 (by omega) (by omega)]; omega
    generalize HS p sp O o SF nF SU nU = H0 at *
    generalize HS p sp (O.set t (slot : Int)) o SF3 nF2 SU4 (nU1 + 1) = H5 at *
    generalize HS p sp (O.set t (slot : Int)) o SF3 nF2 SU1 nU1 = H4 at *
    generalize HS p sp O o SF3 nF2 SU1 nU1 = H3 at *
    rcases fcode with ⟨hn0, k1, hns2⟩ | ⟨hn0, hSF, hnF, hns2⟩
    · subst hns2
      subst hn0
      generalize HS p sp O o SF2 (nF2 + 1) SU1 nU1 = H2 at *
      generalize HS p sp O o SF1 0 SU1 nU1 = H1 at *
      simp [BE, hlen, hkl, hio, lo, e1, l6, hfl1, k1, t1, CJ, st, ldt, l2, es, v1, ht, w1, w2, -q_, -v_, -s4]
    · subst hns2
      subst hSF
      subst hnF
      generalize HS p sp O o SF2 (nF2 + 1) SU1 nU1 = H1 at *
      have hz : ¬ ((nF2 : Int) + 1 = 0) := by omega
      simp [hz, BE, hlen, hkl, hio, lo, e1, l6, hfl1, t1, CJ, st, ldt, l2, es, v1, ht, w1, w2, -q_, -v_, -s4]
  · have hpi := p1.aA1 (t := t) (n' := ns2) (F' := SF3.take nF2) (U' := pr (SU4.take (nU1 + 1))) ?_ ?_ ?_ ?_
    · rw [hslot] at hpi; exact hpi
    · have h1 : (pr (SU4.take (nU1 + 1))).Perm (pr (⟨(slot : Int), s.last⟩ :: SU1.take nU1)) := v5.map _
      have h2 : ((SF3.take nF2) ++ (pr (SU4.take (nU1 + 1))).map (·.1)).Perm ((SF3.take nF2) ++ (slot : Int) :: (pr (SU1.take nU1)).map (·.1)) := List.Perm.append_left _ (h1.map _)
      refine h2.trans (List.perm_middle.trans ?_)
      rw [← f5]
      exact (List.Perm.append_right _ t4).trans f4
    · rw [hslot, he]; exact v5.map _
    · rw [hslot]; exact f6
    · rw [he]; exact hfl
end
end
section
open Go Hk
def fS (sp:List Span) (t:Nat):Int:=((sp[t]?).map (·.first)).getD (-1)
def eS (sp:List Span) (t:Nat):Int:=((sp[t]?).map (·.last)).getD (-1)
def Kk (sp:List Span) (x:Int):Int:=(wP (Rw Span.cells sp) x).getD 0
theorem PH {sp:List Span}{t:Nat}(h:t<sp.length):wP (Rw Span.cells sp) (t:Int)=some (fS sp t):=by
 unfold wP fS Rw
 rw [if_pos (by omega)]
 simp [ag8 h]
theorem TO {sp:List Span}{t:Nat}(h:t<sp.length):Kk sp (t:Int)=fS sp t:=by unfold Kk;rw [PH h];rfl
def sZ (sp:List Span):List Int:=Al (q8 (Kk sp)) (sB sp sp.length)
def rT (sp:List Span):List Nat:=(sZ sp).map Int.toNat
theorem Pm {sp:List Span}{x:Int}:x∈sB sp sp.length↔∃t:Nat,x=(t:Int)∧t<sp.length∧0≤fS sp t:=by
 unfold sB fS
 rw [au6]
 constructor
 ·rintro⟨t,ht,rfl⟩
  rw [List.mem_filter,List.mem_range,decide_eq_true_eq] at ht
  exact⟨t,rfl,ht.1,ht.2⟩
 ·rintro⟨t,rfl,h1,h2⟩
  exact⟨t,by rw [List.mem_filter,List.mem_range,decide_eq_true_eq];exact⟨h1,h2⟩,rfl⟩
theorem BJ {sp:List Span}{x:Int}:x∈sZ sp↔∃t:Nat,x=(t:Int)∧t<sp.length∧0≤fS sp t:=by
 unfold sZ;rw [uG.mem_iff,Pm]
theorem YZ {sp:List Span}:(sZ sp).length≤sp.length:=by
 unfold sZ;rw [uG.length_eq];exact Nq
theorem T_ {sp:List Span}:sZ sp=(rT sp).map Int.ofNat:=by
 unfold rT
 rw [List.map_map]
 have:∀x∈sZ sp,(Int.ofNat∘Int.toNat) x=x:=by
  intro x hx
  obtain⟨t,rfl,_⟩:=BJ.1 hx
  rfl
 rw [List.map_congr_left this,List.map_id']
theorem Pn {sp:List Span}{t:Nat}:t∈rT sp↔t<sp.length∧0≤fS sp t:=by
 unfold rT
 rw [au6]
 constructor
 ·rintro⟨x,hx,rfl⟩
  obtain⟨t,rfl,h1,h2⟩:=BJ.1 hx
  exact⟨h1,h2⟩
 ·rintro⟨h1,h2⟩
  exact⟨(t:Int),BJ.2 ⟨t,rfl,h1,h2⟩,rfl⟩
theorem Y0 {sp:List Span}:(rT sp).length≤sp.length:=by unfold rT;rw [au7];exact YZ
theorem Po {sp:List Span}:(rT sp).Pairwise fun a b=>fS sp a<fS sp b∨fS sp a=fS sp b∧a≤b:=by
 have h:=Ep (key:=Kk sp) (l:=sB sp sp.length)
 have h2:(sZ sp).Pairwise fun a b=>q8 (Kk sp) a b=true:=h
 unfold rT
 rw [List.pairwise_map]
 refine List.Pairwise.imp_of_mem ?_ h2
 intro a b ha hb hab
 obtain⟨t,rfl,ht,_⟩:=BJ.1 ha
 obtain⟨u,rfl,hu,_⟩:=BJ.1 hb
 simp only [q8,Bool.or_eq_true,Bool.and_eq_true,decide_eq_true_eq,TO ht,TO hu] at hab
 simp only [av8]
 omega
def Ef (n:Nat) (ps:List (Nat×Nat)):List Int:=ps.foldl (fun O q=>O.set q.1 (q.2:Int)) (ak7 n (-1))
theorem Pq {n:Nat}{ps:List (Nat×Nat)}:(Ef n ps).length=n:=by
 induction ps using PS.AO with
 | h0=>simp [Ef]
 | h1 l q ih=>unfold Ef at ih ⊢;rw [List.foldl_append];simpa using ih
theorem Pp {n:Nat}{ps:List (Nat×Nat)}{q:Nat×Nat}:Ef n (ps++[q])=(Ef n ps).set q.1 (q.2:Int):=by simp [Ef]
section
variable {p:List lS}(hp:∀m h,nQ m h p=some p) {sp:List Span}{n:Nat}
include hp
theorem acZ (hn:sp.length=n) (hn2:n≤1000000):∀(d k:Nat),n=k+d →
  nL (BD KK 6) ([.slice [] (.own 1),.int .i64 0,.int .i64 0,.ptr 2 0,.mslice 4 0 n 1,Vs 5 1 (sB sp k).length,.slice (Rw Span.cells sp) .no,.int .i64 (n:Int),.int .i64 (k:Int)],KA p sp (sX n k) (sB sp k)) =
   some (.exit 0,[.slice [] (.own 1),.int .i64 0,.int .i64 0,.ptr 2 0,.mslice 4 0 n 1,Vs 5 1 (sB sp n).length,.slice (Rw Span.cells sp) .no,.int .i64 (n:Int),.int .i64 (n:Int)],KA p sp (sX n n) (sB sp n)):=by
 intro d
 induction d with
 | zero =>
  intro k hk
  obtain rfl:k=n:=by omega
  rw [nW]
  have:BD KK 6 ([.slice [] (.own 1),.int .i64 0,.int .i64 0,.ptr 2 0,.mslice 4 0 k 1,Vs 5 1 (sB sp k).length,.slice (Rw Span.cells sp) .no,.int .i64 (k:Int),.int .i64 (k:Int)],KA p sp (sX k k) (sB sp k)) =
   some (.exit 0,[.slice [] (.own 1),.int .i64 0,.int .i64 0,.ptr 2 0,.mslice 4 0 k 1,Vs 5 1 (sB sp k).length,.slice (Rw Span.cells sp) .no,.int .i64 (k:Int),.int .i64 (k:Int)],KA p sp (sX k k) (sB sp k)):=by
   simp [BD,KA,hp,-List.map_set]
  rw [this];rfl
 | succ d ih =>
  intro k hk
  rw [nW,ac0 hp hn hn2 (by omega)]
  simp only [ak6,tX]
  exact ih (k+1) (by omega)
end
end
section
open Go Hk
theorem Ts (o:List Int):(Rw (ci .i64) o).flatten=o.map n_:=by
 induction o with
 | nil=>rfl
 | cons y s ih=>simp only [Rw,as6,List.flatten_cons] at ih ⊢;rw [ih];rfl
theorem QD (o:List Int):F3 (o.map n_)=some o:=by
 induction o with
 | nil=>rfl
 | cons y s ih=>simp only [as6,n_,F3] at ih ⊢;rw [ih];rfl
theorem c40 {p:List lS}{sp:List Span}{O:List Int}(hn:sp.length≤1000000) :
  KK 40 [lS.l_ (Vs 5 1 (sB sp sp.length).length),lS.l_ (.func 41 [] [.ptr 2 0])] (KA p sp O (sB sp sp.length))=some (.ret (.tuple []),KA p sp O (sZ sp)):=by
 have e:KK 40 [lS.l_ (Vs 5 1 (sB sp sp.length).length),lS.l_ (.func 41 [] [.ptr 2 0])] (KA p sp O (sB sp sp.length))=Gx 41 [lS.l_ (Vs 5 1 (sB sp sp.length).length),.func 41 [] [.ptr 2 0]] (KA p sp O (sB sp sp.length)):=by
  show Iq Tryz.prog nM 40 _ _=_
  rw [Mk];rfl
 rw [e]
 have hmem:∀x∈sB sp sp.length,∃t:Nat,x=(t:Int)∧t<sp.length:=fun x hx=>by
  obtain⟨t,h1,h2,_⟩:=Pm.1 hx;exact⟨t,h1,h2⟩
 have hle:=Nq (sp:=sp) (k:=sp.length)
 have hord:sZ sp=Al (q8 (Kk sp)) (sB sp sp.length):=rfl
 rw [hord]
 generalize sB sp sp.length=o at *
 by_cases h0:o.length=0
 ·have:o=[]:=List.eq_nil_of_length_eq_zero h0
  subst this
  rfl
 ·have hvs:lS.l_ (Vs 5 1 o.length)=.vslice 5 o.length 0 o.length 1:=by rw [Qv h0];rfl
  have hvb:KA p sp O o=[.cells p,.front 0 0,.cells [.slice (Rw Span.cells sp) .no],.front 0 0,.cells (O.map n_),.vec o.length 1 (o.map n_)]:=by
   unfold KA;rw [LM h0,Vc,Ts]
  have hall:((Rw Span.cells sp).all fun r=>r.length == 2)=true:=by simp [Rw,Span.cells]
  have hkey:(o.all fun x=>(wP (Rw Span.cells sp) x).isSome)=true:=by
   rw [List.all_eq_true]
   intro x hx
   obtain⟨t,rfl,ht⟩:=hmem x hx
   rw [PH ht];rfl
  have hsl:(Al (q8 (Kk sp)) o).length=o.length:=uG.length_eq
  rw [hvs,hvb]
  have htk:F3 ((o.map n_).take o.length)=some o:=by rw [List.take_of_length_le (by simp),QD]
  have hg:oQ [.cells p,.front 0 0,.cells [.slice (Rw Span.cells sp) .no],.front 0 0,.cells (O.map n_),.vec o.length 1 (o.map n_)] 5 o.length=some (1,o.map n_):=by simp [oQ]
  have h2:([.cells p,.front 0 0,.cells [.slice (Rw Span.cells sp) .no],.front 0 0,.cells (O.map n_),.vec o.length 1 (o.map n_)]:Hk.lT)[2]?=some (.cells [.slice (Rw Span.cells sp) .no]):=rfl
  have hc0:([.slice (Rw Span.cells sp) .no]:List lS)[0]?=some (.slice (Rw Span.cells sp) .no):=rfl
  simp only [Gx,hg,h2,hc0,htk]
  rw [if_pos ⟨trivial,by omega,trivial,by omega,by simp,by omega,hall,hkey⟩]
  have hvb2:KA p sp O (Al (q8 (Kk sp)) o)=[.cells p,.front 0 0,.cells [.slice (Rw Span.cells sp) .no],.front 0 0,.cells (O.map n_),.vec o.length 1 ((Al (q8 (Kk sp)) o).map n_)]:=by
   unfold KA;rw [LM (by omega),Vc,Ts,hsl]
  rw [hvb2]
  have hpc:putCells (o.map n_) 0 ((Al (q8 fun x=>(wP (Rw Span.cells sp) x).getD 0) o).map (lS.int .i64))=(Al (q8 (Kk sp)) o).map n_:=by
   unfold putCells
   rw [List.take_zero,av6,av7,List.drop_eq_nil_of_le (by rw [au7,au7];have:(Al (q8 fun x=>(wP (Rw Span.cells sp) x).getD 0) o).length=o.length:=uG.length_eq;omega),List.append_nil]
   rfl
  rw [hpc];rfl
section
variable {p:List lS}(hp:∀m h,nQ m h p=some p) {sp:List Span}{n:Nat}
include hp
theorem ac3 (hn:sp.length=n) (hn2:n≤1000000) (hfe:∀s∈sp,0≤s.first→s.first≤s.last):∀(d k:Nat) (SF:List Int) (nF:Nat) (SU:List qH) (nU ns:Nat) (cur:Int),(rT sp).length=k+d →
  (∀j,k≤j→(h:j<(rT sp).length)→cur≤fS sp (rT sp)[j])→L2 n (eS sp) (PS.gS (fS sp) (eS sp) ((rT sp).take k)) ns SF nF SU nU cur →
  ∃(SF':List Int) (nF':Nat) (SU':List qH) (nU':Nat),nL (BE KK 10) ([.slice [] (.own 1),.int .i64 0,.int .i64 0,.ptr 2 0,.mslice 4 0 n 1,.ptr 6 0,.ptr 8 0,.int .i64 (ns:Int),Vs 5 1 (sZ sp).length,.int .i64 ((sZ sp).length:Int),.int .i64 (k:Int)],HS p sp (Ef n (PS.gS (fS sp) (eS sp) ((rT sp).take k))) (sZ sp) SF nF SU nU) =
   some (.exit 2,[.slice [] (.own 1),.int .i64 0,.int .i64 0,.ptr 2 0,.mslice 4 0 n 1,.ptr 6 0,.ptr 8 0,.int .i64 ((PS.nS (PS.gS (fS sp) (eS sp) (rT sp)):Nat):Int),Vs 5 1 (sZ sp).length,.int .i64 ((sZ sp).length:Int),.int .i64 ((rT sp).length:Int)],HS p sp (Ef n (PS.gS (fS sp) (eS sp) (rT sp))) (sZ sp) SF' nF' SU' nU'):=by
 have hol:(sZ sp).length=(rT sp).length:=by unfold rT;simp
 intro d
 induction d with
 | zero =>
  intro k SF nF SU nU ns cur hk _ L
  have hk':k=(rT sp).length:=by omega
  rw [hk',List.take_length] at L ⊢
  refine⟨SF,nF,SU,nU,?_⟩
  have hns:ns=PS.nS (PS.gS (fS sp) (eS sp) (rT sp)):=L.pi.num
  rw [←hns,nW]
  have ht:=DH hp (sp:=sp) (O:=Ef n (PS.gS (fS sp) (eS sp) (rT sp))) (o:=sZ sp) (SF:=SF) (nF:=nF) (SU:=SU) (nU:=nU)
  generalize HS p sp (Ef n (PS.gS (fS sp) (eS sp) (rT sp))) (sZ sp) SF nF SU nU=H at *
  have:BE KK 10 ([.slice [] (.own 1),.int .i64 0,.int .i64 0,.ptr 2 0,.mslice 4 0 n 1,.ptr 6 0,.ptr 8 0,.int .i64 (ns:Int),Vs 5 1 (sZ sp).length,.int .i64 ((sZ sp).length:Int),.int .i64 ((rT sp).length:Int)],H) =
   some (.exit 2,[.slice [] (.own 1),.int .i64 0,.int .i64 0,.ptr 2 0,.mslice 4 0 n 1,.ptr 6 0,.ptr 8 0,.int .i64 (ns:Int),Vs 5 1 (sZ sp).length,.int .i64 ((sZ sp).length:Int),.int .i64 ((rT sp).length:Int)],H):=by
   simp [BE,hol,ht]
  rw [this];rfl
 | succ d ih =>
  intro k SF nF SU nU ns cur hk hcur L
  have hkl:k<(rT sp).length:=by omega
  obtain⟨ht1,ht2⟩:=Pn.1 (ax5 hkl)
  have hsp:sp[(rT sp)[k]]?=some sp[(rT sp)[k]]:=ag8 ht1
  have hf:fS sp (rT sp)[k]=sp[(rT sp)[k]].first:=by unfold fS;rw [hsp];rfl
  have he:eS sp (rT sp)[k]=sp[(rT sp)[k]].last:=by unfold eS;rw [hsp];rfl
  have hok:(sZ sp)[k]?=some (((rT sp)[k]:Nat):Int):=by
   rw [T_,ak4,ag8 hkl];rfl
  have hlen:(PS.gS (fS sp) (eS sp) ((rT sp).take k)).length=k:=by
   rw [←au7 (f:=(·.1)),PS.Fi,ar6];omega
  have hsl:=Y0 (sp:=sp)
  obtain⟨SF',nF',SU',nU',ns',h1,h2⟩:=ac4 hp (O:=Ef n (PS.gS (fS sp) (eS sp) ((rT sp).take k))) (o:=sZ sp) hok (by omega) hsp hn2 (by omega) Pq (by have:=hcur k (ak5 _) hkl;omega) (hfe _ (ax5 ht1) (by omega)) he (by omega) L
  have hstep:PS.gS (fS sp) (eS sp) ((rT sp).take (k+1))=PS.gS (fS sp) (eS sp) ((rT sp).take k)++[((rT sp)[k],PS.rJ (eS sp) (PS.gS (fS sp) (eS sp) ((rT sp).take k)) sp[(rT sp)[k]].first)]:=by
   rw [List.take_succ_eq_append_getElem hkl,PS.zY,hf]
  rw [←hstep] at h2
  obtain⟨SF2,nF2,SU2,nU2,h3⟩:=ih (k+1) SF' nF' SU' nU' ns' _ (by omega) (fun j hj hjl=>by
   have:=List.pairwise_iff_getElem.1 (Po (sp:=sp)) k j hkl hjl (by omega)
   rw [←hf]
   omega) h2
  refine⟨SF2,nF2,SU2,nU2,?_⟩
  rw [nW,h1]
  simp only [ak6,tX]
  rw [hstep,Pp] at h3
  exact h3
end
end
section
open Go Hk
def gaS (sp:List Span):List (Nat×Nat):=PS.gS (fS sp) (eS sp) (rT sp)
def slS (sp:List Span):List Int:=Ef sp.length (gaS sp)
def slN (sp:List Span):Int:=((PS.nS (gaS sp):Nat):Int)
theorem Vw {n:Nat}{f e:Nat→Int}:sX n n=Ef n (PS.gS f e []):=by simp [sX,Ef,PS.gS]
theorem Nt (O:List Int):oM (O.map n_)=some (O.map n_):=by
 induction O with
 | nil=>rfl
 | cons x r ih=>simp only [as6,oM,ih];rfl
theorem PJ (O:List Int):rowsOf O.length 1 (O.map n_)=Rw (ci .i64) O:=by
 induction O with
 | nil=>rfl
 | cons x r ih=>simp only [ar8,as6,rowsOf,List.take_succ_cons,List.take_zero,List.drop_succ_cons,List.drop_zero,ih];rfl
theorem af3 {b0 b1 b2 b3:mT}{R:Hk.lT}{O:List Int}{n:Nat}(hO:O.length=n):lS.oL 0 (b0::b1::b2::b3::.cells (O.map n_)::R) (.mslice 4 0 n 1)=.slice (Rw (ci .i64) O) .no:=by
 subst hO
 have g:(b0::b1::b2::b3::.cells (O.map n_)::R:Hk.lT)[4]?=some (.cells (O.map n_)):=rfl
 have ht:(((O.map n_).drop 0).take (O.length*1))=O.map n_:=by rw [List.drop_zero,Nat.mul_one,List.take_of_length_le (by simp)]
 simp only [lS.oL,g,ht,Nt]
 simp [PJ]
@[simp] theorem ahZ {f:Nat}{x y:List lS}:lS.o7 (.func f x y)=false:=(rfl)
@[simp] theorem QK {f:Nat}{x y:List lS}:lS.cells (.func f x y)=[.func f x y]:=(rfl)
theorem ZE {i f:Nat}:nX i [.slice [] .nil,.func f [] []]=([.slice [] (.own i),.func f [] []],[.front 0 0]):=rfl
theorem c21 {p:IR}{sp:List Span}{n:Nat}(hn:sp.length=n) (hn2:n≤1000000) (hfe:∀s∈sp,0≤s.first→s.first≤s.last)
  (h45:∀h,KK 39 [.agg [.int .i64 p.temps,.slice (Rw nH.cells p.arrays) .no,.slice (Rw mU.cells p.blocks) .no,.int .i64 p.inn,.int .i64 p.out]] h=some (.ret (.tuple [.slice (Rw Span.cells sp) .no,.int .i64 0]),h)) (h:Hk.lT) :
  KK 21 [.agg [.int .i64 p.temps,.slice (Rw nH.cells p.arrays) .no,.slice (Rw mU.cells p.blocks) .no,.int .i64 p.inn,.int .i64 p.out]] h =
   some (.ret (.tuple [.slice (Rw (ci .i64) (slS sp)) .no,.int .i64 (slN sp),.int .i64 0]),h):=by
 refine nN rfl rfl (oN (am7 _ _ _) ?_)
 have hp:∀m h,nQ m h [.int .i64 p.temps,.slice (Rw nH.cells p.arrays) .no,.slice (Rw mU.cells p.blocks) .no,.int .i64 p.inn,.int .i64 p.out]=some [.int .i64 p.temps,.slice (Rw nH.cells p.arrays) .no,.slice (Rw mU.cells p.blocks) .no,.int .i64 p.inn,.int .i64 p.out]:=fun m h=>by simp
 have hl0:=acZ hp (sp:=sp) (n:=n) hn hn2 n 0 (by omega)
 have hs:=c40 (p:=[.int .i64 p.temps,.slice (Rw nH.cells p.arrays) .no,.slice (Rw mU.cells p.blocks) .no,.int .i64 p.inn,.int .i64 p.out]) (sp:=sp) (O:=sX n n) (by omega)
 obtain⟨SF,nF,SU,nU,hl2⟩:=ac3 hp hn hn2 hfe (rT sp).length 0 [] 0 [] 0 0 0 (by omega) (fun j _ hj=>(Pn.1 (ax5 hj)).2)
  ⟨⟨ak5 _,Nat.zero_le _,fun j _ hj=>by simp at hj,ak5 _,Nat.zero_le _,fun j _ hj=>by simp at hj⟩,PS.PI.empty 0,Nat.zero_le _⟩
 have hmk:∀H:Hk.lT,H.length=4→rB 1 8 [.int .i64 0] (.int .i64 (n:Int)) H=some (.mslice 4 0 n 1,H++[.cells ((sX n 0).map n_)]):=by
  intro H hH
  unfold rB
  simp only [av8]
  rw [if_pos ⟨by omega,by omega,by omega⟩,hH]
  have:(ak7 n [lS.int .i64 0]).flatten=(sX n 0).map n_:=by
   simp [sX,n_]
  rw [this]
 subst hn
 have hle:(sB sp sp.length).length=(sZ sp).length:=uG.length_eq.symm
 rw [hle] at hl0 hs
 have hl0':nL (BD KK 6) ([.slice [] (.own 1),.int .i64 0,.int .i64 0,.ptr 2 0,.mslice 4 0 sp.length 1,.slice [] (.own 5),.slice (Rw Span.cells sp) .no,.int .i64 (sp.length:Int),.int .i64 0],[.cells [.int .i64 p.temps,.slice (Rw nH.cells p.arrays) .no,.slice (Rw mU.cells p.blocks) .no,.int .i64 p.inn,.int .i64 p.out],.front 0 0,.cells [.slice (Rw Span.cells sp) .no],.front 0 0,.cells ((sX sp.length 0).map n_),.front 0 0])=some (.exit 0,[.slice [] (.own 1),.int .i64 0,.int .i64 0,.ptr 2 0,.mslice 4 0 sp.length 1,Vs 5 1 (sZ sp).length,.slice (Rw Span.cells sp) .no,.int .i64 (sp.length:Int),.int .i64 (sp.length:Int)],KA [.int .i64 p.temps,.slice (Rw nH.cells p.arrays) .no,.slice (Rw mU.cells p.blocks) .no,.int .i64 p.inn,.int .i64 p.out] sp (sX sp.length sp.length) (sB sp sp.length)):=hl0
 have hl2':nL (BE KK 10) ([.slice [] (.own 1),.int .i64 0,.int .i64 0,.ptr 2 0,.mslice 4 0 sp.length 1,.ptr 6 0,.ptr 8 0,.int .i64 0,Vs 5 1 (sZ sp).length,.int .i64 ((sZ sp).length:Int),.int .i64 0],
  [.cells [.int .i64 p.temps,.slice (Rw nH.cells p.arrays) .no,.slice (Rw mU.cells p.blocks) .no,.int .i64 p.inn,.int .i64 p.out],.front 0 0,.cells [.slice (Rw Span.cells sp) .no],.front 0 0,.cells ((sX sp.length sp.length).map n_),Vb (ci .i64) 1 (sZ sp),.cells [.slice [] (.own 7),.func 44 [] []],.front 0 0,.cells [.slice [] (.own 9),.func 45 [] []],.front 0 0]) =
  some (.exit 2,[.slice [] (.own 1),.int .i64 0,.int .i64 0,.ptr 2 0,.mslice 4 0 sp.length 1,.ptr 6 0,.ptr 8 0,.int .i64 (slN sp),Vs 5 1 (sZ sp).length,.int .i64 ((sZ sp).length:Int),.int .i64 ((rT sp).length:Int)],HS [.int .i64 p.temps,.slice (Rw nH.cells p.arrays) .no,.slice (Rw mU.cells p.blocks) .no,.int .i64 p.inn,.int .i64 p.out] sp (slS sp) (sZ sp) SF nF SU nU):=by
   rw [Vw (f:=fS sp) (e:=eS sp)];exact hl2
 have hfin:=fun b0 b1 b2 b3 R=>af3 (b0:=b0) (b1:=b1) (b2:=b2) (b3:=b3) (R:=R) (O:=slS sp) (n:=sp.length) Pq
 have hs':KK 40 [lS.l_ (Vs 5 1 (sZ sp).length),lS.l_ (.func 41 [] [.ptr 2 0])] (KA [.int .i64 p.temps,.slice (Rw nH.cells p.arrays) .no,.slice (Rw mU.cells p.blocks) .no,.int .i64 p.inn,.int .i64 p.out] sp (sX sp.length sp.length) (sB sp sp.length))=some (.ret (.tuple []),[.cells [.int .i64 p.temps,.slice (Rw nH.cells p.arrays) .no,.slice (Rw mU.cells p.blocks) .no,.int .i64 p.inn,.int .i64 p.out],.front 0 0,.cells [.slice (Rw Span.cells sp) .no],.front 0 0,.cells ((sX sp.length sp.length).map n_),Vb (ci .i64) 1 (sZ sp)]):=hs
 clear hl0 hs hl2
 generalize KA [.int .i64 p.temps,.slice (Rw nH.cells p.arrays) .no,.slice (Rw mU.cells p.blocks) .no,.int .i64 p.inn,.int .i64 p.out] sp (sX sp.length sp.length) (sB sp sp.length)=H0 at *
 simp [m21,h45,hmk,hl0',-List.map_set,hs',OC,hl2',HS,ZE]
 simp only [lS.qJ,as6,List.map_nil,hfin]
 rfl
end
noncomputable section
open Go Hk
@[simp] theorem apZ {m:Nat}{h:Hk.lT}{u v w:lS}:lS.qJ m h (.tuple [u,v,w])=.tuple [(match u with | .agg cs=>.agg (cs.map (·.oL m h)) | v=>v.oL m h),(match v with | .agg cs=>.agg (cs.map (·.oL m h)) | v=>v.oL m h),(match w with | .agg cs=>.agg (cs.map (·.oL m h)) | v=>v.oL m h)]:=(rfl)
@[simp] theorem agE {u v w:lS}:lS.l_ (.tuple [u,v,w])=.tuple [(match u with | .agg cs=>.agg (cs.map lS.pQ) | v=>v.pQ),(match v with | .agg cs=>.agg (cs.map lS.pQ) | v=>v.pQ),(match w with | .agg cs=>.agg (cs.map lS.pQ) | v=>v.pQ)]:=(rfl)
@[simp] theorem ap0 {m:Nat}{h:Hk.lT}{u v w x:lS}:lS.qJ m h (.tuple [u,v,w,x])=.tuple [(match u with | .agg cs=>.agg (cs.map (·.oL m h)) | v=>v.oL m h),(match v with | .agg cs=>.agg (cs.map (·.oL m h)) | v=>v.oL m h),(match w with | .agg cs=>.agg (cs.map (·.oL m h)) | v=>v.oL m h),(match x with | .agg cs=>.agg (cs.map (·.oL m h)) | v=>v.oL m h)]:=(rfl)
@[simp] theorem agF {u v w x:lS}:lS.l_ (.tuple [u,v,w,x])=.tuple [(match u with | .agg cs=>.agg (cs.map lS.pQ) | v=>v.pQ),(match v with | .agg cs=>.agg (cs.map lS.pQ) | v=>v.pQ),(match w with | .agg cs=>.agg (cs.map lS.pQ) | v=>v.pQ),(match x with | .agg cs=>.agg (cs.map lS.pQ) | v=>v.pQ)]:=(rfl)
theorem VK (m:List Bool):(Am m).first≤(Am m).last∧(Am m).last<m.length∧-1≤(Am m).first∧((Am m).first<0→(Am m).last=-1):=by
 induction m using PS.AO with
 | h0=>exact⟨by decide,by decide,by decide,fun _=>rfl⟩
 | h1 l b ih =>
  obtain⟨h1,h2,h3,h4⟩:=ih
  rw [x_]
  have hl:((l++[b]).length:Int)=(l.length:Int)+1:=by simp
  rw [hl]
  cases b with
  | false=>simp only [Bool.false_eq_true,if_false];exact⟨h1,by omega,h3,h4⟩
  | true =>
   simp only [if_true]
   unfold D1
   by_cases hf:(Am l).first<0
   ·rw [if_pos hf];exact⟨Int.le_refl _,by show(l.length:Int)<_;omega,by show(-1:Int)≤(l.length:Int);omega,fun h=>by have:(l.length:Int)<0:=h;omega⟩
   ·rw [if_neg hf]
    refine⟨?_,?_,?_,?_⟩ <;> simp only <;> omega
theorem VL {p:IR}:∀s∈wQ p,0≤s.first→s.first≤s.last:=by
 intro s hs _
 unfold wQ LS at hs
 obtain⟨t,_,rfl⟩:=au6.1 hs
 exact(VK _).1
theorem aAN {p:IR}(h0:pB p=0) (ht:p.temps≤1000000) (h:Hk.lT):KK 21 [.agg [.int .i64 p.temps,.slice (Rw nH.cells p.arrays) .no,.slice (Rw mU.cells p.blocks) .no,.int .i64 p.inn,.int .i64 p.out]] h =
  some (.ret (.tuple [.slice (Rw (ci .i64) (slS (wQ p))) .no,.int .i64 (slN (wQ p)),.int .i64 0]),h) :=
 c21 (p:=p) (sp:=wQ p) (n:=p.temps.toNat) Ax (by omega) VL (fun h=>by have:=c39 p h;rw [if_pos h0,h0] at this;exact this) h
theorem axE (a:Int):∃b,N3 .i64 a 4=some b:=⟨_,by unfold N3;rw [if_neg (by omega)]⟩
theorem ZA {w:Bool}{a s:Int}{l:List Int}{u:nH}{n:Int}(hl:l.length≤2000000):∃r,FJ w a l s u n=some r∧r.2.arrays.length=l.length+1:=by
 have e:∀x:Int,pD 8 l [x]=some (l++[x]):=fun x=>oI (by omega) (by omega) (by simp)
 cases w
 ·unfold FJ NP
  cases decide (u.kind=2)
  ·obtain⟨b,hb⟩:=axE (IntKind.i64.wrap ((IntKind.i64.wrap (IntKind.i64.wrap (u.elem*u.len)+4))-1))
   exact⟨(_,⟨a,l++[n],s⟩),by simp only [oJ,e,mN,hb];rfl,by simp⟩
  ·exact⟨(_,⟨a,l++[IntKind.i64.wrap (a+u.off)],s⟩),by simp only [oJ,nV,e,mN];rfl,by simp⟩
 ·exact⟨(_,⟨a,l++[u.off],s⟩),by simp only [FJ,nV,e,mN];rfl,by simp⟩
theorem ZB {q:IR}(hl:q.arrays.length≤2000000):∀(d i:Nat) (x:Int) (f:uV),q.arrays.length=i+d→f.arrays.length=i→∃r,sG (Dx q (q.arrays.length:Int)) (x,(i:Int),f)=some (.x 0,r):=by
 intro d
 induction d with
 | zero =>
  intro i x f hi hf
  refine⟨_,pM (s':=(x,(i:Int),f)) ?_ (by simp)⟩
  have:¬(i:Int)<(q.arrays.length:Int):=by omega
  simp [Dx,this]
 | succ d ih =>
  intro i x f hi hf
  have hil:i<q.arrays.length:=by omega
  obtain⟨r,hr,hr2⟩:=ZA (w:=decide (q.arrays[i].kind=1)) (a:=f.image) (s:=f.size) (l:=f.arrays) (u:=q.arrays[i]) (n:=x) (by omega)
  have e1:o8 q.arrays (i:Int)=some q.arrays[i]:=by rw [pJ,ag8 hil]
  have hii:(i:Int)<(q.arrays.length:Int):=by omega
  obtain⟨z,hz⟩:=ih (i+1) r.1 r.2 (by omega) (by omega)
  refine⟨z,?_⟩
  rw [←hz]
  refine p5 ?_
  simp only [Dx,hii,decide_true,nV,e1,mN,hr,qL (show i≤4000000 by omega)]
theorem ai4 (q:IR):∃f e,t23 q=some (f,e):=by
 unfold t23
 simp only [t9,Wf,mN]
 by_cases h0:pB q=0
 ·have hlim:pV q=true:=by
   cases hh:pV q with
   | false=>exact absurd h0 (by simp [pB,hh])
   | true=>rfl
  have hl:q.arrays.length≤2000000:=by
   have:=(Bz.1 hlim).a1
   omega
  obtain⟨r,hr⟩:=ZB hl q.arrays.length 0 (IntKind.wrap .i64 ((IntKind.wrap .i64 (4+(IntKind.wrap .i64 (4*q.temps))))+q.out)) ⟨(IntKind.wrap .i64 (4+(IntKind.wrap .i64 (4*q.temps)))),[],0⟩ (by omega) rfl
  have e0:((0:Nat):Int)=0:=rfl
  rw [e0] at hr
  simp only [h0,decide_true,Bool.not_true,oJ,hr,mN,uW,vA,beq_self_eq_true,cond_true]
  by_cases hb:(65536:Int)<r.1
  ·exact⟨_,_,by simp only [hb,decide_true,nV];rfl⟩
  ·exact⟨_,_,by simp only [hb,decide_false,oJ];rfl⟩
 ·exact⟨_,_,by simp only [h0,decide_false,Bool.not_false,nV];rfl⟩
def nB (p:IR):IR:=(aa1 p (slS (wQ p))).1
theorem c10 {p:IR}(h0:pB p=0) (ht:p.temps≤1000000) {f:uV}{e:Int}(hf:t23 (nB p)=some (f,e)) (h:Hk.lT):KK 10 [.agg [.int .i64 p.temps,.slice (Rw nH.cells p.arrays) .no,.slice (Rw mU.cells p.blocks) .no,.int .i64 p.inn,.int .i64 p.out]] h =
  some (.ret (.tuple [.agg [.int .i64 (nB p).temps,.slice (Rw nH.cells (nB p).arrays) .no,.slice (Rw mU.cells (nB p).blocks) .no,.int .i64 (nB p).inn,.int .i64 (nB p).out],.agg [.int .i64 f.image,.slice (Rw (ci .i64) f.arrays) .no,.int .i64 f.size],.int .i64 e]),h):=by
 refine nN rfl rfl (oN (alR _ _ _) ?_)
 have k21:=aAN h0 ht
 have k22:=fun h=>awS p (slS (wQ p)) h
 simp only [aqN,pH] at k22
 have k23:=fun h=>Ui (nB p) h
 simp only [hf,pH] at k23
 unfold nB at *
 simp [m10,k21,k22,k23,nE]
def Y2 (n:Int):Wrt 54 n [] (fun k=>[yH k]) (fun o s=>t127 ⟨⟨n⟩⟩ o s) (fun k t=>t124 ⟨⟨n⟩⟩ k t) where
 ff:=126
 fe:=125
 fo:=127
 fd:=124
 hf:=by kernel_rfl
 he:=by kernel_rfl
 ho:=by kernel_rfl
 hd:=by kernel_rfl
 kf:=fun h=>aeV ⟨⟨n⟩⟩ h
 ke:=fun k h=>Dq ⟨⟨n⟩⟩ k h
 ko:=fun o s h=>avR ⟨⟨n⟩⟩ o s h
 kd:=fun k t h=>Sx ⟨⟨n⟩⟩ k t h
def pA (p:IR):lS:=.agg [.int .i64 p.temps,.slice (Rw nH.cells p.arrays) .no,.slice (Rw mU.cells p.blocks) .no,.int .i64 p.inn,.int .i64 p.out]
theorem QG {p:IR}(h0:pB p≠0) {m:Int}(hm:0≤m∧m≤2) (h:Hk.lT):KK 7 [pA p,.int .i64 m] h=some (.ret (.tuple [.slice [] .no,.agg [.int .i64 0,.int .i64 0,.int .i64 0],.int .i64 0,.int .i64 (pB p)]),h):=by
 refine nN rfl rfl (oN (KT _ _ _ _) ?_)
 have k9:=fun h=>r9 p h
 simp only [t9,Wf,pH] at k9
 have m1:¬m<0:=by omega
 have m2:¬2<m:=by omega
 simp [m7,pA,k9,h0,m1,m2,nE]
theorem QH {p:IR}(h0:pB p=0) (ht:p.temps≤1000000) {f:uV}{e:Int}(hf:t23 (nB p)=some (f,e)) (he:e≠0) {m:Int}(hm:0≤m∧m≤2) (h:Hk.lT):KK 7 [pA p,.int .i64 m] h=some (.ret (.tuple [.slice [] .no,.agg [.int .i64 0,.int .i64 0,.int .i64 0],.int .i64 0,.int .i64 e]),h):=by
 refine nN rfl rfl (oN (KT _ _ _ _) ?_)
 have k9:=fun h=>r9 p h
 simp only [t9,Wf,pH] at k9
 have k10:=c10 h0 ht hf
 have m1:¬m<0:=by omega
 have m2:¬2<m:=by omega
 simp [m7,pA,k9,k10,h0,he,m1,m2,nE]
end
noncomputable section
open Go Hk
def plT (q:IR) (f:uV):Option (List mS):=wT q f [] (fun k=>[yH k]) (fun o s=>t127 ⟨⟨(q.blocks.length:Int)⟩⟩ o s) (fun k t=>t124 ⟨⟨(q.blocks.length:Int)⟩⟩ k t) false (q.blocks.length:Int)
theorem FU {t:Nat}{n:Int}:lS.l_ (.iface t (.agg [.int .i64 n]))=.iface t (.agg [.int .i64 n]):=rfl
theorem auG {p:IR}(h0:pB p=0) (ht:p.temps≤1000000) {f:uV}(hf:t23 (nB p)=some (f,0)) {W:List mS}(hW:plT (nB p) f=some W) (h:Hk.lT) :
  KK 7 [pA p,.int .i64 0] h=some (.ret (.tuple [.slice (Rw mS.cells W) .no,.agg [.int .i64 (nB p).inn,.int .i64 (nB p).out,.int .i64 f.size],.int .i64 (inc (nB p).blocks.length),.int .i64 0]),h):=by
 refine nN rfl rfl (oN (KT _ _ _ _) ?_)
 have k9:=fun h=>r9 p h
 simp only [t9,Wf,pH] at k9
 have k10:=c10 h0 ht hf
 have k11:=fun hp=>c11 (Y2 ((nB p).blocks.length:Int)) (nB p) f false ((nB p).blocks.length:Int) hp
 unfold plT at hW
 simp only [hW,pH] at k11
 have k13:=fun h=>Ud (nB p) f h
 simp only [t13,pH] at k13
 have k14:=fun h=>afE ((nB p).blocks.length:Int) h
 simp only [t14,pH] at k14
 simp [m7,pA,k9,k10,k11,k13,k14,h0,nE,Ct,FU,inc]
theorem auH {p:IR}(h0:pB p=0) (ht:p.temps≤1000000) {f:uV}(hf:t23 (nB p)=some (f,0)) {W:List mS}(hW:plT (nB p) f=some W) {D:List mS}(hD:t12 W=some D) (h:Hk.lT) :
  KK 7 [pA p,.int .i64 1] h=some (.ret (.tuple [.slice (Rw mS.cells D) .no,.agg [.int .i64 (nB p).inn,.int .i64 (nB p).out,.int .i64 f.size],.int .i64 (inc (nB p).blocks.length),.int .i64 0]),h):=by
 refine nN rfl rfl (oN (KT _ _ _ _) ?_)
 have k9:=fun h=>r9 p h
 simp only [t9,Wf,pH] at k9
 have k10:=c10 h0 ht hf
 have k11:=fun hp=>c11 (Y2 ((nB p).blocks.length:Int)) (nB p) f false ((nB p).blocks.length:Int) hp
 unfold plT at hW
 simp only [hW,pH] at k11
 have k12:=fun h=>r12 W h
 simp only [hD,pH] at k12
 have k13:=fun h=>Ud (nB p) f h
 simp only [t13,pH] at k13
 have k14:=fun h=>afE ((nB p).blocks.length:Int) h
 simp only [t14,pH] at k14
 simp [m7,pA,k9,k10,k11,k12,k13,k14,h0,nE,Ct,FU,inc]
end
section
open Go Hk
theorem Lu {α:Type}{l:List α}{i:Int}(h0:0≤i) (h1:i<(l.length:Int)):∃x,o8 l i=some x:=by
 unfold o8
 rw [if_pos h0]
 exact⟨_,ag8 (by omega)⟩
theorem PX (l:List nH) (f:uV) (o:Op):∃s,t24 l f o=some s:=by
 have e2:∀w,(w=false→0≤o.imm∧o.imm<(l.length:Int))→∃s,FL w f o l=some s:=by
  intro w hw
  cases w
  ·unfold FL Jh
   by_cases h:(f.arrays.length:Int)≤o.imm
   ·exact⟨_,by simp only [h,decide_true,nV,oJ];rfl⟩
   ·obtain⟨x,hx⟩:=Lu (hw rfl).1 (hw rfl).2
    obtain⟨y,hy⟩:=Lu (l:=f.arrays) (hw rfl).1 (by omega)
    exact⟨_,by simp only [h,decide_false,oJ,hx,hy,mN];rfl⟩
  ·exact⟨_,rfl⟩
 have e1:∀w,(w=false→0≤o.imm)→∃s,FK w f o l=some s:=by
  intro w hw
  unfold FK
  cases w
  ·rw [oJ];exact e2 _ fun h=>⟨hw rfl,by simpa using h⟩
  ·rw [nV];exact e2 _ fun h=>by cases h
 unfold t24 t53 Jz
 by_cases h1:o.kind=18 <;> by_cases h2:o.kind=19 <;> simp only [h1,h2,decide_true,decide_false,nV,oJ,mN,Bool.not_true,Bool.not_false] <;>
  exact e1 _ fun h=>by simp at h <;> omega
section
variable {P:Int→Prop}{n:Int}{q:IR}{f:uV}
def Ik (b:mU):Nat:=19*b.ops.length+21
def uZ (l:List mU):Nat:=(l.map Ik).sum
end
end
noncomputable section
open Go Hk
def aeM (mm:Nat) (aB:R):Option (nT×lT) :=
 (fun aA aC=>Ex.oA aB.1 (nZ mm aA aC)) (gd aB.2.1 0) aB.2.2
def Yt (K:mA) (m:Nat) (aF:lS) (aD:lS) (aA:lS) (aE:lT) (aB:lS) (aC:lS):Option R :=
 mH aF (bo .add aD (.int .i64 1) fun aG=>fa 2 aA fun aH=>ld false 1 aE aH fun aI=>ix 5 aI aB fun aJ=>fa 0 aJ fun aK=>ld false 1 aE aK fun aL=>ln aL fun aM=>(CS aM (.int .i64 500)).bind fun aN=>bo .add aG aN fun t53=>bo .add aB (.int .i64 1) fun aO=>mK m .normal [aA,aC,t53,aO] aE) (mK m (.exit 0) [aA,aC,aD,aB] aE)
def JA (aD:Bool) (aB:Int) (p0:IR) (aA:Int):Option (Ey×Int×Int) :=
 tc aD (tb ((o8 p0.blocks aA)) fun aC=>some (.n,((IntKind.wrap .i64 ((IntKind.wrap .i64 (aB+1))+(min ((aa5 aC.ops:Nat):Int) 500))),(IntKind.wrap .i64 (aA+1))))) (some ((.x 0),(aB,aA)))
theorem awA (w40:Bool) (w41:Int) (p0:IR) (w42:Int):(Yt KK 1 (.bool w40) (.int .i64 w41) (.ptr 0 0) ([.cells [(.int .i64 p0.temps),(.slice (Rw nH.cells p0.arrays) .no),(.slice (Rw mU.cells p0.blocks) .no),(.int .i64 p0.inn),(.int .i64 p0.out)]]:lT) (.int .i64 w42) (.bool false))=tm (JA w40 w41 p0 w42) fun r=>(r.1.ex,[(.ptr 0 0),(.bool false),(.int .i64 r.2.1),(.int .i64 r.2.2)],([.cells [(.int .i64 p0.temps),(.slice (Rw nH.cells p0.arrays) .no),(.slice (Rw mU.cells p0.blocks) .no),(.int .i64 p0.inn),(.int .i64 p0.out)]]:lT)):=by
 cases w40 <;> simp [-l9,-lV,-lU,-lW,-lZ,-lY,-lX,Yt,JA]
def T0 (K:mA) (m:Nat) (s:List lS×lT):Option R :=
 (fun aA aD aB aC aE=>fa 2 aA fun t28=>ld false 1 aE t28 fun t29=>ln t29 fun t30=>bo .lss aC t30 fun t31=>gS true t31 (mM aB aE) aE fun t32 aF=>gS true t31 (bo .leq t32 (.int .i64 150) fun aH=>mM aH aF) aF fun aI aG=>(nA t31 aI (.bool false)).bind fun aJ=>Yt K m aJ aB aA aG aC aD) (gd s.1 0) (gd s.1 1) (gd s.1 2) (gd s.1 3) s.2
def Gy (p0:IR) (aA:Int×Int):Option (Ey×Int×Int) :=
 tc (decide (aA.2<((aa5 p0.blocks:Nat):Int))) (JA (decide (aA.1≤150)) aA.1 p0 aA.2) (JA false aA.1 p0 aA.2)
theorem atW (p0:IR) (s22:Int×Int):T0 KK 1 ([(.ptr 0 0),(.bool false),(.int .i64 s22.1),(.int .i64 s22.2)],([.cells [(.int .i64 p0.temps),(.slice (Rw nH.cells p0.arrays) .no),(.slice (Rw mU.cells p0.blocks) .no),(.int .i64 p0.inn),(.int .i64 p0.out)]]:lT))=tm (Gy p0 s22) fun r=>(r.1.ex,[(.ptr 0 0),(.bool false),(.int .i64 r.2.1),(.int .i64 r.2.2)],([.cells [(.int .i64 p0.temps),(.slice (Rw nH.cells p0.arrays) .no),(.slice (Rw mU.cells p0.blocks) .no),(.int .i64 p0.inn),(.int .i64 p0.out)]]:lT)):=by
 simp +contextual [-l9,-lV,-lU,-lW,-lZ,-lY,-lX,T0,Gy,awA]
theorem aiW (p0:IR) (i1:Int) (i2:Int):nL (T0 KK 1) ([(.ptr 0 0),(.bool false),(.int .i64 i1),(.int .i64 i2)],([.cells [(.int .i64 p0.temps),(.slice (Rw nH.cells p0.arrays) .no),(.slice (Rw mU.cells p0.blocks) .no),(.int .i64 p0.inn),(.int .i64 p0.out)]]:lT))=tm (sG (Gy p0) (i1,i2)) fun r=>(r.1.ex,[(.ptr 0 0),(.bool false),(.int .i64 r.2.1),(.int .i64 r.2.2)],([.cells [(.int .i64 p0.temps),(.slice (Rw nH.cells p0.arrays) .no),(.slice (Rw mU.cells p0.blocks) .no),(.int .i64 p0.inn),(.int .i64 p0.out)]]:lT)):=by
 exact s7 (enc:=fun s22=>([(.ptr 0 0),(.bool false),(.int .i64 s22.1),(.int .i64 s22.2)],([.cells [(.int .i64 p0.temps),(.slice (Rw nH.cells p0.arrays) .no),(.slice (Rw mU.cells p0.blocks) .no),(.int .i64 p0.inn),(.int .i64 p0.out)]]:lT))) (fun s22=>atW p0 s22) (i1,i2)
def Yu (K:mA) (t73:lS) (aA:lT):Option R :=
 some (.ret,[t73],aA)
def P_ (aA:Bool):Option (Bool) :=
 some aA
theorem awB (w76:Bool) (p0:IR):((Yu KK (.bool w76) ([.cells [(.int .i64 p0.temps),(.slice (Rw nH.cells p0.arrays) .no),(.slice (Rw mU.cells p0.blocks) .no),(.int .i64 p0.inn),(.int .i64 p0.out)]]:lT))).bind (aeM 0)=tm (P_ w76) fun r=>(.ret (.bool r),[]):=by
 cases w76 <;> simp [-l9,-lV,-lU,-lW,-lZ,-lY,-lX,Yu,P_,aiW,aeM]
def m5 (K:mA) (a0:lS) (h0:lT):Option (nT×lT) :=
 (mC (nP 5 h0 a0) fun aN aH=>(nL (T0 K (aa5 aH)) ([aN,(.bool false),(.int .i64 0),(.int .i64 0)],aH)).bind fun aA=>(fun aB aC aD aJ aF=>Ex.nC aA.1 none (fun aK=>Ex.inBlock 0 aK (bo .leq aD (.int .i64 150) fun aE=>gS true aE (fa 0 aB fun aO=>mM aO aF) aF fun aP aG=>gS true aE (ld false 1 aG aP fun aQ=>mM aQ aG) aG fun aR aI=>gS true aE (bo .leq aR (.int .i64 60) fun t70=>mM t70 aI) aI fun aS aM=>(nA aE aS (.bool false)).bind fun t73=>Yu K t73 aM) (fun aL=>some (aL,[aC],aF)))) (gd aA.2.1 0) (gd aA.2.1 1) (gd aA.2.1 2) (gd aA.2.1 3) aA.2.2).bind (aeM (aa5 h0))
theorem avF (K:mA) (a0:lS) (h0:lT):p9 Tryz.prog nM nL K 5 [a0] h0=m5 (mW nM K) a0 h0:=by kernel_rfl
def t5 (p0:IR):Option (Bool) :=
 tb (sG (Gy p0) (0,0)) fun aA=>uW aA.1 none fun aB=>vA 0 aB (tc (decide (aA.2.1≤150)) (P_ (decide (p0.temps≤60))) (P_ false)) fun aC=>Ga aC (some false)
theorem b5 (p0:IR):m5 KK (.agg [(.int .i64 p0.temps),(.slice (Rw nH.cells p0.arrays) .no),(.slice (Rw mU.cells p0.blocks) .no),(.int .i64 p0.inn),(.int .i64 p0.out)]) []=tm (t5 p0) fun r=>(.ret (.bool r),[]):=by
 simp +contextual [-l9,-lV,-lU,-lW,-lZ,-lY,-lX,m5,t5,aiW,aeM,awB]
theorem r5 (p0:IR) (h:lT):KK 5 [(.agg [(.int .i64 p0.temps),(.slice (Rw nH.cells p0.arrays) .no),(.slice (Rw mU.cells p0.blocks) .no),(.int .i64 p0.inn),(.int .i64 p0.out)])] h=tm (t5 p0) fun r=>(.ret (.bool r),h):=oE rfl rfl (avF ..) (b5 p0)
end
section
open Go Hk
def CI (x:mS):List mS:=if x.kind=1 then [x] else [x,x]
def rC (l:List mS):List mS:=l.flatMap CI
theorem DY:∀l:List mS,(rC l).length≤2*l.length
 | []=>ak5 _
 | x::r=>by
  have:=DY r
  unfold rC at this ⊢
  rw [List.flatMap_cons,au9]
  have h:(CI x).length≤2:=by unfold CI;split <;> simp
  simp only [ar8];omega
theorem ai3 {l:List mS}(hl:l.length≤1000000):t12 l=some (rC l):=by
 have key:∀(d i:Nat),l.length=i+d→sG (B0 l (l.length:Int)) (rC (l.take i),(i:Int))=some (.x 0,(rC l,(l.length:Int))):=by
  intro d
  induction d with
  | zero =>
   intro i hi
   obtain rfl:i=l.length:=by omega
   rw [List.take_length]
   refine pM ?_ (by simp)
   simp [B0]
  | succ d ih =>
   intro i hi
   rw [←ih (i+1) (by omega)]
   refine p5 ?_
   have hil:i<l.length:=by omega
   have e1:o8 l (i:Int)=some l[i]:=by rw [pJ,ag8 hil]
   have hii:(i:Int)<(l.length:Int):=by omega
   have hd:=DY (l.take i)
   have ht:(l.take i).length=i:=by rw [ar6];omega
   have e2:pD 80 (rC (l.take i)) [l[i]]=some (rC (l.take i)++[l[i]]):=oI (by omega) (by omega) (by simp)
   have e3:pD 80 (rC (l.take i)++[l[i]]) [l[i]]=some (rC (l.take i)++[l[i]]++[l[i]]):=oI (by omega) (by rw [au9];simp only [ar8,ay5];omega) (by simp)
   have e4:rC (l.take (i+1))=rC (l.take i)++CI l[i]:=by
    rw [List.take_succ_eq_append_getElem hil]
    unfold rC
    rw [List.flatMap_append];simp
   rw [e4]
   unfold CI
   by_cases hk:l[i].kind=1
   ·simp [B0,hii,e1,e2,Jg,hk,qL (show i≤4000000 by omega)]
   ·simp only [B0,hii,decide_true,nV,e1,mN,e2,Jg,hk,decide_false,Bool.not_false,e3,qL (show i≤4000000 by omega),if_false]
    simp
 have:=key l.length 0 (by omega)
 have e0:((0:Nat):Int)=0:=rfl
 have e1:rC (l.take 0)=[]:=rfl
 rw [e0,e1] at this
 simp [t12,this,uW,vA]
def E_ (l:List mU):Nat:=(l.map fun b=>1+min b.ops.length 500).sum
theorem W5:∀l:List mU,l.length≤E_ l
 | []=>ak5 _
 | b::r=>by
  have e:E_ (b::r)=(1+min b.ops.length 500)+E_ r:=by simp [E_]
  have:=W5 r
  rw [e];simp only [ar8];omega
theorem af9 {p:IR}:∀(d i:Nat),p.blocks.length=i+d→E_ (p.blocks.take i)≤1000→∃k,k≤p.blocks.length∧sG (Gy p) ((E_ (p.blocks.take i):Int),(i:Int))=some (.x 0,((E_ (p.blocks.take k):Int),(k:Int))) ∧
  (k=p.blocks.length∨150<E_ (p.blocks.take k)):=by
 intro d
 induction d with
 | zero =>
  intro i hi _
  have hn:¬(i:Int)<(p.blocks.length:Int):=by omega
  exact⟨i,by omega,pM (by simp [Gy,JA,hn]) (by simp),.inl (by omega)⟩
 | succ d ih =>
  intro i hi hc
  have hil:i<p.blocks.length:=by omega
  have hii:(i:Int)<(p.blocks.length:Int):=by omega
  have hci:=W5 (p.blocks.take i)
  rw [ar6] at hci
  by_cases h150:E_ (p.blocks.take i)≤150
  ·have e1:o8 p.blocks (i:Int)=some p.blocks[i]:=by rw [pJ,ag8 hil]
   have e2:E_ (p.blocks.take (i+1))=E_ (p.blocks.take i)+(1+min p.blocks[i].ops.length 500):=by
    unfold E_
    rw [List.take_succ_eq_append_getElem hil,List.map_append,List.sum_append]
    simp only [as6,List.map_nil,List.sum_cons,List.sum_nil,Nat.add_zero]
   obtain⟨k,k1,k2,k3⟩:=ih (i+1) (by omega) (by omega)
   refine⟨k,k1,?_,k3⟩
   rw [←k2]
   refine p5 ?_
   have hh:(E_ (p.blocks.take i):Int)≤150:=by omega
   have w1:IntKind.i64.wrap ((E_ (p.blocks.take i):Int)+1)=(E_ (p.blocks.take i):Int)+1:=by rw [wrap64 (by omega) (by omega)]
   have hm:(min (p.blocks[i].ops.length:Int) 500)=((min p.blocks[i].ops.length 500:Nat):Int):=by omega
   have w2:IntKind.i64.wrap ((E_ (p.blocks.take i):Int)+1+((min p.blocks[i].ops.length 500:Nat):Int))=((E_ (p.blocks.take (i+1)):Nat):Int):=by rw [wrap64 (by omega) (by omega)];omega
   simp only [Gy,JA,hii,decide_true,nV,hh,e1,mN,w1,hm,w2,qL (show i≤4000000 by omega)]
  ·have hh:¬(E_ (p.blocks.take i):Int)≤150:=by omega
   exact⟨i,by omega,pM (by simp only [Gy,JA,hii,decide_true,nV,hh,decide_false,oJ]) (by simp),.inr (by omega)⟩
theorem Xe:∀l:List mU,E_ l≤150→l.length≤E_ l∧uZ l≤30*E_ l
 | [],_=>⟨ak5 _,ak5 _⟩
 | b::r,h=>by
  have e:E_ (b::r)=(1+min b.ops.length 500)+E_ r:=by simp [E_]
  have e2:uZ (b::r)=(19*b.ops.length+21)+uZ r:=by simp [uZ,Ik]
  obtain⟨h1,h2⟩:=Xe r (by omega)
  rw [e,e2]
  simp only [ar8]
  omega
theorem aw9 (p:IR):∃b,t5 p=some b∧(b=true→p.blocks.length≤150∧uZ p.blocks≤4500∧p.temps≤60):=by
 obtain⟨k,k1,k2,k3⟩:=af9 (p:=p) p.blocks.length 0 (by omega) (by simp [E_])
 have e0:((0:Nat):Int)=0:=rfl
 have e1:((E_ (p.blocks.take 0):Nat):Int)=0:=rfl
 rw [e0,e1] at k2
 unfold t5
 rw [k2]
 simp only [mN,uW,vA,beq_self_eq_true,cond_true,P_]
 by_cases h1:(E_ (p.blocks.take k):Int)≤150
 ·refine⟨decide (p.temps≤60),by simp only [h1,decide_true,nV],fun h=>?_⟩
  have hk:k=p.blocks.length:=by omega
  rw [hk,List.take_length] at h1
  have:=Xe p.blocks (by omega)
  exact⟨by omega,by omega,by simpa using h⟩
 ·exact⟨false,by simp only [h1,decide_false,oJ],fun h=>by cases h⟩
theorem By (p:IR):(nB p).blocks=[]∨∃l,(nB p).blocks=p.blocks.map (CK l):=by
 unfold nB aa1
 split
 ·exact .inl rfl
 split
 ·exact .inl rfl
 split
 ·exact .inl rfl
 ·exact .inr ⟨_,rfl⟩
theorem YK {l:List Int}{b:mU}:(CK l b).ops.length=b.ops.length:=by simp [CK]
theorem Im (p:IR):uZ (nB p).blocks≤uZ p.blocks∧(nB p).blocks.length≤p.blocks.length:=by
 rcases By p with h | ⟨l,h⟩
 ·rw [h];exact⟨Nat.zero_le _,Nat.zero_le _⟩
 ·rw [h]
  refine⟨Nat.le_of_eq ?_,by simp⟩
  unfold uZ
  rw [List.map_map]
  congr 1
  refine List.map_congr_left fun b _=>?_
  simp [Ik,YK]
end
section
open Go Hk
@[simp] theorem aCI {a0 a1 a2 a3 a4 a5 a6 a7 a8 b0 b1 b2 b3 b4 b5 b6 b7 b8:Int}{a9 b9:Bool}:qD [.i,.i,.i,.i,.i,.i,.i,.i,.i,.b] (.agg [.int .i64 a0,.int .i64 a1,.int .i64 a2,.int .i64 a3,.int .i64 a4,.int .i64 a5,.int .i64 a6,.int .i64 a7,.int .i64 a8,.bool a9]) (.agg [.int .i64 b0,.int .i64 b1,.int .i64 b2,.int .i64 b3,.int .i64 b4,.int .i64 b5,.int .i64 b6,.int .i64 b7,.int .i64 b8,.bool b9])=some ((a0 == b0)&&((a1 == b1)&&((a2 == b2)&&((a3 == b3)&&((a4 == b4)&&((a5 == b5)&&((a6 == b6)&&((a7 == b7)&&((a8 == b8)&&((a9 == b9)&&true)))))))))):=(rfl)
@[simp] theorem aD9 {a0 a1 a2 b0 b1 b2:Int}:qD [.i,.i,.i] (.agg [.int .i64 a0,.int .i64 a1,.int .i64 a2]) (.agg [.int .i64 b0,.int .i64 b1,.int .i64 b2])=some ((a0 == b0)&&((a1 == b1)&&((a2 == b2)&&true))):=(rfl)
end
section
open Go Hk
set_option maxRecDepth 100000 in
theorem aBP:Od Tryz.prog nM (qT 200) 16 6 [] []=some (.ret (.bool true),[]):=by kernel_rfl
theorem c6 (h:lT):KK 6 [] h=some (.ret (.bool true),h):=nN rfl rfl (D0 200 16 6 _ _ _ aBP)
abbrev t6:Option Bool:=some true
theorem r6 (h:lT):KK 6 [] h=tm t6 fun r=>(.ret (.bool r),h):=c6 h
end
section
open Go Hk

end
section
open Go Hk
section
variable {W D:List mS}{k:Int}{x:mS}
end
end
end Go.Proofs.YtgllbnabmglcfaaGreatDoor
