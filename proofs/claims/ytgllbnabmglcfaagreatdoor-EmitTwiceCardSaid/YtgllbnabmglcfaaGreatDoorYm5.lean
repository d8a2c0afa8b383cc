/-
  The texts YM.Q1, YM.H1, YM.H2, YM.H3, YM.H4, YM.H5, YM.H6, YM.H7, YM.H8, YM.Q2, YM.Q3, YM.H9, YM.H10, YM.H11, YM.H12, YM.H13, YM.W2, YM.W3, YM.S7, YM.TE, YM.S8, YM.E1, YM.L6, YM.L4, YM.S9, one behind another. No conditions.
-/
import Derived.Test.YtgllbnabmglcfaaGreatDoorIm5
import Derived.Test.YtgllbnabmglcfaaGreatDoorIm1
import Derived.Test.YtgllbnabmglcfaaGreatDoorVt1
import Derived.Test.YtgllbnabmglcfaaGreatDoorYm3
import Derived.Test.YtgllbnabmglcfaaGreatDoorYm2
import Derived.Test.YtgllbnabmglcfaaGreatDoorYm4
import Derived.Test.YtgllbnabmglcfaaGreatDoorYm1
set_option linter.unusedVariables false
set_option linter.unusedSimpArgs false
set_option linter.all false
open Int renaming toNat_natCast → as0
open List renaming drop_eq_getElem_cons → ao4, getD_eq_getElem?_getD → ae9, getElem?_append_right → af4, getElem?_eq_getElem → ac6, getElem?_eq_some_iff → ac1, getElem?_map → af7, getElem_mem → as2, length → aa8, length_cons → aq8, length_map → ar3, length_take → ao3, map_cons → aq7, mem_map → ar2, nil_append → ar5, range → aq5, replicate → al7
open Nat renaming le_refl → ai1, zero_add → ar4
open Option renaming bind_some → ai3
namespace Hk.PQ
section
variable {α:Type}{key:α→Int}
def kg (key:α→Int) (l:List α) (i:Nat):Int:=match l[i]? with
 | some a=>key a
 | none=>0
theorem RW {l:List α}{i:Nat}{a:α}(h:l[i]?=some a):kg key l i=key a:=by unfold kg;rw [h]
def sw (l:List α) (i j:Nat):List α:=match l[i]?,l[j]? with
 | some a,some b=>(l.set i b).set j a
 | _,_=>l
theorem Xv {l:List α}{i j:Nat}{a b:α}(hi:l[i]?=some a) (hj:l[j]?=some b):sw l i j=(l.set i b).set j a:=by unfold sw;rw [hi,hj]
theorem Il {l:List α}{i j:Nat}:(sw l i j).length=l.length:=by
 unfold sw;split <;> simp
theorem Gu {l:List α}{i j:Nat}:(sw l i j).Perm l:=by
 unfold sw
 split
 ·rename_i a b ha hb
  obtain⟨h1,h2⟩:=ac1.1 ha
  obtain⟨h3,h4⟩:=ac1.1 hb
  subst h2;subst h4
  exact List.set_set_perm h1 h3
 ·exact List.Perm.refl _
theorem adE {l:List α}{i j:Nat}(hi:i<l.length) (hj:j<l.length) (k:Nat):kg key (sw l i j) k=if k=j then kg key l i else if k=i then kg key l j else kg key l k:=by
 rw [Xv (ac6 hi) (ac6 hj)]
 unfold kg
 by_cases h1:k=j
 ·subst h1
  rw [if_pos rfl,List.getElem?_set_self (by simpa using hj),ac6 hi]
 ·rw [if_neg h1,List.getElem?_set_ne (fun e=>h1 e.symm)]
  by_cases h2:k=i
  ·subst h2
   rw [if_pos rfl,List.getElem?_set_self hi,ac6 hj]
  ·rw [if_neg h2,List.getElem?_set_ne (fun e=>h2 e.symm)]
def lD (key:α→Int) (l:List α):Prop:=∀j,0<j→j<l.length→kg key l ((j-1)/2)≤kg key l j
def XY (key:α→Int) (l:List α) (i:Nat):Prop:=i<l.length∧(∀j,0<j→j<l.length→j≠i→kg key l ((j-1)/2)≤kg key l j) ∧
 ∀j,0<j→j<l.length→(j-1)/2=i→0<i→kg key l ((i-1)/2)≤kg key l j
def DnI (key:α→Int) (l:List α) (i:Nat):Prop:=(∀j,0<j→j<l.length→(j-1)/2≠i→kg key l ((j-1)/2)≤kg key l j) ∧
 (0<i→∀j,0<j→j<l.length→(j-1)/2=i→kg key l ((i-1)/2)≤kg key l j)
theorem SJ {l:List α}{i:Nat}(h:XY key l i) (h0:0<i) (hlt:kg key l i<kg key l ((i-1)/2)):XY key (sw l i ((i-1)/2)) ((i-1)/2):=by
 obtain⟨h1,h2,h3⟩:=h
 have hp:(i-1)/2<i:=by omega
 have hpl:(i-1)/2<l.length:=by omega
 have hk:=adE (key:=key) h1 hpl
 generalize hpe:(i-1)/2=p at *
 refine⟨by rw [Il];exact hpl,fun j j0 jl jp=>?_,fun j j0 jl jp p0=>?_⟩
 ·rw [Il] at jl
  rw [hk,hk]
  by_cases e1:j=i
  ·subst e1
   rw [hpe,if_pos rfl,if_neg jp,if_pos rfl];omega
  ·rw [if_neg jp,if_neg e1]
   by_cases e2:(j-1)/2=p
   ·rw [if_pos e2]
    have:=h2 j j0 jl e1
    rw [e2] at this;omega
   ·rw [if_neg e2]
    by_cases e3:(j-1)/2=i
    ·rw [if_pos e3]
     exact h3 j j0 jl e3 h0
    ·rw [if_neg e3]
     exact h2 j j0 jl e1
 ·rw [Il] at jl
  rw [hk,hk]
  have a1:(p-1)/2≠p:=by omega
  have a2:(p-1)/2≠i:=by omega
  rw [if_neg a1,if_neg a2]
  have b1:=h2 p p0 hpl (by omega)
  have b2:j≠p:=by omega
  rw [if_neg b2]
  by_cases e1:j=i
  ·rw [if_pos e1];exact b1
  ·rw [if_neg e1]
   have:=h2 j j0 jl e1
   rw [jp] at this;omega
theorem MK {l:List α}{i:Nat}(h:XY key l i) (hn:¬(0<i∧kg key l i<kg key l ((i-1)/2))):lD key l:=by
 intro j j0 jl
 by_cases e:j=i
 ·subst e;omega
 ·exact h.2.1 j j0 jl e
theorem SH {l:List α}{x:α}(h:lD key l):XY key (l++[x]) l.length:=by
 have hk:∀k,k<l.length→kg key (l++[x]) k=kg key l k:=by
  intro k hk
  unfold kg
  rw [List.getElem?_append_left hk]
 refine⟨by simp,fun j j0 jl jn=>?_,fun j j0 jl jp p0=>?_⟩
 ·simp at jl
  rw [hk _ (by omega),hk _ (by omega)]
  exact h j j0 (by omega)
 ·simp at jl;omega
theorem RS {l:List α}{i k:Nat}(h:DnI key l i) (hil:i<l.length) (k0:0<k) (kl:k<l.length) (kp:(k-1)/2=i)
  (hm:∀j,0<j→j<l.length→(j-1)/2=i→kg key l k≤kg key l j) (hlt:kg key l k<kg key l i):DnI key (sw l i k) k:=by
 obtain⟨h1,h2⟩:=h
 have hk:=adE (key:=key) hil kl
 have hik:i<k:=by omega
 refine⟨fun j j0 jl jp=>?_,fun _ j j0 jl jp=>?_⟩
 ·rw [Il] at jl
  rw [hk,hk,if_neg jp]
  by_cases e1:(j-1)/2=i
  ·rw [if_pos e1]
   by_cases e2:j=k
   ·rw [if_pos e2];omega
   ·rw [if_neg e2,if_neg (by omega)]
    exact hm j j0 jl e1
  ·rw [if_neg e1]
   have e2:j≠k:=fun e=>e1 (by rw [e];exact kp)
   rw [if_neg e2]
   by_cases e3:j=i
   ·rw [if_pos e3,e3]
    exact h2 (by omega) k k0 kl kp
   ·rw [if_neg e3]
    exact h1 j j0 jl e1
 ·rw [Il] at jl
  rw [hk,hk,kp,if_neg (by omega),if_pos rfl,if_neg (by omega),if_neg (by omega)]
  have:=h1 j j0 jl (by omega)
  rw [jp] at this;exact this
theorem Vl {l:List α}{i:Nat}(h:DnI key l i) (hm:∀j,0<j→j<l.length→(j-1)/2=i→kg key l i≤kg key l j):lD key l:=by
 intro j j0 jl
 by_cases e:(j-1)/2=i
 ·rw [e];exact hm j j0 jl e
 ·exact h.1 j j0 jl e
theorem NI {l:List α}(h:lD key l):∀i,i<l.length→kg key l 0≤kg key l i:=by
 intro i
 induction i using Nat.strongRecOn with
 | _ i ih =>
  intro hi
  by_cases e:i=0
  ·subst e;exact Int.le_refl _
  ·have:=ih ((i-1)/2) (by omega) (by omega)
   have:=h i (by omega) hi
   omega
def pop (l:List α):List α:=match l with
 | []=>[]
 | x::r=>(match (x::r)[r.length]? with
  | some y=>((x::r).set 0 y).take r.length
  | none=>[])
theorem aaL {l:List α}:(pop l).length=l.length-1:=by
 cases l with
 | nil=>rfl
 | cons x r =>
  unfold pop
  have:r.length<(x::r).length:=by simp
  simp only [ac6 this]
  simp
theorem N7 {x:α}{r:List α}:(x::pop (x::r)).Perm (x::r):=by
 have hlt:r.length<(x::r).length:=by simp
 have e:pop (x::r)=((x::r).set 0 (x::r)[r.length]).take r.length:=by
  unfold pop
  simp only [ac6 hlt]
 rw [e]
 cases r with
 | nil=>simp
 | cons y s =>
  refine List.Perm.cons x ?_
  simp only [List.set_cons_zero,aq8,List.take_succ_cons,List.getElem_cons_succ]
  have h2:(y::s)=(y::s).take s.length++[(y::s)[s.length]]:=by
   have h3:=List.take_append_getElem (l:=y::s) (i:=s.length) (by simp)
   have h4:(y::s).take (s.length+1)=y::s:=List.take_of_length_le (by simp)
   rw [h4] at h3
   exact h3.symm
  refine List.Perm.trans ?_ (List.Perm.of_eq h2.symm)
  exact(List.perm_append_comm (l₁:=[(y::s)[s.length]]) (l₂:=(y::s).take s.length))
theorem W9 {l:List α}(h:lD key l):DnI key (pop l) 0:=by
 cases l with
 | nil=>exact⟨fun j _ jl=>by simp [pop] at jl,fun h0=>by omega⟩
 | cons x r =>
  have hlt:r.length<(x::r).length:=by simp
  have e:pop (x::r)=((x::r).set 0 (x::r)[r.length]).take r.length:=by
   unfold pop
   simp only [ac6 hlt]
  have hk:∀k,0<k→k<r.length→kg key (pop (x::r)) k=kg key (x::r) k:=by
   intro k k0 kl
   unfold kg
   rw [e,List.getElem?_take_of_lt kl,List.getElem?_set_ne (by omega)]
  refine⟨fun j j0 jl jp=>?_,fun h0=>by omega⟩
  rw [aaL] at jl
  simp at jl
  rw [hk _ (by omega) (by omega),hk _ j0 jl]
  exact h j j0 (by simp;omega)
end
end Hk.PQ
namespace Go.Proofs.YtgllbnabmglcfaaGreatDoor
section
open Go Hk
theorem Gd {F:List lC×lD→Option R}{σ:Type}(enc:σ→List lC×lD) (inv:σ→Prop) (μ:σ→Nat) (Post:σ→R→Prop)
  (h:∀s,inv s→(∃s',F (enc s)=some (.normal,enc s')∧inv s'∧μ s'<μ s∧∀r,Post s' r→Post s r)∨(∃r,F (enc s)=some r∧r.1≠.normal∧Post s r)) :
  ∀s,inv s→∃r,mX F (enc s)=some r∧Post s r:=by
 have key:∀n s,μ s=n→inv s→∃r,mX F (enc s)=some r∧Post s r:=by
  intro n
  induction n using Nat.strongRecOn with
  | _ n ih =>
   intro s hn hi
   rw [nM]
   rcases h s hi with ⟨s',e1,e2,e3,e4⟩ | ⟨r,e1,e2,e3⟩
   ·obtain⟨r,h1,h2⟩:=ih (μ s') (by omega) s' rfl e2
    refine⟨r,?_,e4 r h2⟩
    rw [e1]
    simp only [ai3,tB]
    exact h1
   ·refine⟨r,?_,e3⟩
    rw [e1]
    obtain⟨e,l⟩:=r
    cases e <;> first | exact absurd rfl e2 | rfl
 exact fun s hi=>key (μ s) s rfl hi
@[simp] theorem Yy {f:Nat}{x y:List lC}:qO (.func f x y)=some (f,x,y):=(rfl)
@[simp] theorem akB {f m:Nat}{h:Hk.lD}:lC.nO m h (.func f [] [])=.func f [] []:=(rfl)
@[simp] theorem Nw {f:Nat}{x y:List lC}:lC.mE (.func f x y)=true:=(rfl)
def uL (C:Hk.lD) (S:List Int) (n:Nat):Hk.lD:=.cells [.vslice 1 S.length 0 n 1,.func 44 [] []]::Vc (ci .i64) 1 S::C
def rd (S:List Int) (j:Nat):Int:=S.getD j 0
theorem Aq {S:List Int}{j:Nat}(h:j<S.length):S[j]?=some (rd S j):=by unfold rd;rw [ae9,ac6 h];rfl
@[simp high] theorem ayO {c:mC}{C:Hk.lD}{S:List Int}{n j:Nat}{v:Int}(h:S.length=n) (hj:j<n):lW 1 (c::Vc (ci .i64) 1 S::C) (.vptr 1 n j) (.int .i64 v)=some (c::Vc (ci .i64) 1 (S.set j v)::C):=by
 subst h
 have:=G7 (enc:=ci .i64) (sz:=1) (h:=c::Vc (ci .i64) 1 S::C) (id:=1) (tot:=S.length) (j:=j) (xs:=S) (v:=.int .i64 v) v (fun _=>rfl) rfl (by omega) rfl rfl
 rw [Nat.mul_one] at this
 rw [this,xR,if_pos rfl,ac6 hj,mR,FN,if_pos ⟨rfl,hj⟩]
 rfl
@[simp high] theorem ayN {c:mC}{C:Hk.lD}{S:List Int}{n j:Nat}(h:S.length=n) (hj:j<n):lP false 1 (c::Vc (ci .i64) 1 S::C) (.vptr 1 n j)=some (.int .i64 (rd S j)):=by
 subst h
 rw [vK]
 have e:(c::Vc (ci .i64) 1 S::C:Hk.lD)[1]?=some (Vc (ci .i64) 1 S):=rfl
 rw [e,ak8 (fun _=>rfl),xR,if_pos rfl,Aq hj]
 rfl
def Still (C:Hk.lD):Prop:=∀m h,oG m h C=some C
section
variable {C:Hk.lD}(hC:Still C) {S:List Int}{n i:Nat}
include hC
theorem Jt {m:Nat}(hm:C.length+2=m):oD m (uL C S n)=some (uL C S n):=by
 have h1:(1:Nat)<m:=by omega
 have h2:oG m (uL C S n) C=some C:=hC _ _
 rw [Gw,List.take_of_length_le (by simp [uL];omega)]
 have e:uL C S n=.cells [.vslice 1 S.length 0 n 1,.func 44 [] []]::Vc (ci .i64) 1 S::C:=rfl
 rw [e] at h2 ⊢
 simp [h1,h2]
theorem c44 (a b:Int):KK 44 [.int .i64 a,.int .i64 b] (uL C S n)=some (.ret (.bool (decide (a<b))),uL C S n):=by
 refine oF (ah9 _ _ _ _) ?_
 have hl:(uL C S n).length=C.length+2:=rfl
 have ht:oD (C.length+2) (uL C S n)=some (uL C S n):=Jt hC rfl
 simp only [m44,GM,ai3,List.getD_cons_zero,Ex.nR,nJ,hl,ht,Option.map_some,lC.pV,lC.nO,lC.lL,lC.oX]
 rfl
theorem aoD (a b:Int):qQ mY KK 44 (oT mY 44 [.int .i64 a,.int .i64 b]) (uL C S n)=some (.ret (.bool (decide (a<b))),uL C S n):=c44 hC a b
theorem XM (hn:n≤S.length) (hn2:n≤1048576) (hi:i<n) (h0:0<i) :
  CP KK (C.length+2) ([.ptr 0 0,.int .i64 (i:Int)],uL C S n)=(if rd S i<rd S ((i-1)/2) then some (.normal,[.ptr 0 0,.int .i64 (((i-1)/2:Nat):Int)],uL C ((S.set i (rd S ((i-1)/2))).set ((i-1)/2) (rd S i)) n) else some (.exit 0,[.ptr 0 0,.int .i64 (i:Int)],uL C S n)):=by
 have w1:IntKind.i64.wrap ((i:Int)-1)=((i-1:Nat):Int):=by rw [wrap64 (by omega) (by omega)];omega
 have q1:MI .i64 ((i-1:Nat):Int) 2=some (((i-1)/2:Nat):Int):=by
  unfold MI
  rw [if_neg (by omega),Int.tdiv_eq_ediv_of_nonneg (by omega)]
  have:((i-1:Nat):Int)/2=(((i-1)/2:Nat):Int):=by omega
  rw [this,wrap64 (by omega) (by omega)]
 have hpn:(i-1)/2<n:=by omega
 have hil:i<S.length:=by omega
 have hpl:(i-1)/2<S.length:=by omega
 generalize hp:(i-1)/2=p at *
 have hc:=fun n=>aoD hC (S:=S) (n:=n) (rd S i) (rd S p)
 have hC2:∀m h,oG m h C=some C:=hC
 simp only [uL] at hc
 by_cases hlt:rd S i<rd S p
 ·rw [if_pos hlt]
  simp [CP,uL,w1,q1,h0,hi,hpn,hil,hpl,hc,hlt,hC2]
 ·rw [if_neg hlt]
  simp [CP,uL,w1,q1,h0,hi,hpn,hil,hpl,hc,hlt,hC2]
theorem XN:CP KK (C.length+2) ([.ptr 0 0,.int .i64 0],uL C S n)=some (.exit 0,[.ptr 0 0,.int .i64 0],uL C S n):=by
 have hC2:∀m h,oG m h C=some C:=hC
 simp [CP,uL,hC2]
end
theorem JM {S:List Int}{n i:Nat}(hn:n≤S.length) (hi:i<n):PQ.kg (fun x=>x) (S.take n) i=rd S i:=by
 have:(S.take n)[i]?=some (rd S i):=by rw [List.getElem?_take_of_lt hi,Aq (by omega)]
 rw [PQ.RW this]
theorem Gv {S:List Int}{n i p:Nat}(hn:n≤S.length) (hi:i<n) (hp:p<n):((S.set i (rd S p)).set p (rd S i)).take n=PQ.sw (S.take n) i p:=by
 have h1:(S.take n)[i]?=some (rd S i):=by rw [List.getElem?_take_of_lt hi,Aq (by omega)]
 have h2:(S.take n)[p]?=some (rd S p):=by rw [List.getElem?_take_of_lt hp,Aq (by omega)]
 rw [PQ.Xv h1 h2,List.take_set,List.take_set]
theorem up1 {C:Hk.lD}(hC:Still C) {S:List Int}{n i:Nat}(hn:n≤S.length) (hn2:n≤1048576) (h:PQ.XY (fun x=>x) (S.take n) i) :
  ∃r,mX (CP KK (C.length+2)) ([.ptr 0 0,.int .i64 (i:Int)],uL C S n)=some r ∧
   ∃(j:Nat) (S':List Int),r=(.exit 0,[.ptr 0 0,.int .i64 (j:Int)],uL C S' n)∧S'.length=S.length∧PQ.lD (fun x=>x) (S'.take n)∧(S'.take n).Perm (S.take n):=by
 refine Gd (fun s:List Int×Nat=>([.ptr 0 0,.int .i64 (s.2:Int)],uL C s.1 n)) (fun s=>s.1.length=S.length∧PQ.XY (fun x=>x) (s.1.take n) s.2∧(s.1.take n).Perm (S.take n)) (fun s=>s.2)
  (fun _ r=>∃(j:Nat) (S':List Int),r=(.exit 0,[.ptr 0 0,.int .i64 (j:Int)],uL C S' n)∧S'.length=S.length∧PQ.lD (fun x=>x) (S'.take n)∧(S'.take n).Perm (S.take n)) ?_ (S,i) ⟨rfl,h,List.Perm.refl _⟩
 rintro⟨T,j⟩ ⟨hl,hu,hp⟩
 simp only at hl hu hp ⊢
 have hj:j<n:=by have:=hu.1;rw [ao3] at this;omega
 rcases Nat.eq_zero_or_pos j with h0 | h0
 ·subst h0
  refine .inr ⟨_,XN hC,by simp,0,T,rfl,hl,PQ.MK hu (by omega),hp⟩
 ·have hs:=XM hC (S:=T) (n:=n) (i:=j) (by omega) hn2 hj h0
  have hpn:(j-1)/2<n:=by omega
  by_cases hlt:rd T j<rd T ((j-1)/2)
  ·rw [if_pos hlt] at hs
   refine .inl ⟨(((T.set j (rd T ((j-1)/2))).set ((j-1)/2) (rd T j)),(j-1)/2),hs,⟨by simp [hl],?_,?_⟩,by simp only;omega,fun r hr=>hr⟩
   ·simp only
    rw [Gv (by omega) hj hpn]
    exact PQ.SJ hu h0 (by rw [JM (by omega) hj,JM (by omega) hpn];exact hlt)
   ·simp only
    rw [Gv (by omega) hj hpn]
    exact PQ.Gu.trans hp
  ·rw [if_neg hlt] at hs
   exact .inr ⟨_,hs,by simp,j,T,rfl,hl,PQ.MK hu (by rw [JM (by omega) hj,JM (by omega) hpn];omega),hp⟩
def HPn (S:List Int) (n:Nat):Hk.lD:=if S=[] then [.cells [.slice [] (.own 1),.func 44 [] []],.front 0 0] else uL [] S n
theorem J7:Still []:=fun _ _=>rfl
theorem Ow {i j:Nat}:Still [.front i j]:=fun _ _=>rfl
theorem at3 {S:List Int}{n:Nat}(x:Int) (hn:n≤S.length) (hl:S.length≤1000000) (hh:PQ.lD (fun x=>x) (S.take n)) :
  ∃S',m46 KK (.ptr 0 0) (.int .i64 x) (HPn S n)=some (.ret (.tuple []),uL [] S' (n+1))∧n+1≤S'.length∧S'.length≤max S.length (n+1)∧PQ.lD (fun x=>x) (S'.take (n+1))∧(S'.take (n+1)).Perm (x::S.take n):=by
 let T:=S.take n++[x]++S.drop (n+1)
 have hT:T=S.take n++[x]++S.drop (n+1):=rfl
 have hTl:T.length=max S.length (n+1):=by rw [hT];simp;omega
 have hTt:T.take (n+1)=S.take n++[x]:=by
  rw [hT]
  have:(S.take n++[x]).length=n+1:=by simp;omega
  rw [←this,List.take_left]
 have hup:PQ.XY (fun x=>x) (T.take (n+1)) n:=by
  rw [hTt]
  have:=PQ.SH (key:=fun x=>x) (x:=x) hh
  rwa [show(S.take n).length=n by simp;omega] at this
 obtain⟨r,hr,j,S',rfl,h1,h2,h3⟩:=up1 (C:=[.front 1 1]) Ow (by omega) (by omega) hup
 refine⟨S',?_,by omega,by omega,h2,h3.trans ?_⟩
 ·have hfin:oD 2 (uL [.front 1 1] S' (n+1))=some (uL [] S' (n+1)):=by
   rw [Gw]
   simp [uL]
  have hdn:T.drop (n+1)=S.drop (n+1):=by
   rw [hT]
   have:(S.take n++[x]).length=n+1:=by simp;omega
   rw [←this,List.drop_left]
  by_cases h0:S=[]
  ·subst h0
   have hn0:n=0:=by simpa using hn
   subst hn0
   have hT1:T=[x]:=rfl
   rw [hT1] at hr
   have e1:uL [.front 1 1] [x] 1=[.cells [.vslice 1 1 0 1 1,.func 44 [] []],.vec 1 1 [.int .i64 x],.front 1 1]:=rfl
   have wz:IntKind.i64.wrap 0=0:=by decide
   have n0:((0:Nat):Int)=0:=rfl
   rw [ar4,e1,n0] at hr
   simp only [uL,aq8,List.length_nil,Nat.reduceAdd] at hr ⊢
   simp only [HPn,if_true]
   simp [m46,lR,rE,nP,lC.AN,rowsOf,n_,wz]
   simp [hr]
  ·simp only [HPn,h0,if_false]
   have ha:=GK (enc:=ci .i64) (sz:=1) (by_:=8) (h:=uL [] S n++[.front 1 1]) (id:=1) (tot:=S.length) (n:=n) (xs:=S) (ys:=[x]) (T:=.own 2) (fun _=>rfl) (by omega) rfl hn (by simp)
   have hva:tva 8 S.length n S [x]=some T:=by
    unfold tva
    rw [if_pos ⟨rfl,hn,by simp;omega,by simp;omega⟩]
    rfl
   rw [hva,pN] at ha
   have eR:Rw (ci .i64) [x]=[[.int .i64 x]]:=rfl
   have eH:(uL [] S n++[.front 1 1]:Hk.lD).set 1 (Vc (ci .i64) 1 T)=[.cells [.vslice 1 S.length 0 n 1,.func 44 [] []],Vc (ci .i64) 1 T,.front 1 1]:=rfl
   have eH2:(uL [] S n++[.front 1 1]:Hk.lD)=[.cells [.vslice 1 S.length 0 n 1,.func 44 [] []],Vc (ci .i64) 1 S,.front 1 1]:=rfl
   rw [eH,eH2,eR] at ha
   have w1:IntKind.i64.wrap (n:Int)=(n:Int):=by rw [wrap64 (by omega) (by omega)]
   simp only [uL,aq8,List.length_nil,Nat.reduceAdd] at hr ha ⊢
   simp [m46,lR,rE,nP,lC.AN,rowsOf]
   rw [ha]
   simp [w1]
   simp [hr]
 ·rw [hTt]
  exact List.perm_append_comm
section
variable {S:List Int}{n i:Nat}{x:Int}
theorem Pj (hn : n ≤ S.length) (hn2 : S.length ≤ 1000000) (hi : i < n ∨ i = 0) :
    let k := if 2 * i + 2 < n ∧ rd S (2 * i + 2) < rd S (2 * i + 1) then 2 * i + 2 else 2 * i + 1
    yS KK 2 ([.ptr 0 0, .int .i64 0, .int .i64 x, .int .i64 (n : Int), .int .i64 (i : Int)], uL [] S n) =
      (if n ≤ k ∨ ¬ rd S k < rd S i then some (.ret, [.ptr 0 0, .int .i64 x, .int .i64 x, .int .i64 (n : Int), .int .i64 (i : Int)], uL [] S n)
       else some (.normal, [.ptr 0 0, .int .i64 0, .int .i64 x, .int .i64 (n : Int), .int .i64 (k : Int)], uL [] ((S.set i (rd S k)).set k (rd S i)) n)) := by
  intro k
  have w1 : IntKind.i64.wrap (2 * (i : Int)) = ((2 * i : Nat) : Int) := by rw [wrap64 (by omega) (by omega)]; omega
  have w2 : IntKind.i64.wrap (((2 * i : Nat) : Int) + 1) = ((2 * i + 1 : Nat) : Int) := by rw [wrap64 (by omega) (by omega)]; omega
  have w3 : IntKind.i64.wrap (((2 * i + 1 : Nat) : Int) + 1) = ((2 * i + 2 : Nat) : Int) := by rw [wrap64 (by omega) (by omega)]; omega
  have hC2 : ∀ m h, oG m h [] = some [] := fun _ _ => rfl
  have hc := fun a b => aoD J7 (S := S) (n := n) a b
  simp only [uL] at hc
  have rest : ∀ k : Nat, k = 2 * i + 1 ∨ k = 2 * i + 2 ∧ k < n → True := fun _ _ => trivial
  have hkd : k = if 2 * i + 2 < n ∧ rd S (2 * i + 2) < rd S (2 * i + 1) then 2 * i + 2 else 2 * i + 1 := rfl
  clear_value k
  generalize h1 : 2 * i + 1 = k1 at *
  generalize h2 : 2 * i + 2 = k2 at *
  generalize h0 : 2 * i = k0 at *
  by_cases c1 : k2 < n
  · have hk2 : k2 < S.length := by omega
    have hk1 : k1 < n := by omega
    have hk1l : k1 < S.length := by omega
    have hil : i < n := by omega
    have hill : i < S.length := by omega
    by_cases c2 : rd S k2 < rd S k1
    · rw [if_pos ⟨c1, c2⟩] at hkd
      subst hkd
      have hnk : ¬ n ≤ k := by omega
      by_cases c3 : rd S k < rd S i
      · rw [if_neg (by intro h; rcases h with h | h; exact hnk h; exact h c3)]
        simp [yS, uL, w1, w2, w3, c1, c2, c3, hk2, hk1, hk1l, hil, hill, hc, hnk]
      · rw [if_pos (.inr c3)]
        simp [yS, uL, w1, w2, w3, c1, c2, c3, hk2, hk1, hk1l, hil, hill, hc, hnk]
    · rw [if_neg (fun h => c2 h.2)] at hkd
      subst hkd
      have hnk : ¬ n ≤ k := by omega
      by_cases c3 : rd S k < rd S i
      · rw [if_neg (by intro h; rcases h with h | h; exact hnk h; exact h c3)]
        simp [yS, uL, w1, w2, w3, c1, c2, c3, hk2, hk1, hk1l, hil, hill, hc, hnk]
      · rw [if_pos (.inr c3)]
        simp [yS, uL, w1, w2, w3, c1, c2, c3, hk2, hk1, hk1l, hil, hill, hc, hnk]
  · rw [if_neg (fun h => c1 h.1)] at hkd
    subst hkd
    by_cases c4 : n ≤ k
    · rw [if_pos (.inl c4)]
      simp [yS, uL, w1, w2, w3, c1, c4]
    · have hkl : k < S.length := by omega
      have hkn : k < n := by omega
      have hil : i < n := by omega
      have hill : i < S.length := by omega
      by_cases c3 : rd S k < rd S i
      · rw [if_neg (by intro h; rcases h with h | h; exact c4 h; exact h c3)]
        simp [yS, uL, w1, w2, w3, c1, c3, c4, hkl, hkn, hil, hill, hc]
      · rw [if_pos (.inr c3)]
        simp [yS, uL, w1, w2, w3, c1, c3, c4, hkl, hkn, hil, hill, hc]
end
end
end Go.Proofs.YtgllbnabmglcfaaGreatDoor
namespace Hk.PQ
theorem W_ {α:Type}{l:List α}{y:α}(h0:l≠[]) (hy:l[l.length-1]?=some y):pop l=(l.set 0 y).take (l.length-1):=by
 cases l with
 | nil=>exact absurd rfl h0
 | cons x r =>
  simp only [aq8,Nat.add_sub_cancel] at hy
  have e:pop (x::r)=(match (x::r)[r.length]? with
   | some y=>((x::r).set 0 y).take r.length
   | none=>[]):=rfl
  rw [e,hy]
  rfl
end Hk.PQ
namespace Go.Proofs.YtgllbnabmglcfaaGreatDoor
open Go Hk
theorem aoJ {S:List Int}{n i:Nat}{x:Int}(hn:n≤S.length) (hn2:S.length≤1000000) (hi:i<n∨i=0) (h:PQ.DnI (fun x=>x) (S.take n) i) :
  ∃r,mX (yS KK 2) ([.ptr 0 0,.int .i64 0,.int .i64 x,.int .i64 (n:Int),.int .i64 (i:Int)],uL [] S n)=some r ∧
   ∃(j:Nat) (S':List Int),r=(.ret,[.ptr 0 0,.int .i64 x,.int .i64 x,.int .i64 (n:Int),.int .i64 (j:Int)],uL [] S' n)∧S'.length=S.length∧PQ.lD (fun x=>x) (S'.take n)∧(S'.take n).Perm (S.take n):=by
 refine Gd (fun s:List Int×Nat=>([.ptr 0 0,.int .i64 0,.int .i64 x,.int .i64 (n:Int),.int .i64 (s.2:Int)],uL [] s.1 n)) (fun s=>s.1.length=S.length∧(s.2<n∨s.2=0)∧PQ.DnI (fun x=>x) (s.1.take n) s.2∧(s.1.take n).Perm (S.take n)) (fun s=>n-s.2)
  (fun _ r=>∃(j:Nat) (S':List Int),r=(.ret,[.ptr 0 0,.int .i64 x,.int .i64 x,.int .i64 (n:Int),.int .i64 (j:Int)],uL [] S' n)∧S'.length=S.length∧PQ.lD (fun x=>x) (S'.take n)∧(S'.take n).Perm (S.take n)) ?_ (S,i) ⟨rfl,hi,h,List.Perm.refl _⟩
 rintro⟨T,j⟩ ⟨hl,hj,hu,hp⟩
 simp only at hl hj hu hp ⊢
 have hs:=Pj (S:=T) (n:=n) (i:=j) (x:=x) (by omega) (by omega) hj
 simp only at hs
 have hlt:(T.take n).length=n:=by rw [ao3];omega
 have hkg:∀m,m<n→PQ.kg (fun x=>x) (T.take n) m=rd T m:=fun m hm=>JM (by omega) hm
 generalize hk:(if 2*j+2<n∧rd T (2*j+2)<rd T (2*j+1) then 2*j+2 else 2*j+1)=k at hs
 have hkmin:∀c,0<c→c<n→(c-1)/2=j→k<n∧rd T k≤rd T c:=by
  intro c c0 cn cj
  rcases (show c=2*j+1∨c=2*j+2 by omega) with rfl | rfl
  ·rw [←hk]
   split
   ·rename_i hc;exact⟨hc.1,by omega⟩
   ·exact⟨cn,Int.le_refl _⟩
  ·rw [←hk]
   split
   ·exact⟨cn,Int.le_refl _⟩
   ·rename_i hc
    exact⟨by omega,by by_cases h2:rd T (2*j+2)<rd T (2*j+1);exact absurd ⟨cn,h2⟩ hc;omega⟩
 have hkj:(k-1)/2=j∧0<k∧j<k:=by rw [←hk];split <;> omega
 by_cases hc:n≤k∨¬rd T k<rd T j
 ·rw [if_pos hc] at hs
  refine .inr ⟨_,hs,by simp,j,T,rfl,hl,PQ.Vl hu fun c c0 cl cj=>?_,hp⟩
  rw [hlt] at cl
  obtain⟨h1,h2⟩:=hkmin c c0 cl cj
  rw [hkg _ (by omega),hkg _ cl]
  rcases hc with hc | hc <;> omega
 ·rw [if_neg hc] at hs
  have hkn:k<n:=by omega
  have hrd:rd T k<rd T j:=by
   by_cases h:rd T k<rd T j
   ·exact h
   ·exact absurd (.inr h) hc
  refine .inl ⟨((T.set j (rd T k)).set k (rd T j),k),hs,⟨by simp [hl],.inl hkn,?_,?_⟩,by simp only;omega,fun r hr=>hr⟩
  ·simp only
   rw [Gv (by omega) (by omega) hkn]
   refine PQ.RS hu (by rw [hlt];omega) hkj.2.1 (by rw [hlt];exact hkn) hkj.1 (fun c c0 cl cj=>?_) ?_
   ·rw [hlt] at cl
    rw [hkg _ hkn,hkg _ cl];exact(hkmin c c0 cl cj).2
   ·rw [hkg _ hkn,hkg _ (by omega)];exact hrd
  ·simp only
   rw [Gv (by omega) (by omega) hkn]
   exact PQ.Gu.trans hp
theorem at5 {S:List Int}{n:Nat}(hn:n+1≤S.length) (hl:S.length≤1000000) (hh:PQ.lD (fun x=>x) (S.take (n+1))) :
  ∃S',m48 KK (.ptr 0 0) (uL [] S (n+1))=some (.ret (.int .i64 (rd S 0)),uL [] S' n)∧S'.length=S.length∧PQ.lD (fun x=>x) (S'.take n)∧(rd S 0::S'.take n).Perm (S.take (n+1)):=by
 have hpop:PQ.pop (S.take (n+1))=(S.set 0 (rd S n)).take n:=by
  have e:(S.take (n+1)).length=n+1:=by rw [ao3];omega
  rw [PQ.W_ (y:=rd S n) (by intro h;rw [h] at e;simp at e) (by rw [e,Nat.add_sub_cancel,List.getElem?_take_of_lt (by omega),Aq (by omega)]),e,Nat.add_sub_cancel]
  rw [List.take_set,List.take_take,List.take_set]
  congr 1
  congr 1
  omega
 have hdn:=PQ.W9 hh
 rw [hpop] at hdn
 obtain⟨r,hr,j,S',rfl,h1,h2,h3⟩:=aoJ (S:=S.set 0 (rd S n)) (n:=n) (i:=0) (x:=rd S 0) (by simp;omega) (by simpa using hl) (.inr rfl) hdn
 refine⟨S',?_,by simpa using h1,h2,?_⟩
 ·have hfin:oD 2 (uL [] S' n)=some (uL [] S' n):=Jt J7 rfl
  have w1:IntKind.i64.wrap (((n+1:Nat):Int)-1)=(n:Int):=by rw [wrap64 (by omega) (by omega)];omega
  have n0:((0:Nat):Int)=0:=rfl
  have h0l:0<S.length:=by omega
  have hnl:n<S.length:=by omega
  simp only [uL,n0,List.length_set] at hr hfin ⊢
  have w2:IntKind.i64.wrap (n:Int)=(n:Int):=by rw [wrap64 (by omega) (by omega)]
  have t0:MH (n+1) 0=some 0:=by unfold MH;rw [if_pos (by omega)];rfl
  have hsl:oI 1 (.vslice 1 S.length 0 (n+1) 1) none (some (.int .i64 (n:Int)))=some (.vslice 1 S.length 0 n 1):=by
   simp [oI,pE]
  simp [m48,w2,t0,h0l,hnl,hsl]
  simp [hr]
 ·have hne:∃y r,S.take (n+1)=y::r:=by
   cases S with
   | nil=>simp at hn
   | cons y r=>exact⟨y,r.take n,rfl⟩
  obtain⟨y,r,hyr⟩:=hne
  have hy:y=rd S 0:=by
   have:(S.take (n+1))[0]?=some y:=by rw [hyr];rfl
   rw [List.getElem?_take_of_lt (by omega),Aq (by omega)] at this
   exact(Option.some.inj this).symm
  have:=PQ.N7 (x:=y) (r:=r)
  rw [←hyr,hpop,hy] at this
  exact(List.Perm.cons _ h3).trans this
end Go.Proofs.YtgllbnabmglcfaaGreatDoor
namespace Go.Proofs.YtgllbnabmglcfaaGreatDoor
section
open Go Hk
structure pU where
 slot:Int
 last:Int
def pU.cells (x:pU):List lC:=[.int .i64 x.slot,.int .i64 x.last]
theorem pU.pF (x:pU):x.cells=[.int .i64 x.slot,.int .i64 x.last]:=(rfl)
attribute [simp] pU.pF
def uM (C:Hk.lD) (S:List pU) (n:Nat):Hk.lD:=.cells [.vslice 1 S.length 0 n 2,.func 45 [] []]::Vc pU.cells 2 S::C
def rt (S:List pU) (j:Nat):pU:=S.getD j ⟨0,0⟩
theorem Bs {S:List pU}{j:Nat}(h:j<S.length):S[j]?=some (rt S j):=by unfold rt;rw [ae9,ac6 h];rfl
@[simp high] theorem as9 {c:mC}{C:Hk.lD}{S:List pU}{n j:Nat}{u v:Int}(h:S.length=n) (hj:j<n):lW 2 (c::Vc pU.cells 2 S::C) (.vptr 1 n (j*2)) (.agg [.int .i64 u,.int .i64 v])=some (c::Vc pU.cells 2 (S.set j ⟨u,v⟩)::C):=by
 subst h
 have:=G7 (enc:=pU.cells) (sz:=2) (h:=c::Vc pU.cells 2 S::C) (id:=1) (tot:=S.length) (j:=j) (xs:=S) (v:=.agg [.int .i64 u,.int .i64 v]) ⟨u,v⟩ (fun _=>rfl) rfl (by omega) rfl rfl
 rw [this,xR,if_pos rfl,ac6 hj,mR,FN,if_pos ⟨rfl,hj⟩]
 rfl
@[simp high] theorem as6 {c:mC}{C:Hk.lD}{S:List pU}{n j:Nat}(h:S.length=n) (hj:j<n):lP true 2 (c::Vc pU.cells 2 S::C) (.vptr 1 n (j*2))=some (.agg [.int .i64 (rt S j).slot,.int .i64 (rt S j).last]):=by
 subst h
 rw [vK]
 have e:(c::Vc pU.cells 2 S::C:Hk.lD)[1]?=some (Vc pU.cells 2 S):=rfl
 rw [e,ak9 (enc:=pU.cells) (sz:=2) (fun _=>rfl) (by omega),xR,if_pos rfl,Bs hj]
 rfl
theorem anT {c:mC}{C:Hk.lD}{S:List pU}{n:Nat}{u v:Int}(h:S.length=n) (hj:0<n):lW 2 (c::Vc pU.cells 2 S::C) (.vptr 1 n 0) (.agg [.int .i64 u,.int .i64 v])=some (c::Vc pU.cells 2 (S.set 0 ⟨u,v⟩)::C):=by
 have:=as9 (c:=c) (C:=C) (j:=0) (u:=u) (v:=v) h hj
 simpa using this
theorem anQ {c:mC}{C:Hk.lD}{S:List pU}{n:Nat}(h:S.length=n) (hj:0<n):lP true 2 (c::Vc pU.cells 2 S::C) (.vptr 1 n 0)=some (.agg [.int .i64 (rt S 0).slot,.int .i64 (rt S 0).last]):=by
 have:=as6 (c:=c) (C:=C) (j:=0) h hj
 simpa using this
section
variable {C:Hk.lD}(hC:Still C) {S:List pU}{n i:Nat}
include hC
theorem Ju {m:Nat}(hm:C.length+2=m) {D:Hk.lD}:oD m (uM (C++D) S n)=some (uM C S n):=by
 have h1:(1:Nat)<m:=by omega
 have h2:oG m (uM (C++D) S n) C=some C:=hC _ _
 have e2:(uM (C++D) S n).take m=uM C S n:=by
  subst hm
  unfold uM
  simp
 rw [Gw,e2]
 have e:∀C,uM C S n=.cells [.vslice 1 S.length 0 n 2,.func 45 [] []]::Vc pU.cells 2 S::C:=fun _=>rfl
 simp only [e] at h2 ⊢
 simp [h1,h2]
theorem c45 (a b:pU):KK 45 [.agg a.cells,.agg b.cells] (uM C S n)=some (.ret (.bool (decide (a.last<b.last))),uM C S n):=by
 refine oF (aiA _ _ _ _) ?_
 have hl:(uM C S n).length=C.length+2:=rfl
 have hf:nJ (uM C S n).length (.bool (decide (a.last<b.last))) (uM C S n++[.cells a.cells,.cells b.cells])=some (.ret (.bool (decide (a.last<b.last))),uM C S n):=by
  have ht:=Ju hC (S:=S) (n:=n) (m:=C.length+2) rfl (D:=[.cells a.cells,.cells b.cells])
  have e:uM C S n++[.cells a.cells,.cells b.cells]=uM (C++[.cells a.cells,.cells b.cells]) S n:=rfl
  rw [nJ,hl,e,ht];rfl
 generalize uM C S n=H at *
 have g1:∀x,(H++[x]:Hk.lD)[H.length]?=some x:=fun x=>by simp
 have g2:∀x y,(H++[x,y]:Hk.lD)[H.length]?=some x:=fun x y=>by simp
 have g3:∀x y,(H++[x,y]:Hk.lD)[H.length+1]?=some y:=fun x y=>by rw [af4 (by omega)];simp
 simp [m45,lP,nW,g1,g2,g3,List.append_assoc]
 simpa using hf
theorem aoE (a b:pU):qQ mY KK 45 (oT mY 45 [.agg [.int .i64 a.slot,.int .i64 a.last],.agg [.int .i64 b.slot,.int .i64 b.last]]) (uM C S n)=some (.ret (.bool (decide (a.last<b.last))),uM C S n):=c45 hC a b
theorem XO (hn:n≤S.length) (hn2:n≤1048576) (hi:i<n) (h0:0<i) :
  CQ KK (C.length+2) ([.ptr 0 0,.int .i64 (i:Int)],uM C S n)=(if (rt S i).last<(rt S ((i-1)/2)).last then some (.normal,[.ptr 0 0,.int .i64 (((i-1)/2:Nat):Int)],uM C ((S.set i (rt S ((i-1)/2))).set ((i-1)/2) (rt S i)) n) else some (.exit 0,[.ptr 0 0,.int .i64 (i:Int)],uM C S n)):=by
 have w1:IntKind.i64.wrap ((i:Int)-1)=((i-1:Nat):Int):=by rw [wrap64 (by omega) (by omega)];omega
 have q1:MI .i64 ((i-1:Nat):Int) 2=some (((i-1)/2:Nat):Int):=by
  unfold MI
  rw [if_neg (by omega),Int.tdiv_eq_ediv_of_nonneg (by omega)]
  have:((i-1:Nat):Int)/2=(((i-1)/2:Nat):Int):=by omega
  rw [this,wrap64 (by omega) (by omega)]
 have hpn:(i-1)/2<n:=by omega
 have hil:i<S.length:=by omega
 have hpl:(i-1)/2<S.length:=by omega
 generalize hp:(i-1)/2=p at *
 have hc:=fun n=>aoE hC (S:=S) (n:=n) (rt S i) (rt S p)
 have hC2:∀m h,oG m h C=some C:=hC
 simp only [uM] at hc
 by_cases hlt:(rt S i).last<(rt S p).last
 ·rw [if_pos hlt]
  simp [CQ,uM,w1,q1,h0,hi,hpn,hil,hpl,hc,hlt,hC2]
 ·rw [if_neg hlt]
  simp [CQ,uM,w1,q1,h0,hi,hpn,hil,hpl,hc,hlt,hC2]
theorem XP:CQ KK (C.length+2) ([.ptr 0 0,.int .i64 0],uM C S n)=some (.exit 0,[.ptr 0 0,.int .i64 0],uM C S n):=by
 have hC2:∀m h,oG m h C=some C:=hC
 simp [CQ,uM,hC2]
end
end
section
open Go Hk
theorem JN {S:List pU}{n i:Nat}(hn:n≤S.length) (hi:i<n):PQ.kg pU.last (S.take n) i=(rt S i).last:=by
 have:(S.take n)[i]?=some (rt S i):=by rw [List.getElem?_take_of_lt hi,Bs (by omega)]
 rw [PQ.RW this]
theorem Ea {S:List pU}{n i p:Nat}(hn:n≤S.length) (hi:i<n) (hp:p<n):((S.set i (rt S p)).set p (rt S i)).take n=PQ.sw (S.take n) i p:=by
 have h1:(S.take n)[i]?=some (rt S i):=by rw [List.getElem?_take_of_lt hi,Bs (by omega)]
 have h2:(S.take n)[p]?=some (rt S p):=by rw [List.getElem?_take_of_lt hp,Bs (by omega)]
 rw [PQ.Xv h1 h2,List.take_set,List.take_set]
theorem up2 {C:Hk.lD}(hC:Still C) {S:List pU}{n i:Nat}(hn:n≤S.length) (hn2:n≤1048576) (h:PQ.XY pU.last (S.take n) i) :
  ∃r,mX (CQ KK (C.length+2)) ([.ptr 0 0,.int .i64 (i:Int)],uM C S n)=some r ∧
   ∃(j:Nat) (S':List pU),r=(.exit 0,[.ptr 0 0,.int .i64 (j:Int)],uM C S' n)∧S'.length=S.length∧PQ.lD pU.last (S'.take n)∧(S'.take n).Perm (S.take n):=by
 refine Gd (fun s:List pU×Nat=>([.ptr 0 0,.int .i64 (s.2:Int)],uM C s.1 n)) (fun s=>s.1.length=S.length∧PQ.XY pU.last (s.1.take n) s.2∧(s.1.take n).Perm (S.take n)) (fun s=>s.2)
  (fun _ r=>∃(j:Nat) (S':List pU),r=(.exit 0,[.ptr 0 0,.int .i64 (j:Int)],uM C S' n)∧S'.length=S.length∧PQ.lD pU.last (S'.take n)∧(S'.take n).Perm (S.take n)) ?_ (S,i) ⟨rfl,h,List.Perm.refl _⟩
 rintro⟨T,j⟩ ⟨hl,hu,hp⟩
 simp only at hl hu hp ⊢
 have hj:j<n:=by have:=hu.1;rw [ao3] at this;omega
 rcases Nat.eq_zero_or_pos j with h0 | h0
 ·subst h0
  refine .inr ⟨_,XP hC,by simp,0,T,rfl,hl,PQ.MK hu (by omega),hp⟩
 ·have hs:=XO hC (S:=T) (n:=n) (i:=j) (by omega) hn2 hj h0
  have hpn:(j-1)/2<n:=by omega
  by_cases hlt:(rt T j).last<(rt T ((j-1)/2)).last
  ·rw [if_pos hlt] at hs
   refine .inl ⟨(((T.set j (rt T ((j-1)/2))).set ((j-1)/2) (rt T j)),(j-1)/2),hs,⟨by simp [hl],?_,?_⟩,by simp only;omega,fun r hr=>hr⟩
   ·simp only
    rw [Ea (by omega) hj hpn]
    exact PQ.SJ hu h0 (by rw [JN (by omega) hj,JN (by omega) hpn];exact hlt)
   ·simp only
    rw [Ea (by omega) hj hpn]
    exact PQ.Gu.trans hp
  ·rw [if_neg hlt] at hs
   exact .inr ⟨_,hs,by simp,j,T,rfl,hl,PQ.MK hu (by rw [JN (by omega) hj,JN (by omega) hpn];omega),hp⟩
def CT (z x:pU):Hk.lD:=[.cells z.cells,.cells x.cells]
theorem Xt {z x:pU}:Still (CT z x):=fun m h=>by simp [CT]
section
variable {S:List pU}{n i:Nat}{x:pU}
theorem Pk (hn : n ≤ S.length) (hn2 : S.length ≤ 1000000) (hi : i < n ∨ i = 0) :
    let k := if 2 * i + 2 < n ∧ (rt S (2 * i + 2)).last < (rt S (2 * i + 1)).last then 2 * i + 2 else 2 * i + 1
    yR KK 4 ([.ptr 0 0, .ptr 2 0, .ptr 3 0, .int .i64 (n : Int), .int .i64 (i : Int)], uM (CT ⟨0, 0⟩ x) S n) =
      (if n ≤ k ∨ ¬ (rt S k).last < (rt S i).last then some (.ret, [.ptr 0 0, .ptr 2 0, .ptr 3 0, .int .i64 (n : Int), .int .i64 (i : Int)], uM (CT x x) S n)
       else some (.normal, [.ptr 0 0, .ptr 2 0, .ptr 3 0, .int .i64 (n : Int), .int .i64 (k : Int)], uM (CT ⟨0, 0⟩ x) ((S.set i (rt S k)).set k (rt S i)) n)) := by
  intro k
  have w1 : IntKind.i64.wrap (2 * (i : Int)) = ((2 * i : Nat) : Int) := by rw [wrap64 (by omega) (by omega)]; omega
  have w2 : IntKind.i64.wrap (((2 * i : Nat) : Int) + 1) = ((2 * i + 1 : Nat) : Int) := by rw [wrap64 (by omega) (by omega)]; omega
  have w3 : IntKind.i64.wrap (((2 * i + 1 : Nat) : Int) + 1) = ((2 * i + 2 : Nat) : Int) := by rw [wrap64 (by omega) (by omega)]; omega
  have hc := fun a b => aoE (Xt (z := ⟨0, 0⟩) (x := x)) (S := S) (n := n) a b
  simp only [uM, CT, pU.pF] at hc ⊢
  have rest : ∀ k : Nat, k = 2 * i + 1 ∨ k = 2 * i + 2 ∧ k < n → True := fun _ _ => trivial
  have hkd : k = if 2 * i + 2 < n ∧ (rt S (2 * i + 2)).last < (rt S (2 * i + 1)).last then 2 * i + 2 else 2 * i + 1 := rfl
  clear_value k
  generalize h1 : 2 * i + 1 = k1 at *
  generalize h2 : 2 * i + 2 = k2 at *
  generalize h0 : 2 * i = k0 at *
  by_cases c1 : k2 < n
  · have hk2 : k2 < S.length := by omega
    have hk1 : k1 < n := by omega
    have hk1l : k1 < S.length := by omega
    have hil : i < n := by omega
    have hill : i < S.length := by omega
    by_cases c2 : (rt S k2).last < (rt S k1).last
    · rw [if_pos ⟨c1, c2⟩] at hkd
      subst hkd
      have hnk : ¬ n ≤ k := by omega
      by_cases c3 : (rt S k).last < (rt S i).last
      · rw [if_neg (by intro h; rcases h with h | h; exact hnk h; exact h c3)]
        simp [yR, w1, w2, w3, c1, c2, c3, hk2, hk1, hk1l, hil, hill, hc, hnk]
      · rw [if_pos (.inr c3)]
        simp [yR, w1, w2, w3, c1, c2, c3, hk2, hk1, hk1l, hil, hill, hc, hnk]
    · rw [if_neg (fun h => c2 h.2)] at hkd
      subst hkd
      have hnk : ¬ n ≤ k := by omega
      by_cases c3 : (rt S k).last < (rt S i).last
      · rw [if_neg (by intro h; rcases h with h | h; exact hnk h; exact h c3)]
        simp [yR, w1, w2, w3, c1, c2, c3, hk2, hk1, hk1l, hil, hill, hc, hnk]
      · rw [if_pos (.inr c3)]
        simp [yR, w1, w2, w3, c1, c2, c3, hk2, hk1, hk1l, hil, hill, hc, hnk]
  · rw [if_neg (fun h => c1 h.1)] at hkd
    subst hkd
    by_cases c4 : n ≤ k
    · rw [if_pos (.inl c4)]
      simp [yR, w1, w2, w3, c1, c4]
    · have hkl : k < S.length := by omega
      have hkn : k < n := by omega
      have hil : i < n := by omega
      have hill : i < S.length := by omega
      by_cases c3 : (rt S k).last < (rt S i).last
      · rw [if_neg (by intro h; rcases h with h | h; exact c4 h; exact h c3)]
        simp [yR, w1, w2, w3, c1, c3, c4, hkl, hkn, hil, hill, hc]
      · rw [if_pos (.inr c3)]
        simp [yR, w1, w2, w3, c1, c3, c4, hkl, hkn, hil, hill, hc]
end
theorem aoK {S:List pU}{n i:Nat}{x:pU}(hn:n≤S.length) (hn2:S.length≤1000000) (hi:i<n∨i=0) (h:PQ.DnI pU.last (S.take n) i) :
  ∃r,mX (yR KK 4) ([.ptr 0 0,.ptr 2 0,.ptr 3 0,.int .i64 (n:Int),.int .i64 (i:Int)],uM (CT ⟨0,0⟩ x) S n)=some r ∧
   ∃(j:Nat) (S':List pU),r=(.ret,[.ptr 0 0,.ptr 2 0,.ptr 3 0,.int .i64 (n:Int),.int .i64 (j:Int)],uM (CT x x) S' n)∧S'.length=S.length∧PQ.lD pU.last (S'.take n)∧(S'.take n).Perm (S.take n):=by
 refine Gd (fun s:List pU×Nat=>([.ptr 0 0,.ptr 2 0,.ptr 3 0,.int .i64 (n:Int),.int .i64 (s.2:Int)],uM (CT ⟨0,0⟩ x) s.1 n)) (fun s=>s.1.length=S.length∧(s.2<n∨s.2=0)∧PQ.DnI pU.last (s.1.take n) s.2∧(s.1.take n).Perm (S.take n)) (fun s=>n-s.2)
  (fun _ r=>∃(j:Nat) (S':List pU),r=(.ret,[.ptr 0 0,.ptr 2 0,.ptr 3 0,.int .i64 (n:Int),.int .i64 (j:Int)],uM (CT x x) S' n)∧S'.length=S.length∧PQ.lD pU.last (S'.take n)∧(S'.take n).Perm (S.take n)) ?_ (S,i) ⟨rfl,hi,h,List.Perm.refl _⟩
 rintro⟨T,j⟩ ⟨hl,hj,hu,hp⟩
 simp only at hl hj hu hp ⊢
 have hs:=Pk (S:=T) (n:=n) (i:=j) (x:=x) (by omega) (by omega) hj
 simp only at hs
 have hlt:(T.take n).length=n:=by rw [ao3];omega
 have hkg:∀m,m<n→PQ.kg pU.last (T.take n) m=(rt T m).last:=fun m hm=>JN (by omega) hm
 generalize hk:(if 2*j+2<n∧(rt T (2*j+2)).last<(rt T (2*j+1)).last then 2*j+2 else 2*j+1)=k at hs
 have hkmin:∀c,0<c→c<n→(c-1)/2=j→k<n∧(rt T k).last≤(rt T c).last:=by
  intro c c0 cn cj
  rcases (show c=2*j+1∨c=2*j+2 by omega) with rfl | rfl
  ·rw [←hk]
   split
   ·rename_i hc;exact⟨hc.1,by omega⟩
   ·exact⟨cn,Int.le_refl _⟩
  ·rw [←hk]
   split
   ·exact⟨cn,Int.le_refl _⟩
   ·rename_i hc
    exact⟨by omega,by by_cases h2:(rt T (2*j+2)).last<(rt T (2*j+1)).last;exact absurd ⟨cn,h2⟩ hc;omega⟩
 have hkj:(k-1)/2=j∧0<k∧j<k:=by rw [←hk];split <;> omega
 by_cases hc:n≤k∨¬(rt T k).last<(rt T j).last
 ·rw [if_pos hc] at hs
  refine .inr ⟨_,hs,by simp,j,T,rfl,hl,PQ.Vl hu fun c c0 cl cj=>?_,hp⟩
  rw [hlt] at cl
  obtain⟨h1,h2⟩:=hkmin c c0 cl cj
  rw [hkg _ (by omega),hkg _ cl]
  rcases hc with hc | hc <;> omega
 ·rw [if_neg hc] at hs
  have hkn:k<n:=by omega
  have hrd:(rt T k).last<(rt T j).last:=by
   by_cases h:(rt T k).last<(rt T j).last
   ·exact h
   ·exact absurd (.inr h) hc
  refine .inl ⟨((T.set j (rt T k)).set k (rt T j),k),hs,⟨by simp [hl],.inl hkn,?_,?_⟩,by simp only;omega,fun r hr=>hr⟩
  ·simp only
   rw [Ea (by omega) (by omega) hkn]
   refine PQ.RS hu (by rw [hlt];omega) hkj.2.1 (by rw [hlt];exact hkn) hkj.1 (fun c c0 cl cj=>?_) ?_
   ·rw [hlt] at cl
    rw [hkg _ hkn,hkg _ cl];exact(hkmin c c0 cl cj).2
   ·rw [hkg _ hkn,hkg _ (by omega)];exact hrd
  ·simp only
   rw [Ea (by omega) (by omega) hkn]
   exact PQ.Gu.trans hp
end
section
open Go Hk
def HQn (S:List pU) (n:Nat):Hk.lD:=if S=[] then [.cells [.slice [] (.own 1),.func 45 [] []],.front 0 0] else uM [] S n
theorem Xr {x:pU}:Still [.cells x.cells,.front 1 2]:=fun m h=>by simp
theorem at6 {S:List pU}{n:Nat}(x:pU) (hn:n≤S.length) (hl:S.length≤1000000) (hh:PQ.lD pU.last (S.take n)) :
  ∃S',m49 KK (.ptr 0 0) (.agg x.cells) (HQn S n)=some (.ret (.tuple []),uM [] S' (n+1))∧n+1≤S'.length∧S'.length≤max S.length (n+1)∧PQ.lD pU.last (S'.take (n+1))∧(S'.take (n+1)).Perm (x::S.take n):=by
 let T:=S.take n++[x]++S.drop (n+1)
 have hT:T=S.take n++[x]++S.drop (n+1):=rfl
 have hTl:T.length=max S.length (n+1):=by rw [hT];simp;omega
 have hTt:T.take (n+1)=S.take n++[x]:=by
  rw [hT]
  have:(S.take n++[x]).length=n+1:=by simp;omega
  rw [←this,List.take_left]
 have hup:PQ.XY pU.last (T.take (n+1)) n:=by
  rw [hTt]
  have:=PQ.SH (key:=pU.last) (x:=x) hh
  rwa [show(S.take n).length=n by simp;omega] at this
 obtain⟨r,hr,j,S',rfl,h1,h2,h3⟩:=up2 (C:=[.cells x.cells,.front 1 2]) Xr (by omega) (by omega) hup
 refine⟨S',?_,by omega,by omega,h2,h3.trans ?_⟩
 ·have hfin:oD 2 (uM [.cells x.cells,.front 1 2] S' (n+1))=some (uM [] S' (n+1)):=by
   rw [Gw]
   simp [uM]
  have hdn:T.drop (n+1)=S.drop (n+1):=by
   rw [hT]
   have:(S.take n++[x]).length=n+1:=by simp;omega
   rw [←this,List.drop_left]
  by_cases h0:S=[]
  ·subst h0
   have hn0:n=0:=by simpa using hn
   subst hn0
   have hT1:T=[x]:=rfl
   rw [hT1] at hr
   have e1:uM [.cells x.cells,.front 1 2] [x] 1=[.cells [.vslice 1 1 0 1 2,.func 45 [] []],.vec 1 2 [.int .i64 x.slot,.int .i64 x.last],.cells [.int .i64 x.slot,.int .i64 x.last],.front 1 2]:=rfl
   have wz:IntKind.i64.wrap 0=0:=by decide
   have n0:((0:Nat):Int)=0:=rfl
   rw [ar4,e1,n0] at hr
   simp only [uM,pU.pF,aq8,List.length_nil,Nat.reduceAdd] at hr ⊢
   simp only [HQn,if_true]
   simp [m49,mI,vR,r_,nL,tV,q8,lR,rE,nP,lC.AN,rowsOf,n_,wz]
   simp [hr]
  ·simp only [HQn,h0,if_false]
   have ha:=GK (enc:=pU.cells) (sz:=2) (by_:=16) (h:=uM [] S n++[.cells x.cells,.front 1 2]) (id:=1) (tot:=S.length) (n:=n) (xs:=S) (ys:=[x]) (T:=.own 3) (fun _=>rfl) (by omega) rfl hn (by simp)
   have hva:tva 16 S.length n S [x]=some T:=by
    unfold tva
    rw [if_pos ⟨rfl,hn,by simp;omega,by simp;omega⟩]
    rfl
   rw [hva,pN] at ha
   have eR:Rw pU.cells [x]=[[.int .i64 x.slot,.int .i64 x.last]]:=rfl
   have eH:(uM [] S n++[.cells x.cells,.front 1 2]:Hk.lD).set 1 (Vc pU.cells 2 T)=[.cells [.vslice 1 S.length 0 n 2,.func 45 [] []],Vc pU.cells 2 T,.cells [.int .i64 x.slot,.int .i64 x.last],.front 1 2]:=rfl
   have eH2:(uM [] S n++[.cells x.cells,.front 1 2]:Hk.lD)=[.cells [.vslice 1 S.length 0 n 2,.func 45 [] []],Vc pU.cells 2 S,.cells [.int .i64 x.slot,.int .i64 x.last],.front 1 2]:=rfl
   rw [eH,eH2,eR] at ha
   have w1:IntKind.i64.wrap (n:Int)=(n:Int):=by rw [wrap64 (by omega) (by omega)]
   simp only [uM,pU.pF,aq8,List.length_nil,Nat.reduceAdd] at hr ha ⊢
   simp [m49,mI,vR,r_,nL,tV,q8,lR,rE,nP,lC.AN,rowsOf]
   rw [ha]
   simp [w1]
   simp [hr]
 ·rw [hTt]
  exact List.perm_append_comm
theorem at4 {S:List pU}{n:Nat}(hn:n+1≤S.length) (hl:S.length≤1000000) (hh:PQ.lD pU.last (S.take (n+1))) :
  ∃S',m47 KK (.ptr 0 0) (uM [] S (n+1))=some (.ret (.agg (rt S 0).cells),uM [] S' n)∧S'.length=S.length∧PQ.lD pU.last (S'.take n)∧(rt S 0::S'.take n).Perm (S.take (n+1)):=by
 have hpop:PQ.pop (S.take (n+1))=(S.set 0 (rt S n)).take n:=by
  have e:(S.take (n+1)).length=n+1:=by rw [ao3];omega
  rw [PQ.W_ (y:=rt S n) (by intro h;rw [h] at e;simp at e) (by rw [e,Nat.add_sub_cancel,List.getElem?_take_of_lt (by omega),Bs (by omega)]),e,Nat.add_sub_cancel]
  rw [List.take_set,List.take_take,List.take_set]
  congr 1
  congr 1
  omega
 have hdn:=PQ.W9 hh
 rw [hpop] at hdn
 obtain⟨r,hr,j,S',rfl,h1,h2,h3⟩:=aoK (S:=S.set 0 (rt S n)) (n:=n) (i:=0) (x:=rt S 0) (by simp;omega) (by simpa using hl) (.inr rfl) hdn
 refine⟨S',?_,by simpa using h1,h2,?_⟩
 ·have hfin:oD 2 (uM (CT (rt S 0) (rt S 0)) S' n)=some (uM [] S' n):=Ju (C:=[]) (fun _ _=>rfl) rfl
  have w1:IntKind.i64.wrap (((n+1:Nat):Int)-1)=(n:Int):=by rw [wrap64 (by omega) (by omega)];omega
  have n0:((0:Nat):Int)=0:=rfl
  have h0l:0<S.length:=by omega
  have hnl:n<S.length:=by omega
  simp only [uM,CT,pU.pF,n0,List.length_set] at hr hfin ⊢
  have w2:IntKind.i64.wrap (n:Int)=(n:Int):=by rw [wrap64 (by omega) (by omega)]
  have t0:MH (n+1) 0=some 0:=by unfold MH;rw [if_pos (by omega)];rfl
  have hsl:oI 2 (.vslice 1 S.length 0 (n+1) 2) none (some (.int .i64 (n:Int)))=some (.vslice 1 S.length 0 n 2):=by
   simp [oI,pE]
  have l0:∀(c:mC) C,lP true 2 (c::Vc pU.cells 2 S::C) (.vptr 1 S.length 0)=some (.agg [.int .i64 (rt S 0).slot,.int .i64 (rt S 0).last]):=fun c C=>anQ rfl h0l
  have s0:∀(c:mC) C u v,lW 2 (c::Vc pU.cells 2 S::C) (.vptr 1 S.length 0) (.agg [.int .i64 u,.int .i64 v])=some (c::Vc pU.cells 2 (S.set 0 ⟨u,v⟩)::C):=fun c C u v=>anT rfl h0l
  have eta:∀y:pU,(⟨y.slot,y.last⟩:pU)=y:=fun _=>rfl
  simp [m47,w2,t0,h0l,hnl,hsl,l0,s0,eta]
  simp [hr]
 ·have hne:∃y r,S.take (n+1)=y::r:=by
   cases S with
   | nil=>simp at hn
   | cons y r=>exact⟨y,r.take n,rfl⟩
  obtain⟨y,r,hyr⟩:=hne
  have hy:y=rt S 0:=by
   have:(S.take (n+1))[0]?=some y:=by rw [hyr];rfl
   rw [List.getElem?_take_of_lt (by omega),Bs (by omega)] at this
   exact(Option.some.inj this).symm
  have:=PQ.N7 (x:=y) (r:=r)
  rw [←hyr,hpop,hy] at this
  exact(List.Perm.cons _ h3).trans this
end
section
open Go Hk
def FC (id:Nat) (S:List Int) (n:Nat):mC:=if S=[] then .cells [.slice [] (.own id),.func 44 [] []] else .cells [.vslice id S.length 0 n 1,.func 44 [] []]
def FV (S:List Int):mC:=if S=[] then .front 0 0 else Vc (ci .i64) 1 S
def UC (id:Nat) (S:List pU) (n:Nat):mC:=if S=[] then .cells [.slice [] (.own id),.func 45 [] []] else .cells [.vslice id S.length 0 n 2,.func 45 [] []]
def UV (S:List pU):mC:=if S=[] then .front 0 0 else Vc pU.cells 2 S
theorem UE (S:List Int) (n:Nat):HPn S n=[FC 1 S n,FV S]:=by unfold HPn FC FV;split <;> rfl
theorem UF (S:List pU) (n:Nat):HQn S n=[UC 1 S n,UV S]:=by unfold HQn UC UV;split <;> rfl
theorem OY {S:List Int}{n:Nat}(h:S≠[]):uL [] S n=[FC 1 S n,FV S]:=by rw [←UE,HPn,if_neg h]
theorem OZ {S:List pU}{n:Nat}(h:S≠[]):uM [] S n=[UC 1 S n,UV S]:=by rw [←UF,HQn,if_neg h]
section
variable {id:Nat}{S:List Int}{U:List pU}{n:Nat}
theorem Rx:(FC id S n).refs=[id]:=by unfold FC;split <;> rfl
theorem RH:(UC id U n).refs=[id]:=by unfold UC;split <;> rfl
theorem Rz:(FV S).refs=[]:=by
 unfold FV;split
 ·rfl
 ·exact Mn (fun _=>rfl)
theorem RJ:(UV U).refs=[]:=by
 unfold UV;split
 ·rfl
 ·exact Mn (fun _=>rfl)
theorem Rv {p:Nat→Bool}(h:p id=true):(FC id S n).ok p=true:=by unfold FC;split <;> simp [mC.ok,lC.IS,uA,h]
theorem RG {p:Nat→Bool}(h:p id=true):(UC id U n).ok p=true:=by unfold UC;split <;> simp [mC.ok,lC.IS,uA,h]
theorem Ry {p:Nat→Bool}:(FV S).ok p=true:=by
 unfold FV;split
 ·rfl
 ·exact WW (fun _=>rfl)
theorem RI {p:Nat→Bool}:(UV U).ok p=true:=by
 unfold UV;split
 ·rfl
 ·exact WW (fun _=>rfl)
theorem Kt {f:Nat→Nat}:(FC id S n).uQ f=FC (f id) S n:=by unfold FC;split <;> rfl
theorem Kw {f:Nat→Nat}:(UC id U n).uQ f=UC (f id) U n:=by unfold UC;split <;> rfl
theorem Ku {f:Nat→Nat}:(FV S).uQ f=FV S:=by
 unfold FV;split
 ·rfl
 ·exact QT (fun _=>rfl)
theorem Kx {f:Nat→Nat}:(UV U).uQ f=UV U:=by
 unfold UV;split
 ·rfl
 ·exact QT (fun _=>rfl)
end
section
variable {b0 b1 b2 b3 b4 b5 b8 b9:mC}{S:List Int}{U:List pU}{n:Nat}
theorem c46 (x:Int) (hn:n≤S.length) (hl:S.length≤1000000) (hh:PQ.lD (fun x=>x) (S.take n)) :
  ∃S',KK 46 [.ptr 6 0,.int .i64 x] [b0,b1,b2,b3,b4,b5,FC 7 S n,FV S,b8,b9]=some (.ret (.tuple []),[b0,b1,b2,b3,b4,b5,FC 7 S' (n+1),FV S',b8,b9]) ∧
   n+1≤S'.length∧S'.length≤max S.length (n+1)∧PQ.lD (fun x=>x) (S'.take (n+1))∧(S'.take (n+1)).Perm (x::S.take n):=by
 obtain⟨S',h1,h2,h3⟩:=at3 x hn hl hh
 refine⟨S',?_,h2,h3⟩
 rw [UE,OY (by intro h;rw [h] at h2;simp at h2)] at h1
 have:=xL (P:=Tryz.prog) (A:=mY) (f:=46) (args:=[.ptr 6 0,.int .i64 x]) (args':=[.ptr 0 0,.int .i64 x]) (h:=[b0,b1,b2,b3,b4,b5,FC 7 S n,FV S,b8,b9]) (hs:=[FC 1 S n,FV S]) (ids:=[6,7]) (x:=some ()) (v:=fun _=>.tuple []) (v':=fun _=>.tuple [])
  (h1:=fun _=>[FC 1 S' (n+1),FV S']) (h2:=fun _=>[b0,b1,b2,b3,b4,b5,FC 7 S' (n+1),FV S',b8,b9]) rfl rfl ?_ ?_ rfl ?_ (aiB ..) h1 fun _=>?_
 ·exact this
 ·simp [Rx,Rz]
 ·simp [Rv,Ry]
 ·simp [Kt,Ku]
 ·simp [Rv,Ry,Kt,Ku]
theorem c48 (hn:n+1≤S.length) (hl:S.length≤1000000) (hh:PQ.lD (fun x=>x) (S.take (n+1))) :
  ∃S',KK 48 [.ptr 6 0] [b0,b1,b2,b3,b4,b5,FC 7 S (n+1),FV S,b8,b9]=some (.ret (.int .i64 (rd S 0)),[b0,b1,b2,b3,b4,b5,FC 7 S' n,FV S',b8,b9]) ∧
   S'.length=S.length∧PQ.lD (fun x=>x) (S'.take n)∧(rd S 0::S'.take n).Perm (S.take (n+1)):=by
 obtain⟨S',h1,h2,h3⟩:=at5 hn hl hh
 refine⟨S',?_,h2,h3⟩
 rw [OY (by intro h;rw [h] at hn;simp at hn),OY (by intro h;rw [h] at h2;simp at h2;omega)] at h1
 have:=xL (P:=Tryz.prog) (A:=mY) (f:=48) (args:=[.ptr 6 0]) (args':=[.ptr 0 0]) (h:=[b0,b1,b2,b3,b4,b5,FC 7 S (n+1),FV S,b8,b9]) (hs:=[FC 1 S (n+1),FV S]) (ids:=[6,7]) (x:=some ()) (v:=fun _=>.int .i64 (rd S 0)) (v':=fun _=>.int .i64 (rd S 0))
  (h1:=fun _=>[FC 1 S' n,FV S']) (h2:=fun _=>[b0,b1,b2,b3,b4,b5,FC 7 S' n,FV S',b8,b9]) rfl rfl ?_ ?_ rfl ?_ (aiD ..) h1 fun _=>?_
 ·exact this
 ·simp [Rx,Rz]
 ·simp [Rv,Ry]
 ·simp [Kt,Ku]
 ·simp [Rv,Ry,Kt,Ku]
theorem c49 (x:pU) (hn:n≤U.length) (hl:U.length≤1000000) (hh:PQ.lD pU.last (U.take n)) :
  ∃S',KK 49 [.ptr 8 0,.agg [.int .i64 x.slot,.int .i64 x.last]] [b0,b1,b2,b3,b4,b5,b8,b9,UC 9 U n,UV U]=some (.ret (.tuple []),[b0,b1,b2,b3,b4,b5,b8,b9,UC 9 S' (n+1),UV S']) ∧
   n+1≤S'.length∧S'.length≤max U.length (n+1)∧PQ.lD pU.last (S'.take (n+1))∧(S'.take (n+1)).Perm (x::U.take n):=by
 obtain⟨S',h1,h2,h3⟩:=at6 x hn hl hh
 refine⟨S',?_,h2,h3⟩
 rw [UF,OZ (by intro h;rw [h] at h2;simp at h2)] at h1
 have:=xL (P:=Tryz.prog) (A:=mY) (f:=49) (args:=[.ptr 8 0,.agg [.int .i64 x.slot,.int .i64 x.last]]) (args':=[.ptr 0 0,.agg x.cells]) (h:=[b0,b1,b2,b3,b4,b5,b8,b9,UC 9 U n,UV U]) (hs:=[UC 1 U n,UV U]) (ids:=[8,9]) (x:=some ()) (v:=fun _=>.tuple []) (v':=fun _=>.tuple [])
  (h1:=fun _=>[UC 1 S' (n+1),UV S']) (h2:=fun _=>[b0,b1,b2,b3,b4,b5,b8,b9,UC 9 S' (n+1),UV S']) rfl rfl ?_ ?_ rfl ?_ (aiE ..) h1 fun _=>?_
 ·exact this
 ·simp [RH,RJ]
 ·simp [RG,RI]
 ·simp [Kw,Kx]
 ·simp [RG,RI,Kw,Kx]
theorem c47 (hn:n+1≤U.length) (hl:U.length≤1000000) (hh:PQ.lD pU.last (U.take (n+1))) :
  ∃S',KK 47 [.ptr 8 0] [b0,b1,b2,b3,b4,b5,b8,b9,UC 9 U (n+1),UV U]=some (.ret (.agg [.int .i64 (rt U 0).slot,.int .i64 (rt U 0).last]),[b0,b1,b2,b3,b4,b5,b8,b9,UC 9 S' n,UV S']) ∧
   S'.length=U.length∧PQ.lD pU.last (S'.take n)∧(rt U 0::S'.take n).Perm (U.take (n+1)):=by
 obtain⟨S',h1,h2,h3⟩:=at4 hn hl hh
 refine⟨S',?_,h2,h3⟩
 rw [OZ (by intro h;rw [h] at hn;simp at hn),OZ (by intro h;rw [h] at h2;simp at h2;omega)] at h1
 have:=xL (P:=Tryz.prog) (A:=mY) (f:=47) (args:=[.ptr 8 0]) (args':=[.ptr 0 0]) (h:=[b0,b1,b2,b3,b4,b5,b8,b9,UC 9 U (n+1),UV U]) (hs:=[UC 1 U (n+1),UV U]) (ids:=[8,9]) (x:=some ()) (v:=fun _=>.agg (rt U 0).cells) (v':=fun _=>.agg (rt U 0).cells)
  (h1:=fun _=>[UC 1 S' n,UV S']) (h2:=fun _=>[b0,b1,b2,b3,b4,b5,b8,b9,UC 9 S' n,UV S']) rfl rfl ?_ ?_ rfl ?_ (aiC ..) h1 fun _=>?_
 ·exact this
 ·simp [RH,RJ]
 ·simp [RG,RI]
 ·simp [Kw,Kx]
 ·simp [RG,RI,Kw,Kx]
end
end
section
open Go Hk
def rI (sp:List Span) (k:Nat):List Int:=((aq5 k).filter fun t=>decide (0≤((sp[t]?).map (·.first)).getD (-1))).map Int.ofNat
def sE (n k:Nat):List Int:=al7 k (-1)++al7 (n-k) 0
theorem TV {sp:List Span}{k:Nat}{s:Span}(h:sp[k]?=some s):rI sp (k+1)=if 0≤s.first then rI sp k++[(k:Int)] else rI sp k:=by
 unfold rI
 rw [List.range_succ,List.filter_append,List.map_append]
 by_cases hf:0≤s.first <;> simp [h,hf]
theorem L9 {sp:List Span}{k:Nat}:(rI sp k).length≤k:=by
 unfold rI
 rw [ar3]
 have:=List.length_filter_le (fun t=>decide (0≤((sp[t]?).map (·.first)).getD (-1))) (aq5 k)
 simpa using this
theorem QN {n k:Nat}(h:k<n):(sE n k).set k (-1)=sE n (k+1):=by
 unfold sE
 have e:n-k=(n-(k+1))+1:=by omega
 rw [List.set_append_right _ _ (by simp),List.length_replicate,Nat.sub_self,e,List.replicate_succ,List.set_cons_zero,List.replicate_succ',List.append_assoc]
 rfl
@[simp high] theorem atA {b0 b1 b2 b3:mC}{R:Hk.lD}{O:List Int}{k:Nat}{v:Int}(hk:k<O.length):lW 1 (b0::b1::b2::b3::.cells (O.map m_)::R) (.ptr 4 k) (.int .i64 v)=some (b0::b1::b2::b3::.cells ((O.set k v).map m_)::R):=by
 have hc:∃x,O[k]?=some x:=⟨_,ac6 hk⟩
 have hd:∃y r,(O.map m_).drop k=y::r∧sX (b0::b1::b2::b3::.cells (O.map m_)::R) y (.int .i64 v)=.int .i64 v:=by
  rw [ao4 (by simpa using hk)]
  exact⟨_,_,rfl,rfl⟩
 obtain⟨y,r,hd,hk2⟩:=hd
 have e:pM (b0::b1::b2::b3::.cells (O.map m_)::R) ((O.map m_).drop k) [.int .i64 v]=[.int .i64 v]:=by
  rw [hd];simp only [pM,hk2]
 have g:nW (b0::b1::b2::b3::.cells (O.map m_)::R) 4=some (O.map m_):=rfl
 unfold lW
 simp only [g,lC.cells,e]
 rw [if_pos (by simp [lC.mE];omega)]
 congr 1
 have:putCells (O.map m_) k [.int .i64 v]=(O.set k v).map m_:=by
  unfold putCells
  rw [List.map_set,List.set_eq_take_append_cons_drop,if_pos (by simpa using hk)]
  simp [m_]
 rw [this];rfl
@[simp high] theorem as7 {b0 b1 b2 b3:mC}{R:Hk.lD}{O:List Int}{k:Nat}(hk:k<O.length):lP false 1 (b0::b1::b2::b3::.cells (O.map m_)::R) (.ptr 4 k)=some (.int .i64 (rd O k)):=by
 have g:nW (b0::b1::b2::b3::.cells (O.map m_)::R) 4=some (O.map m_):=rfl
 unfold lP
 simp only [g,apart,cond_false,af7,Aq hk]
 rfl
theorem O3 {id sz n:Nat}(h:n≠0):Vs id sz n=.vslice id n 0 n sz:=if_neg h
theorem Ky {α:Type}{enc:α→List lC}{sz:Nat}{xs:List α}(h:xs.length≠0):Vb enc sz xs=Vc enc sz xs:=if_neg h
theorem auV {H:Hk.lD}{id:Nat}{o:List Int}{k:Int}{T:Hk.Tok}(hb:H[id]?=some (Vb (ci .i64) 1 o)) (ho:o.length≤1000000) :
  n_ 1 8 H (Vs id 1 o.length) (.slice [[.int .i64 k]] T)=some (Vs id 1 (o++[k]).length,H.set id (Vb (ci .i64) 1 (o++[k]))):=by
 have h:=O5 (enc:=ci .i64) (sz:=1) (by_:=8) (id:=id) (h:=H) (xs:=o) (ys:=[k]) (T:=T) (fun _=>rfl) (by simp) hb
 have e:p7 8 o [k]=some (o++[k]):=by unfold p7;rw [if_pos (by simp;omega)]
 rw [e,pN] at h
 have n0:(o++[k]).length≠0:=by simp
 rw [O3 n0,Ky n0]
 exact h
@[simp] theorem am0 {m:Nat}{h:Hk.lD}{o:List Int}:pC m h (Vb (ci .i64) 1 o)=some (Vb (ci .i64) 1 o):=by
 unfold Vb;split
 ·rfl
 ·exact E7 (fun x=>by simp)
@[simp] theorem asE {m n:Nat}{h:Hk.lD}(hm:5<m):lC.pV m h (Vs 5 1 n)=Vs 5 1 n:=by
 unfold Vs;split
 ·simp [lC.pV,lC.nO,hm]
 ·simp [lC.pV,lC.nO,hm]
@[simp] theorem Yh {m:Nat}{h:Hk.lD}{O:List Int}:mW m h (O.map m_)=some (O.map m_):=by
 induction O with
 | nil=>rfl
 | cons x r ih=>simp only [aq7,pD,ih];rfl
@[simp] theorem av5 {m id off len sz:Nat}{h:Hk.lD}(hm:id<m):lC.pV m h (.mslice id off len sz)=.mslice id off len sz:=by simp [lC.pV,lC.nO,hm]
section
variable {p:List lC}{sp:List Span}{n k:Nat}
def Jv (p:List lC) (sp:List Span) (O o:List Int):Hk.lD:=[.cells p,.front 0 0,.cells [.slice (Rw Span.cells sp) .no],.front 0 0,.cells (O.map m_),Vb (ci .i64) 1 o]
theorem ZE (hp:∀m h,mW m h p=some p) (hn:sp.length=n) (hn2:n≤1000000) (hk:k<n) :
  Be KK 6 ([.slice [] (.own 1),.int .i64 0,.int .i64 0,.ptr 2 0,.mslice 4 0 n 1,Vs 5 1 (rI sp k).length,.slice (Rw Span.cells sp) .no,.int .i64 (n:Int),.int .i64 (k:Int)],Jv p sp (sE n k) (rI sp k)) =
   some (.normal,[.slice [] (.own 1),.int .i64 0,.int .i64 0,.ptr 2 0,.mslice 4 0 n 1,Vs 5 1 (rI sp (k+1)).length,.slice (Rw Span.cells sp) .no,.int .i64 (n:Int),.int .i64 ((k+1:Nat):Int)],Jv p sp (sE n (k+1)) (rI sp (k+1))):=by
 have hsk:sp[k]?=some sp[k]:=ac6 (by omega)
 have e1:oV sp (k:Int)=some sp[k]:=by simp [oV,hsk]
 have w1:IntKind.i64.wrap ((k:Int)+1)=((k+1:Nat):Int):=by rw [wrap64 (by omega) (by omega)];omega
 have hol:k<(sE n k).length:=by unfold sE;simp;omega
 have hset:=QN hk
 have hord:=TV hsk
 have hle:=L9 (sp:=sp) (k:=k)
 have htap:p7 8 (rI sp k) [(k:Int)]=some (rI sp k++[(k:Int)]):=by
  unfold p7;rw [if_pos (by simp;omega)]
 have hix:lU 1 (.mslice 4 0 n 1) (.int .i64 (k:Int))=some (.ptr 4 k):=by simp [lU,hk]
 generalize sE n k=O at *
 generalize rI sp k=o at *
 rw [hord]
 rw [←hset]
 have bx:∀(b0 b1 b2 b3 b4 b5:mC) x y,lW 2 [b0,b1,b2,b3,b4,b5,.cells [.int .i64 0,.int .i64 0]] (.ptr 6 0) (.agg [.int .i64 x,.int .i64 y])=some [b0,b1,b2,b3,b4,b5,.cells [.int .i64 x,.int .i64 y]]:=fun _ _ _ _ _ _ _ _=>rfl
 by_cases hf:0≤sp[k].first
 ·have ha:=fun H T h=>auV (H:=H) (id:=5) (o:=o) (k:=(k:Int)) (T:=T) h (by omega)
  simp [Be,Jv,e1,w1,hk,hol,hf,hp,hix,lR,rE,nP,lC.AN,rowsOf,ha,bx,-sJ,-List.map_set]
 ·simp [Be,Jv,e1,w1,hk,hol,hf,hp,hix,bx,-sJ,-List.map_set]
end
end
section
open Go Hk
def UH (id:Nat) (S:List pU) (n:Nat):lC:=if S=[] then .slice [] (.own id) else .vslice id S.length 0 n 2
def FH (id:Nat) (S:List Int) (n:Nat):lC:=if S=[] then .slice [] (.own id) else .vslice id S.length 0 n 1
section
variable {id m:Nat}{S:List Int}{U:List pU}{n:Nat}{h:Hk.lD}
theorem UR:UC id U n=.cells [UH id U n,.func 45 [] []]:=by unfold UC UH;split <;> rfl
theorem ab7:FC id S n=.cells [FH id S n,.func 44 [] []]:=by unfold FC FH;split <;> rfl
theorem UT (hn:n≤U.length):mP (UH id U n)=some (.int .i64 (n:Int)):=by
 unfold UH;split
 ·rename_i h;subst h
  have:n=0:=by simpa using hn
  subst this;rfl
 ·rfl
theorem aeI (hn:n≤S.length):mP (FH id S n)=some (.int .i64 (n:Int)):=by
 unfold FH;split
 ·rename_i h;subst h
  have:n=0:=by simpa using hn
  subst this;rfl
 ·rfl
theorem US (h0:0<n) (hn:n≤U.length):lU 2 (UH id U n) (.int .i64 0)=some (.vptr id U.length 0):=by
 have hne:U≠[]:=by intro e;subst e;simp at hn;omega
 rw [UH,if_neg hne]
 simp only [lU]
 rw [if_pos ⟨by omega,by omega,trivial⟩];rfl
theorem T6 (hm:id<m):pC m h (FC id S n)=some (FC id S n):=by
 rw [ab7];unfold FH;split <;> simp [hm,lC.mE]
theorem T7 (hm:id<m):pC m h (UC id U n)=some (UC id U n):=by
 rw [UR];unfold UH;split <;> simp [hm,lC.mE]
@[simp] theorem amY:pC m h (FV S)=some (FV S):=by
 unfold FV;split
 ·rfl
 ·exact E7 (fun x=>by simp)
@[simp] theorem amZ:pC m h (UV U)=some (UV U):=by
 unfold UV;split
 ·rfl
 ·exact E7 (fun x=>by simp)
end
def HS (p:List lC) (sp:List Span) (O o:List Int) (SF:List Int) (nF:Nat) (SU:List pU) (nU:Nat):Hk.lD :=
 [.cells p,.front 0 0,.cells [.slice (Rw Span.cells sp) .no],.front 0 0,.cells (O.map m_),Vb (ci .i64) 1 o,FC 7 SF nF,FV SF,UC 9 SU nU,UV SU]
theorem Da {p:List lC}(hp:∀m h,mW m h p=some p) {sp:List Span}{O o SF:List Int}{nF nU:Nat}{SU:List pU}:oG 10 (HS p sp O o SF nF SU nU) ((HS p sp O o SF nF SU nU).take 10)=some (HS p sp O o SF nF SU nU):=by
 have e:(HS p sp O o SF nF SU nU).take 10=HS p sp O o SF nF SU nU:=rfl
 rw [e]
 generalize hH:HS p sp O o SF nF SU nU=H
 conv=>lhs;rw [←hH]
 rw [←hH]
 simp [HS,hp,T6,T7,-List.map_set]
section
variable {p:List lC}(hp:∀m h,mW m h p=some p) {sp:List Span}{O o SF:List Int}{nF nU N t k ns:Nat}{SU:List pU}{s:Span}
include hp
theorem RX (hs:sp[t]?=some s) (hU:nU≤SU.length) (h:nU=0∨0<nU∧¬(rt SU 0).last<s.first) :
  CO KK 10 ([.slice [] (.own 1),.int .i64 0,.int .i64 0,.ptr 2 0,.mslice 4 0 N 1,.ptr 6 0,.ptr 8 0,.int .i64 (ns:Int),.int .i64 (t:Int),Vs 5 1 o.length,.int .i64 (o.length:Int),.int .i64 (k:Int)],HS p sp O o SF nF SU nU) =
   some (.exit 4,[.slice [] (.own 1),.int .i64 0,.int .i64 0,.ptr 2 0,.mslice 4 0 N 1,.ptr 6 0,.ptr 8 0,.int .i64 (ns:Int),.int .i64 (t:Int),Vs 5 1 o.length,.int .i64 (o.length:Int),.int .i64 (k:Int)],HS p sp O o SF nF SU nU):=by
 have hl:=UT (id:=9) hU
 have ht:=Da hp (sp:=sp) (O:=O) (o:=o) (SF:=SF) (nF:=nF) (SU:=SU) (nU:=nU)
 have l8:lP false 1 (HS p sp O o SF nF SU nU) (.ptr 8 0)=some (UH 9 SU nU):=by simp [HS,UR]
 have l2:lP false 1 (HS p sp O o SF nF SU nU) (.ptr 2 0)=some (.slice (Rw Span.cells sp) .no):=by simp [HS]
 have hlen:(HS p sp O o SF nF SU nU).length=10:=rfl
 have e1:oV sp (t:Int)=some s:=by simp [oV,hs]
 rcases h with h0 | ⟨h0,hlt⟩
 ·generalize HS p sp O o SF nF SU nU=H at *
  subst h0
  simp [CO,l8,hl,ht]
 ·have hne:SU≠[]:=by intro e;subst e;simp at hU;omega
  have hi:=US (id:=9) h0 hU
  have ld:lP false 1 (HS p sp O o SF nF SU nU) (.vptr 9 SU.length 1)=some (.int .i64 (rt SU 0).last):=by
   have e9:(HS p sp O o SF nF SU nU)[9]?=some (Vc pU.cells 2 SU):=by unfold HS UV;rw [if_neg hne];rfl
   have:=Df (enc:=pU.cells) (sz:=2) (h:=HS p sp O o SF nF SU nU) (id:=9) (xs:=SU) (tot:=SU.length) (j:=0) (off:=1) (fun _=>rfl) e9 (by omega)
   rw [Nat.zero_mul,ar4,xR,if_pos rfl,Bs (List.length_pos_iff.2 hne)] at this
   exact this
  generalize HS p sp O o SF nF SU nU=H at *
  have hz:(0:Int)<(nU:Int):=by omega
  simp [CO,l8,l2,hl,ht,h0,hi,ld,e1,hlt,-qL,-vK]
theorem ZG (hs:sp[t]?=some s) (hU:nU+1≤SU.length) (hUl:SU.length≤1000000) (hUh:PQ.lD pU.last (SU.take (nU+1))) (hF:nF≤SF.length) (hFl:SF.length≤1000000) (hFh:PQ.lD (fun x=>x) (SF.take nF)) (h:(rt SU 0).last<s.first) :
  ∃SF' SU',CO KK 10 ([.slice [] (.own 1),.int .i64 0,.int .i64 0,.ptr 2 0,.mslice 4 0 N 1,.ptr 6 0,.ptr 8 0,.int .i64 (ns:Int),.int .i64 (t:Int),Vs 5 1 o.length,.int .i64 (o.length:Int),.int .i64 (k:Int)],HS p sp O o SF nF SU (nU+1)) =
   some (.normal,[.slice [] (.own 1),.int .i64 0,.int .i64 0,.ptr 2 0,.mslice 4 0 N 1,.ptr 6 0,.ptr 8 0,.int .i64 (ns:Int),.int .i64 (t:Int),Vs 5 1 o.length,.int .i64 (o.length:Int),.int .i64 (k:Int)],HS p sp O o SF' (nF+1) SU' nU) ∧
   SU'.length=SU.length∧PQ.lD pU.last (SU'.take nU)∧(rt SU 0::SU'.take nU).Perm (SU.take (nU+1)) ∧
   nF+1≤SF'.length∧SF'.length≤max SF.length (nF+1)∧PQ.lD (fun x=>x) (SF'.take (nF+1))∧(SF'.take (nF+1)).Perm ((rt SU 0).slot::SF.take nF):=by
 obtain⟨SU',k1,k2,k3,k4⟩:=c47 (b0:=.cells p) (b1:=.front 0 0) (b2:=.cells [.slice (Rw Span.cells sp) .no]) (b3:=.front 0 0) (b4:=.cells (O.map m_)) (b5:=Vb (ci .i64) 1 o) (b8:=FC 7 SF nF) (b9:=FV SF) hU hUl hUh
 obtain⟨SF',j1,j2,j3,j4,j5⟩:=c46 (b0:=.cells p) (b1:=.front 0 0) (b2:=.cells [.slice (Rw Span.cells sp) .no]) (b3:=.front 0 0) (b4:=.cells (O.map m_)) (b5:=Vb (ci .i64) 1 o) (b8:=UC 9 SU' nU) (b9:=UV SU') (rt SU 0).slot hF hFl hFh
 refine⟨SF',SU',?_,k2,k3,k4,j2,j3,j4,j5⟩
 have hl:=UT (id:=9) hU
 have ht:=Da hp (sp:=sp) (O:=O) (o:=o) (SF:=SF') (nF:=nF+1) (SU:=SU') (nU:=nU)
 have l8:lP false 1 (HS p sp O o SF nF SU (nU+1)) (.ptr 8 0)=some (UH 9 SU (nU+1)):=by simp [HS,UR]
 have l2:lP false 1 (HS p sp O o SF nF SU (nU+1)) (.ptr 2 0)=some (.slice (Rw Span.cells sp) .no):=by simp [HS]
 have e1:oV sp (t:Int)=some s:=by simp [oV,hs]
 have hne:SU≠[]:=by intro e;subst e;simp at hU
 have hi:=US (id:=9) (Nat.succ_pos nU) hU
 have ld:lP false 1 (HS p sp O o SF nF SU (nU+1)) (.vptr 9 SU.length 1)=some (.int .i64 (rt SU 0).last):=by
  have e9:(HS p sp O o SF nF SU (nU+1))[9]?=some (Vc pU.cells 2 SU):=by unfold HS UV;rw [if_neg hne];rfl
  have:=Df (enc:=pU.cells) (sz:=2) (h:=HS p sp O o SF nF SU (nU+1)) (id:=9) (xs:=SU) (tot:=SU.length) (j:=0) (off:=1) (fun _=>rfl) e9 (by omega)
  rw [Nat.zero_mul,ar4,xR,if_pos rfl,Bs (List.length_pos_iff.2 hne)] at this
  exact this
 have k1:KK 47 [.ptr 8 0] (HS p sp O o SF nF SU (nU+1))=some (.ret (.agg [.int .i64 (rt SU 0).slot,.int .i64 (rt SU 0).last]),HS p sp O o SF nF SU' nU):=k1
 have j1:KK 46 [.ptr 6 0,.int .i64 (rt SU 0).slot] (HS p sp O o SF nF SU' nU)=some (.ret (.tuple []),HS p sp O o SF' (nF+1) SU' nU):=j1
 generalize HS p sp O o SF nF SU (nU+1)=H at *
 generalize HS p sp O o SF nF SU' nU=H1 at *
 generalize HS p sp O o SF' (nF+1) SU' nU=H2 at *
 simp [CO,l8,l2,hl,ht,hi,ld,e1,h,k1,j1,-qL,-vK]
end
end
end Go.Proofs.YtgllbnabmglcfaaGreatDoor
namespace Hk.PS
section
variable {e:Nat→Int}
def tk (e:Nat→Int) (ps:List (Nat×Nat)) (s:Nat) (f:Int):Bool:=ps.any fun p=>p.2 == s&&decide (f≤e p.1)
theorem Rh {ps:List (Nat×Nat)}{s:Nat}{f:Int}:tk e ps s f=true↔∃p∈ps,p.2=s∧f≤e p.1:=by
 simp [tk]
theorem Ud {ps bs:List (Nat×Nat)}{s:Nat}{f:Int}:tk e (ps++bs) s f=(tk e ps s f || tk e bs s f):=by simp [tk]
def RU (e:Nat→Int) (ps:List (Nat×Nat)) (f:Int):Nat→Nat→Nat
 | 0,s=>s
 | n+1,s=>if tk e ps s f then RU e ps f n (s+1) else s
theorem EH {ps:List (Nat×Nat)}{f:Int}:∀{n s s':Nat},s≤s'→s'<RU e ps f n s→tk e ps s' f=true
 | 0,s,s',h1,h2=>by simp [RU] at h2;omega
 | n+1,s,s',h1,h2=>by
  unfold RU at h2
  split at h2
  ·rename_i h
   by_cases es:s=s'
   ·subst es;exact h
   ·exact EH (n:=n) (s:=s+1) (by omega) h2
  ·omega
theorem As {α:Type}{P:List α→Prop}(h0:P []) (h1:∀l x,P l→P (l++[x])) (l:List α):P l:=by
 have:∀r:List α,P r.reverse:=by
  intro r
  induction r with
  | nil=>exact h0
  | cons x r ih=>rw [List.reverse_cons];exact h1 _ _ ih
 have:=this l.reverse
 rwa [List.reverse_reverse] at this
theorem SD (e:Nat→Int) (ps:List (Nat×Nat)) (f:Int):∃s≤ps.length,tk e ps s f=false:=by
 by_cases h:∃s≤ps.length,tk e ps s f=false
 ·exact h
 ·exfalso
  have h2:aq5 (ps.length+1) ⊆ ps.map (·.2):=by
   intro s hs
   have hs:=List.mem_range.1 hs
   cases ht:tk e ps s f with
   | false=>exact absurd ⟨s,by omega,ht⟩ h
   | true =>
    obtain⟨p,hp,h1,_⟩:=Rh.1 ht
    exact ar2.2 ⟨p,hp,h1⟩
  have:=List.Nodup.length_le_of_subset List.nodup_range h2
  simp at this
  omega
def qR (e:Nat→Int) (ps:List (Nat×Nat)) (f:Int):Nat:=RU e ps f (ps.length+1) 0
theorem Ik (ps:List (Nat×Nat)) (f:Int):tk e ps (qR e ps f) f=false:=by
 obtain⟨s,h1,h2⟩:=SD e ps f
 cases h:tk e ps (qR e ps f) f with
 | false=>rfl
 | true =>
  have hle:qR e ps f≤s:=by
   by_cases hc:qR e ps f≤s
   ·exact hc
   ·have:=EH (e:=e) (ps:=ps) (f:=f) (n:=ps.length+1) (s:=0) (Nat.zero_le s) (by unfold qR at hc;omega)
    rw [h2] at this;cases this
  have key:∀(n s0:Nat),tk e ps (RU e ps f n s0) f=true→RU e ps f n s0=s0+n:=by
   intro n
   induction n with
   | zero=>intro s0 _;rfl
   | succ n ih =>
    intro s0 h
    unfold RU at h ⊢
    split
    ·rename_i hc
     rw [if_pos hc] at h
     rw [ih _ h];omega
    ·rename_i hc
     rw [if_neg hc] at h
     exact absurd h hc
  have:=key _ _ h
  unfold qR at hle
  omega
theorem Bu {ps:List (Nat×Nat)}{f:Int}{s:Nat}(h:s<qR e ps f):tk e ps s f=true:=EH (Nat.zero_le _) h
theorem Oo {ps:List (Nat×Nat)}{f:Int}{t:Nat}(ht:tk e ps t f=false) (hb:∀s<t,tk e ps s f=true):qR e ps f=t:=by
 have h1:¬qR e ps f<t:=fun h=>by have:=hb _ h;rw [Ik] at this;cases this
 have h2:¬t<qR e ps f:=fun h=>by have:=Bu h;rw [ht] at this;cases this
 omega
def gS (f e:Nat→Int) (ord:List Nat):List (Nat×Nat):=ord.foldl (fun ps t=>ps++[(t,qR e ps (f t))]) []
def nS (ps:List (Nat×Nat)):Nat:=ps.foldl (fun n p=>max n (p.2+1)) 0
theorem BU {ps:List (Nat×Nat)}{p:Nat×Nat}:nS (ps++[p])=max (nS ps) (p.2+1):=by simp [nS]
structure PI (e:Nat→Int) (ps:List (Nat×Nat)) (n:Nat) (F:List Int) (U:List (Int×Int)) (cur:Int):Prop where
 perm:(F++U.map (·.1)).Perm ((aq5 n).map Int.ofNat)
 taken:∀f,cur≤f→∀s:Nat,tk e ps s f=true↔∃x∈U,x.1=(s:Int)∧f≤x.2
 num:n=nS ps
theorem PI.empty (cur:Int):PI e [] 0 [] [] cur:=⟨by simp,fun f _ s=>by simp [tk],rfl⟩
theorem PI.later {ps:List (Nat×Nat)}{n:Nat}{F:List Int}{U:List (Int×Int)}{cur cur':Int}(h:PI e ps n F U cur) (hc:cur≤cur'):PI e ps n F U cur' :=
 ⟨h.perm,fun f hf=>h.taken f (by omega),h.num⟩
theorem PI.free {ps:List (Nat×Nat)}{n:Nat}{F F':List Int}{U U':List (Int×Int)}{cur:Int}{x:Int×Int}(h:PI e ps n F U cur) (hU:(x::U').Perm U) (hF:F'.Perm (x.1::F)) (hx:x.2<cur):PI e ps n F' U' cur:=by
 refine⟨?_,fun f hf s=>?_,h.num⟩
 ·refine List.Perm.trans ?_ h.perm
  have h1:(F'++U'.map (·.1)).Perm (x.1::F++U'.map (·.1)):=List.Perm.append_right _ hF
  have h2:(F++(x::U').map (·.1)).Perm (F++U.map (·.1)):=List.Perm.append_left _ (hU.map _)
  refine List.Perm.trans h1 (List.Perm.trans ?_ h2)
  simp only [aq7,List.cons_append]
  exact List.perm_middle.symm
 ·rw [h.taken f hf s]
  constructor
  ·rintro⟨y,hy,h1,h2⟩
   rcases List.mem_cons.1 (hU.mem_iff.2 hy) with rfl | h3
   ·omega
   ·exact⟨y,h3,h1,h2⟩
  ·rintro⟨y,hy,h1,h2⟩
   exact⟨y,hU.mem_iff.1 (List.mem_cons_of_mem _ hy),h1,h2⟩
theorem PI.least {ps:List (Nat×Nat)}{n:Nat}{F:List Int}{U:List (Int×Int)}{cur s:Int}(h:PI e ps n F U cur) (hU:∀x∈U,cur≤x.2) (hs:s∈F) (hm:∀y∈F,s≤y):s=(qR e ps cur:Int)∧qR e ps cur<n:=by
 have hmem:s∈(aq5 n).map Int.ofNat:=h.perm.mem_iff.1 (List.mem_append_left _ hs)
 obtain⟨k,hk,rfl⟩:=ar2.1 hmem
 have hk:=List.mem_range.1 hk
 have hof:Int.ofNat k=(k:Int):=rfl
 rw [hof] at hs hm ⊢
 have hnd:(F++U.map (·.1)).Nodup:=h.perm.nodup_iff.2 (by
  rw [List.nodup_iff_pairwise_ne,List.pairwise_map]
  refine(List.nodup_iff_pairwise_ne.1 (List.nodup_range (n:=n))).imp ?_
  intro a b hab hc;exact hab (Int.ofNat.inj hc))
 have hdis:=(List.nodup_append.1 hnd).2.2
 have e1:qR e ps cur=k:=by
  refine Oo ?_ fun s' hs'=>?_
  ·cases hb:tk e ps k cur with
   | false=>rfl
   | true =>
    obtain⟨x,hx,h1,h2⟩:=(h.taken cur (Int.le_refl _) k).1 hb
    exact absurd h1.symm (hdis _ hs _ (ar2.2 ⟨x,hx,rfl⟩))
  ·rw [h.taken cur (Int.le_refl _) s']
   have hm':(s':Int)∈F++U.map (·.1):=h.perm.mem_iff.2 (ar2.2 ⟨s',List.mem_range.2 (by omega),rfl⟩)
   rcases List.mem_append.1 hm' with h1 | h1
   ·have:=hm _ h1;omega
   ·obtain⟨x,hx,h2⟩:=ar2.1 h1
    exact⟨x,hx,h2,hU x hx⟩
 exact⟨by rw [e1],by omega⟩
theorem PI.more {ps:List (Nat×Nat)}{n:Nat}{U:List (Int×Int)}{cur:Int}(h:PI e ps n [] U cur) (hU:∀x∈U,cur≤x.2):qR e ps cur=n:=by
 refine Oo ?_ fun s' hs'=>?_
 ·cases hb:tk e ps n cur with
  | false=>rfl
  | true =>
   obtain⟨x,hx,h1,h2⟩:=(h.taken cur (Int.le_refl _) n).1 hb
   have:=h.perm.mem_iff.1 (List.mem_append_right _ (ar2.2 ⟨x,hx,rfl⟩))
   rw [h1] at this
   obtain⟨k,hk,e1⟩:=ar2.1 this
   have:=List.mem_range.1 hk
   have hof:Int.ofNat k=(k:Int):=rfl
   omega
 ·rw [h.taken cur (Int.le_refl _) s']
  have hm':(s':Int)∈([]:List Int)++U.map (·.1):=h.perm.mem_iff.2 (ar2.2 ⟨s',List.mem_range.2 (by omega),rfl⟩)
  rcases List.mem_append.1 hm' with h1 | h1
  ·cases h1
  ·obtain⟨x,hx,h2⟩:=ar2.1 h1
   exact⟨x,hx,h2,hU x hx⟩
theorem PI.auT {ps:List (Nat×Nat)}{n n':Nat}{F F':List Int}{U U':List (Int×Int)}{cur:Int}{t:Nat}(h:PI e ps n F U cur)
  (hp:(F'++U'.map (·.1)).Perm ((aq5 n').map Int.ofNat)) (hU:U'.Perm ((((qR e ps cur:Nat):Int),e t)::U)) (hn:n'=max n (qR e ps cur+1)) (ht:cur≤e t):PI e (ps++[(t,qR e ps cur)]) n' F' U' cur:=by
 refine⟨hp,fun f hf s=>?_,by rw [BU,←h.num];exact hn⟩
 rw [Ud,Bool.or_eq_true,h.taken f hf s]
 constructor
 ·rintro(⟨x,hx,h1,h2⟩ | h1)
  ·exact⟨x,hU.mem_iff.2 (List.mem_cons_of_mem _ hx),h1,h2⟩
  ·simp [tk] at h1
   exact⟨_,hU.mem_iff.2 (List.mem_cons_self ..),by simp [h1.1],h1.2⟩
 ·rintro⟨x,hx,h1,h2⟩
  rcases List.mem_cons.1 (hU.mem_iff.1 hx) with rfl | h3
  ·refine .inr ?_
   simp [tk]
   exact⟨Int.ofNat.inj h1,h2⟩
  ·exact .inl ⟨x,h3,h1,h2⟩
end
section
variable {f e:Nat→Int}
theorem zB (ord:List Nat) (t:Nat):gS f e (ord++[t])=gS f e ord++[(t,qR e (gS f e ord) (f t))]:=by simp [gS]
theorem EI (ord:List Nat):(gS f e ord).map (·.1)=ord:=by
 induction ord using As with
 | h0=>rfl
 | h1 l t ih=>rw [zB,List.map_append,ih];rfl
theorem Oq (ps:List (Nat×Nat)) (c:Int):qR e ps c≤ps.length:=by
 obtain⟨s,h1,h2⟩:=SD e ps c
 by_cases h:qR e ps c≤s
 ·omega
 ·have:=Bu (e:=e) (ps:=ps) (f:=c) (s:=s) (by omega)
  rw [h2] at this;cases this
end
end Hk.PS
namespace Go.Proofs.YtgllbnabmglcfaaGreatDoor
section
open Go Hk
def pr (l:List pU):List (Int×Int):=l.map fun x=>(x.slot,x.last)
structure HG (N:Nat) (SF:List Int) (nF:Nat) (SU:List pU) (nU:Nat):Prop where
 f1:nF≤SF.length
 f2:SF.length≤N
 f3:PQ.lD (fun x=>x) (SF.take nF)
 u1:nU≤SU.length
 u2:SU.length≤N
 u3:PQ.lD pU.last (SU.take nU)
theorem UO {e:Nat→Int}{ps:List (Nat×Nat)}{n:Nat}{F:List Int}{U:List (Int×Int)}{cur:Int}(h:PS.PI e ps n F U cur):F.length+U.length=n:=by
 have:=h.perm.length_eq
 simpa using this
section
variable {p:List lC}(hp:∀m h,mW m h p=some p) {sp:List Span}{O o:List Int}{N t k ns:Nat}{s:Span}{e:Nat→Int}{ps:List (Nat×Nat)}
include hp
theorem ZF (hs:sp[t]?=some s) (hN:N≤1000000) (hns:ns≤N):∀(nU nF:Nat) (SF:List Int) (SU:List pU),HG N SF nF SU nU→PS.PI e ps ns (SF.take nF) (pr (SU.take nU)) s.first →
  ∃SF' nF' SU' nU',mX (CO KK 10) ([.slice [] (.own 1),.int .i64 0,.int .i64 0,.ptr 2 0,.mslice 4 0 N 1,.ptr 6 0,.ptr 8 0,.int .i64 (ns:Int),.int .i64 (t:Int),Vs 5 1 o.length,.int .i64 (o.length:Int),.int .i64 (k:Int)],HS p sp O o SF nF SU nU) =
   some (.exit 4,[.slice [] (.own 1),.int .i64 0,.int .i64 0,.ptr 2 0,.mslice 4 0 N 1,.ptr 6 0,.ptr 8 0,.int .i64 (ns:Int),.int .i64 (t:Int),Vs 5 1 o.length,.int .i64 (o.length:Int),.int .i64 (k:Int)],HS p sp O o SF' nF' SU' nU') ∧
   HG N SF' nF' SU' nU'∧PS.PI e ps ns (SF'.take nF') (pr (SU'.take nU')) s.first∧∀x∈pr (SU'.take nU'),s.first≤x.2:=by
 intro nU
 induction nU with
 | zero =>
  intro nF SF SU hg hpi
  refine⟨SF,nF,SU,0,?_,hg,hpi,by simp [pr]⟩
  rw [nM,RX hp hs hg.u1 (.inl rfl)];rfl
 | succ nU ih =>
  intro nF SF SU hg hpi
  by_cases hlt:(rt SU 0).last<s.first
  ·obtain⟨SF',SU',h1,h2,h3,h4,h5,h6,h7,h8⟩:=ZG hp (O:=O) (o:=o) (N:=N) (k:=k) (ns:=ns) hs hg.u1 (by have:=hg.u2;omega) hg.u3 hg.f1 (by have:=hg.f2;omega) hg.f3 hlt
   have hc:=UO hpi
   simp only [pr,ar3,ao3] at hc
   have g1:=hg.f1
   have g2:=hg.u1
   have g3:=hg.f2
   have g4:=hg.u2
   have hpi':PS.PI e ps ns (SF'.take (nF+1)) (pr (SU'.take nU)) s.first:=hpi.free (x:=((rt SU 0).slot,(rt SU 0).last)) (h4.map fun x:pU=>(x.slot,x.last)) h8 hlt
   obtain⟨SF2,nF2,SU2,nU2,r1,r2⟩:=ih (nF+1) SF' SU' ⟨h5,by omega,h7,by omega,by omega,h3⟩ hpi'
   refine⟨SF2,nF2,SU2,nU2,?_,r2⟩
   rw [nM,h1]
   simp only [ai3,tB]
   exact r1
  ·refine⟨SF,nF,SU,nU+1,?_,hg,hpi,fun x hx=>?_⟩
   ·rw [nM,RX hp hs hg.u1 (.inr ⟨by omega,hlt⟩)];rfl
   ·obtain⟨y,hy,rfl⟩:=ar2.1 hx
    obtain⟨j,hj⟩:=List.getElem?_of_mem hy
    have hjl:j<(SU.take (nU+1)).length:=(ac1.1 hj).1
    have hmin:=PQ.NI hg.u3 j hjl
    have hn:=hg.u1
    rw [JN hn (by omega),PQ.RW hj] at hmin
    simp only
    omega
end
end
section
open Go Hk
theorem aeH {id:Nat}{S:List Int}{n:Nat}{C:Hk.lD}{c0 c1 c2 c3 c4 c5:mC}:lP false 1 (c0::c1::c2::c3::c4::c5::FC id S n::C) (.ptr 6 0)=some (FH id S n):=by simp [ab7]
theorem aj3 {S:List Int}{n:Nat}(hn:n≤S.length) (hh:PQ.lD (fun x=>x) (S.take n)):∀y∈S.take n,rd S 0≤y:=by
 intro y hy
 obtain⟨j,hj⟩:=List.getElem?_of_mem hy
 have hjl:j<(S.take n).length:=(ac1.1 hj).1
 have hmin:=PQ.NI hh j hjl
 have hjn:j<n:=by rw [ao3] at hjl;omega
 rw [JM hn (by omega),PQ.RW hj] at hmin
 exact hmin
theorem Xi {S:List Int}{n:Nat}(hn:n≤S.length) (h0:0<n):rd S 0∈S.take n:=by
 have:(S.take n)[0]?=some (rd S 0):=by rw [List.getElem?_take_of_lt h0,Aq (by omega)]
 exact List.mem_of_getElem? this
structure L2 (N:Nat) (e:Nat→Int) (ps:List (Nat×Nat)) (ns:Nat) (SF:List Int) (nF:Nat) (SU:List pU) (nU:Nat) (cur:Int):Prop where
 hg:HG N SF nF SU nU
 pi:PS.PI e ps ns (SF.take nF) (pr (SU.take nU)) cur
 b:ns≤N
section
variable {p:List lC}(hp:∀m h,mW m h p=some p) {sp:List Span}{O o:List Int}{N t k ns nF nU:Nat}{SF:List Int}{SU:List pU}{s:Span}{e:Nat→Int}{ps:List (Nat×Nat)}{cur:Int}
include hp
theorem ZI (hk : o[k]? = some (t : Int)) (hol : o.length ≤ 1000000) (hs : sp[t]? = some s) (hN : N ≤ 1000000) (ht : t < N) (hO : O.length = N) (hc : cur ≤ s.first) (hfl : s.first ≤ s.last) (he : e t = s.last) (hps : ps.length < N) (L : L2 N e ps ns SF nF SU nU cur) :
    ∃ (SF' : List Int) (nF' : Nat) (SU' : List pU) (nU' ns' : Nat), Bf KK 10 ([.slice [] (.own 1), .int .i64 0, .int .i64 0, .ptr 2 0, .mslice 4 0 N 1, .ptr 6 0, .ptr 8 0, .int .i64 (ns : Int), Vs 5 1 o.length, .int .i64 (o.length : Int), .int .i64 (k : Int)], HS p sp O o SF nF SU nU) =
      some (.normal, [.slice [] (.own 1), .int .i64 0, .int .i64 0, .ptr 2 0, .mslice 4 0 N 1, .ptr 6 0, .ptr 8 0, .int .i64 (ns' : Int), Vs 5 1 o.length, .int .i64 (o.length : Int), .int .i64 ((k + 1 : Nat) : Int)], HS p sp (O.set t ((PS.qR e ps s.first : Nat) : Int)) o SF' nF' SU' nU') ∧
      L2 N e (ps ++ [(t, PS.qR e ps s.first)]) ns' SF' nF' SU' nU' s.first := by
  have hkl : k < o.length := (ac1.1 hk).1
  have hnsN := L.b
  obtain ⟨SF1, nF1, SU1, nU1, e1, g1, p1, q1⟩ := ZF hp (O := O) (o := o) (k := k) hs hN hnsN nU nF SF SU L.hg (L.pi.later hc)
  have hsl := PS.Oq (e := e) ps s.first
  obtain ⟨SF2, nF2, ns2, f1, f2, f3, f4, f5, f6, fcode⟩ : ∃ (SF2 : List Int) (nF2 ns2 : Nat), nF2 + 1 ≤ SF2.length ∧ SF2.length ≤ N ∧ PQ.lD (fun x => x) (SF2.take (nF2 + 1)) ∧
      (SF2.take (nF2 + 1) ++ (pr (SU1.take nU1)).map (·.1)).Perm ((aq5 ns2).map Int.ofNat) ∧ rd SF2 0 = ((PS.qR e ps s.first : Nat) : Int) ∧ ns2 = max ns (PS.qR e ps s.first + 1) ∧
      ((nF1 = 0 ∧ KK 46 [.ptr 6 0, .int .i64 (ns : Int)] (HS p sp O o SF1 nF1 SU1 nU1) = some (.ret (.tuple []), HS p sp O o SF2 (nF2 + 1) SU1 nU1) ∧ ns2 = ns + 1) ∨
       (0 < nF1 ∧ SF2 = SF1 ∧ nF2 + 1 = nF1 ∧ ns2 = ns)) := by
    have g11 := g1.f1
    have g12 := g1.f2
    rcases Nat.eq_zero_or_pos nF1 with h0 | h0
    · subst h0
      have hmore := PS.PI.more (by simpa using p1) q1
      obtain ⟨S', j1, j2, j3, j4, j5⟩ := c46 (b0 := .cells p) (b1 := .front 0 0) (b2 := .cells [.slice (Rw Span.cells sp) .no]) (b3 := .front 0 0) (b4 := .cells (O.map m_)) (b5 := Vb (ci .i64) 1 o) (b8 := UC 9 SU1 nU1) (b9 := UV SU1) (S := SF1) (n := 0) (ns : Int) (Nat.zero_le _) (by omega) g1.f3
      have hone : S'.take (0 + 1) = [(ns : Int)] := by
        simp only [List.take_zero] at j5
        exact List.perm_singleton.1 j5
      refine ⟨S', 0, ns + 1, j2, by omega, j4, ?_, ?_, by omega, .inl ⟨rfl, j1, rfl⟩⟩
      · have hp1 := p1.perm
        simp only [List.take_zero, ar5] at hp1
        rw [hone, List.range_succ, List.map_append]
        exact (List.perm_append_comm (l₁ := [(ns : Int)])).trans (List.Perm.append_right _ hp1)
      · have := Xi (S := S') (n := 0 + 1) j2 (by omega)
        rw [hone] at this
        simp at this
        rw [this, hmore]
    · obtain ⟨m, rfl⟩ : ∃ m, nF1 = m + 1 := ⟨nF1 - 1, by omega⟩
      obtain ⟨h1, h2⟩ := p1.least (s := rd SF1 0) q1 (Xi g11 h0) (aj3 g11 g1.f3)
      exact ⟨SF1, m, ns, g11, g12, g1.f3, p1.perm, h1, by omega, .inr ⟨h0, rfl, rfl, rfl⟩⟩
  generalize hslot : PS.qR e ps s.first = slot at *
  obtain ⟨SF3, t1, t2, t3, t4⟩ := c48 (b0 := .cells p) (b1 := .front 0 0) (b2 := .cells [.slice (Rw Span.cells sp) .no]) (b3 := .front 0 0) (b4 := .cells (O.map m_)) (b5 := Vb (ci .i64) 1 o) (b8 := UC 9 SU1 nU1) (b9 := UV SU1) f1 (by omega) f3
  have g13 := g1.u1
  have g14 := g1.u2
  obtain ⟨SU4, v1, v2, v3, v4, v5⟩ := c49 (b0 := .cells p) (b1 := .front 0 0) (b2 := .cells [.slice (Rw Span.cells sp) .no]) (b3 := .front 0 0) (b4 := .cells ((O.set t (slot : Int)).map m_)) (b5 := Vb (ci .i64) 1 o) (b8 := FC 7 SF3 nF2) (b9 := FV SF3) ⟨(slot : Int), s.last⟩ g13 (by omega) g1.u3
  have hcount : nU1 + 1 ≤ N := by
    have := f4.length_eq
    simp only [pr, List.length_append, ar3, ao3, List.length_range] at this
    omega
  refine ⟨SF3, nF2, SU4, nU1 + 1, ns2, ?_, ⟨⟨by omega, by omega, t3, v2, by omega, v4⟩, ?_, by omega⟩⟩
  · have t1 : KK 48 [.ptr 6 0] (HS p sp O o SF2 (nF2 + 1) SU1 nU1) = some (.ret (.int .i64 (slot : Int)), HS p sp O o SF3 nF2 SU1 nU1) := by rw [← f5]; exact t1
    have v1 : KK 49 [.ptr 8 0, .agg [.int .i64 (slot : Int), .int .i64 s.last]] (HS p sp (O.set t (slot : Int)) o SF3 nF2 SU1 nU1) = some (.ret (.tuple []), HS p sp (O.set t (slot : Int)) o SF3 nF2 SU4 (nU1 + 1)) := v1
    have ht := Da hp (sp := sp) (O := O.set t (slot : Int)) (o := o) (SF := SF3) (nF := nF2) (SU := SU4) (nU := nU1 + 1)
    have hlen : (HS p sp O o SF nF SU nU).length = 10 := rfl
    have hfl1 := aeI (id := 7) (n := nF1) (S := SF1) g1.f1
    have l6 : lP false 1 (HS p sp O o SF1 nF1 SU1 nU1) (.ptr 6 0) = some (FH 7 SF1 nF1) := aeH
    have lo : lP false 1 (HS p sp O o SF nF SU nU) (.vptr 5 o.length k) = some (.int .i64 (t : Int)) := by
      have ho : o.length ≠ 0 := by omega
      have e5 : (HS p sp O o SF nF SU nU)[5]? = some (Vc (ci .i64) 1 o) := by show some (Vb (ci .i64) 1 o) = _; rw [Ky ho]
      have := Df (enc := ci .i64) (sz := 1) (h := HS p sp O o SF nF SU nU) (id := 5) (xs := o) (tot := o.length) (j := k) (off := 0) (fun _ => rfl) e5 (by omega)
      rw [Nat.mul_one, Nat.add_zero, xR, if_pos rfl, hk] at this
      exact this
    have hio : lU 1 (Vs 5 1 o.length) (.int .i64 (k : Int)) = some (.vptr 5 o.length k) := by
      rw [O3 (by omega)]
      simp [lU, hkl]
    have A9 : lU 1 (.mslice 4 0 N 1) (.int .i64 (t : Int)) = some (.ptr 4 t) := by simp [lU, ht]; omega
    have st : lW 1 (HS p sp O o SF3 nF2 SU1 nU1) (.ptr 4 t) (.int .i64 (slot : Int)) = some (HS p sp (O.set t (slot : Int)) o SF3 nF2 SU1 nU1) := atA (by omega)
    have ldt : lP false 1 (HS p sp (O.set t (slot : Int)) o SF3 nF2 SU1 nU1) (.ptr 4 t) = some (.int .i64 (slot : Int)) := by
      have h4 := as7 (b0 := .cells p) (b1 := .front 0 0) (b2 := .cells [.slice (Rw Span.cells sp) .no]) (b3 := .front 0 0) (R := [Vb (ci .i64) 1 o, FC 7 SF3 nF2, FV SF3, UC 9 SU1 nU1, UV SU1]) (O := O.set t (slot : Int)) (k := t) (by simp; omega)
      have h5 : rd (O.set t (slot : Int)) t = (slot : Int) := by
        have := Aq (S := O.set t (slot : Int)) (j := t) (by simp; omega)
        rw [List.getElem?_set_self (by omega)] at this
        exact (Option.some.inj this).symm
      rw [h5] at h4; exact h4
    have l2 : lP false 1 (HS p sp (O.set t (slot : Int)) o SF3 nF2 SU1 nU1) (.ptr 2 0) = some (.slice (Rw Span.cells sp) .no) := by simp [HS]
    have es : oV sp (t : Int) = some s := by simp [oV, hs]
    have w1 : IntKind.i64.wrap ((k : Int) + 1) = ((k + 1 : Nat) : Int) := by rw [wrap64 (by omega) (by omega)]; omega
    have w2 : IntKind.i64.wrap ((ns : Int) + 1) = ((ns + 1 : Nat) : Int) := by rw [wrap64 (by omega) (by omega)]; omega
    generalize HS p sp O o SF nF SU nU = H0 at *
    generalize HS p sp (O.set t (slot : Int)) o SF3 nF2 SU4 (nU1 + 1) = H5 at *
    generalize HS p sp (O.set t (slot : Int)) o SF3 nF2 SU1 nU1 = H4 at *
    generalize HS p sp O o SF3 nF2 SU1 nU1 = H3 at *
    rcases fcode with ⟨hn0, k1, hns2⟩ | ⟨hn0, hSF, hnF, hns2⟩
    · subst hns2
      subst hn0
      generalize HS p sp O o SF2 (nF2 + 1) SU1 nU1 = H2 at *
      generalize HS p sp O o SF1 0 SU1 nU1 = H1 at *
      simp [Bf, hlen, hkl, hio, lo, e1, l6, hfl1, k1, t1, A9, st, ldt, l2, es, v1, ht, w1, w2, -qL, -vK, -sJ]
    · subst hns2
      subst hSF
      subst hnF
      generalize HS p sp O o SF2 (nF2 + 1) SU1 nU1 = H1 at *
      have hz : ¬ ((nF2 : Int) + 1 = 0) := by omega
      simp [hz, Bf, hlen, hkl, hio, lo, e1, l6, hfl1, t1, A9, st, ldt, l2, es, v1, ht, w1, w2, -qL, -vK, -sJ]
  · have hpi := p1.auT (t := t) (n' := ns2) (F' := SF3.take nF2) (U' := pr (SU4.take (nU1 + 1))) ?_ ?_ ?_ ?_
    · rw [hslot] at hpi; exact hpi
    · have h1 : (pr (SU4.take (nU1 + 1))).Perm (pr (⟨(slot : Int), s.last⟩ :: SU1.take nU1)) := v5.map _
      have h2 : ((SF3.take nF2) ++ (pr (SU4.take (nU1 + 1))).map (·.1)).Perm ((SF3.take nF2) ++ (slot : Int) :: (pr (SU1.take nU1)).map (·.1)) := List.Perm.append_left _ (h1.map _)
      refine h2.trans (List.perm_middle.trans ?_)
      rw [← f5]
      exact (List.Perm.append_right _ t4).trans f4
    · rw [hslot, he]; exact v5.map _
    · rw [hslot]; exact f6
    · rw [he]; exact hfl
end
end
section
open Go Hk
def fS (sp:List Span) (t:Nat):Int:=((sp[t]?).map (·.first)).getD (-1)
def eS (sp:List Span) (t:Nat):Int:=((sp[t]?).map (·.last)).getD (-1)
def Jf (sp:List Span) (x:Int):Int:=(vZ (Rw Span.cells sp) x).getD 0
theorem Oh {sp:List Span}{t:Nat}(h:t<sp.length):vZ (Rw Span.cells sp) (t:Int)=some (fS sp t):=by
 unfold vZ fS Rw
 rw [if_pos (by omega)]
 simp [ac6 h]
theorem RV {sp:List Span}{t:Nat}(h:t<sp.length):Jf sp (t:Int)=fS sp t:=by unfold Jf;rw [Oh h];rfl
def sH (sp:List Span):List Int:=zT (qJ (Jf sp)) (rI sp sp.length)
def rA (sp:List Span):List Nat:=(sH sp).map Int.toNat
theorem N1 {sp:List Span}{x:Int}:x∈rI sp sp.length↔∃t:Nat,x=(t:Int)∧t<sp.length∧0≤fS sp t:=by
 unfold rI fS
 rw [ar2]
 constructor
 ·rintro⟨t,ht,rfl⟩
  rw [List.mem_filter,List.mem_range,decide_eq_true_eq] at ht
  exact⟨t,rfl,ht.1,ht.2⟩
 ·rintro⟨t,rfl,h1,h2⟩
  exact⟨t,by rw [List.mem_filter,List.mem_range,decide_eq_true_eq];exact⟨h1,h2⟩,rfl⟩
theorem Bj {sp:List Span}{x:Int}:x∈sH sp↔∃t:Nat,x=(t:Int)∧t<sp.length∧0≤fS sp t:=by
 unfold sH;rw [tQ.mem_iff,N1]
theorem W6 {sp:List Span}:(sH sp).length≤sp.length:=by
 unfold sH;rw [tQ.length_eq];exact L9
theorem Sh {sp:List Span}:sH sp=(rA sp).map Int.ofNat:=by
 unfold rA
 rw [List.map_map]
 have:∀x∈sH sp,(Int.ofNat∘Int.toNat) x=x:=by
  intro x hx
  obtain⟨t,rfl,_⟩:=Bj.1 hx
  rfl
 rw [List.map_congr_left this,List.map_id']
theorem N2 {sp:List Span}{t:Nat}:t∈rA sp↔t<sp.length∧0≤fS sp t:=by
 unfold rA
 rw [ar2]
 constructor
 ·rintro⟨x,hx,rfl⟩
  obtain⟨t,rfl,h1,h2⟩:=Bj.1 hx
  exact⟨h1,h2⟩
 ·rintro⟨h1,h2⟩
  exact⟨(t:Int),Bj.2 ⟨t,rfl,h1,h2⟩,rfl⟩
theorem W7 {sp:List Span}:(rA sp).length≤sp.length:=by unfold rA;rw [ar3];exact W6
theorem N3 {sp:List Span}:(rA sp).Pairwise fun a b=>fS sp a<fS sp b∨fS sp a=fS sp b∧a≤b:=by
 have h:=DS (key:=Jf sp) (l:=rI sp sp.length)
 have h2:(sH sp).Pairwise fun a b=>qJ (Jf sp) a b=true:=h
 unfold rA
 rw [List.pairwise_map]
 refine List.Pairwise.imp_of_mem ?_ h2
 intro a b ha hb hab
 obtain⟨t,rfl,ht,_⟩:=Bj.1 ha
 obtain⟨u,rfl,hu,_⟩:=Bj.1 hb
 simp only [qJ,Bool.or_eq_true,Bool.and_eq_true,decide_eq_true_eq,RV ht,RV hu] at hab
 simp only [as0]
 omega
def DH (n:Nat) (ps:List (Nat×Nat)):List Int:=ps.foldl (fun O q=>O.set q.1 (q.2:Int)) (al7 n (-1))
theorem N5 {n:Nat}{ps:List (Nat×Nat)}:(DH n ps).length=n:=by
 induction ps using PS.As with
 | h0=>simp [DH]
 | h1 l q ih=>unfold DH at ih ⊢;rw [List.foldl_append];simpa using ih
theorem N4 {n:Nat}{ps:List (Nat×Nat)}{q:Nat×Nat}:DH n (ps++[q])=(DH n ps).set q.1 (q.2:Int):=by simp [DH]
section
variable {p:List lC}(hp:∀m h,mW m h p=some p) {sp:List Span}{n:Nat}
include hp
theorem ZD (hn:sp.length=n) (hn2:n≤1000000):∀(d k:Nat),n=k+d →
  mX (Be KK 6) ([.slice [] (.own 1),.int .i64 0,.int .i64 0,.ptr 2 0,.mslice 4 0 n 1,Vs 5 1 (rI sp k).length,.slice (Rw Span.cells sp) .no,.int .i64 (n:Int),.int .i64 (k:Int)],Jv p sp (sE n k) (rI sp k)) =
   some (.exit 0,[.slice [] (.own 1),.int .i64 0,.int .i64 0,.ptr 2 0,.mslice 4 0 n 1,Vs 5 1 (rI sp n).length,.slice (Rw Span.cells sp) .no,.int .i64 (n:Int),.int .i64 (n:Int)],Jv p sp (sE n n) (rI sp n)):=by
 intro d
 induction d with
 | zero =>
  intro k hk
  obtain rfl:k=n:=by omega
  rw [nM]
  have:Be KK 6 ([.slice [] (.own 1),.int .i64 0,.int .i64 0,.ptr 2 0,.mslice 4 0 k 1,Vs 5 1 (rI sp k).length,.slice (Rw Span.cells sp) .no,.int .i64 (k:Int),.int .i64 (k:Int)],Jv p sp (sE k k) (rI sp k)) =
   some (.exit 0,[.slice [] (.own 1),.int .i64 0,.int .i64 0,.ptr 2 0,.mslice 4 0 k 1,Vs 5 1 (rI sp k).length,.slice (Rw Span.cells sp) .no,.int .i64 (k:Int),.int .i64 (k:Int)],Jv p sp (sE k k) (rI sp k)):=by
   simp [Be,Jv,hp,-List.map_set]
  rw [this];rfl
 | succ d ih =>
  intro k hk
  rw [nM,ZE hp hn hn2 (by omega)]
  simp only [ai3,tB]
  exact ih (k+1) (by omega)
end
end
section
open Go Hk
theorem RF (o:List Int):(Rw (ci .i64) o).flatten=o.map m_:=by
 induction o with
 | nil=>rfl
 | cons y s ih=>simp only [Rw,aq7,List.flatten_cons] at ih ⊢;rw [ih];rfl
theorem O_ (o:List Int):Fk (o.map m_)=some o:=by
 induction o with
 | nil=>rfl
 | cons y s ih=>simp only [aq7,m_,Fk] at ih ⊢;rw [ih];rfl
theorem c40 {p:List lC}{sp:List Span}{O:List Int}(hn:sp.length≤1000000) :
  KK 40 [lC.lL (Vs 5 1 (rI sp sp.length).length),lC.lL (.func 41 [] [.ptr 2 0])] (Jv p sp O (rI sp sp.length))=some (.ret (.tuple []),Jv p sp O (sH sp)):=by
 have e:KK 40 [lC.lL (Vs 5 1 (rI sp sp.length).length),lC.lL (.func 41 [] [.ptr 2 0])] (Jv p sp O (rI sp sp.length))=FL 41 [lC.lL (Vs 5 1 (rI sp sp.length).length),.func 41 [] [.ptr 2 0]] (Jv p sp O (rI sp sp.length)):=by
  show IQ Tryz.prog mY 40 _ _=_
  rw [KV];rfl
 rw [e]
 have hmem:∀x∈rI sp sp.length,∃t:Nat,x=(t:Int)∧t<sp.length:=fun x hx=>by
  obtain⟨t,h1,h2,_⟩:=N1.1 hx;exact⟨t,h1,h2⟩
 have hle:=L9 (sp:=sp) (k:=sp.length)
 have hord:sH sp=zT (qJ (Jf sp)) (rI sp sp.length):=rfl
 rw [hord]
 generalize rI sp sp.length=o at *
 by_cases h0:o.length=0
 ·have:o=[]:=List.eq_nil_of_length_eq_zero h0
  subst this
  rfl
 ·have hvs:lC.lL (Vs 5 1 o.length)=.vslice 5 o.length 0 o.length 1:=by rw [O3 h0];rfl
  have hvb:Jv p sp O o=[.cells p,.front 0 0,.cells [.slice (Rw Span.cells sp) .no],.front 0 0,.cells (O.map m_),.vec o.length 1 (o.map m_)]:=by
   unfold Jv;rw [Ky h0,Vc,RF]
  have hall:((Rw Span.cells sp).all fun r=>r.length == 2)=true:=by simp [Rw,Span.cells]
  have hkey:(o.all fun x=>(vZ (Rw Span.cells sp) x).isSome)=true:=by
   rw [List.all_eq_true]
   intro x hx
   obtain⟨t,rfl,ht⟩:=hmem x hx
   rw [Oh ht];rfl
  have hsl:(zT (qJ (Jf sp)) o).length=o.length:=tQ.length_eq
  rw [hvs,hvb]
  have htk:Fk ((o.map m_).take o.length)=some o:=by rw [List.take_of_length_le (by simp),O_]
  have hg:nV [.cells p,.front 0 0,.cells [.slice (Rw Span.cells sp) .no],.front 0 0,.cells (O.map m_),.vec o.length 1 (o.map m_)] 5 o.length=some (1,o.map m_):=by simp [nV]
  have h2:([.cells p,.front 0 0,.cells [.slice (Rw Span.cells sp) .no],.front 0 0,.cells (O.map m_),.vec o.length 1 (o.map m_)]:Hk.lD)[2]?=some (.cells [.slice (Rw Span.cells sp) .no]):=rfl
  have hc0:([.slice (Rw Span.cells sp) .no]:List lC)[0]?=some (.slice (Rw Span.cells sp) .no):=rfl
  simp only [FL,hg,h2,hc0,htk]
  rw [if_pos ⟨trivial,by omega,trivial,by omega,by simp,by omega,hall,hkey⟩]
  have hvb2:Jv p sp O (zT (qJ (Jf sp)) o)=[.cells p,.front 0 0,.cells [.slice (Rw Span.cells sp) .no],.front 0 0,.cells (O.map m_),.vec o.length 1 ((zT (qJ (Jf sp)) o).map m_)]:=by
   unfold Jv;rw [Ky (by omega),Vc,RF,hsl]
  rw [hvb2]
  have hpc:putCells (o.map m_) 0 ((zT (qJ fun x=>(vZ (Rw Span.cells sp) x).getD 0) o).map (lC.int .i64))=(zT (qJ (Jf sp)) o).map m_:=by
   unfold putCells
   rw [List.take_zero,ar5,ar4,List.drop_eq_nil_of_le (by rw [ar3,ar3];have:(zT (qJ fun x=>(vZ (Rw Span.cells sp) x).getD 0) o).length=o.length:=tQ.length_eq;omega),List.append_nil]
   rfl
  rw [hpc];rfl
section
variable {p:List lC}(hp:∀m h,mW m h p=some p) {sp:List Span}{n:Nat}
include hp
theorem ZH (hn:sp.length=n) (hn2:n≤1000000) (hfe:∀s∈sp,0≤s.first→s.first≤s.last):∀(d k:Nat) (SF:List Int) (nF:Nat) (SU:List pU) (nU ns:Nat) (cur:Int),(rA sp).length=k+d →
  (∀j,k≤j→(h:j<(rA sp).length)→cur≤fS sp (rA sp)[j])→L2 n (eS sp) (PS.gS (fS sp) (eS sp) ((rA sp).take k)) ns SF nF SU nU cur →
  ∃(SF':List Int) (nF':Nat) (SU':List pU) (nU':Nat),mX (Bf KK 10) ([.slice [] (.own 1),.int .i64 0,.int .i64 0,.ptr 2 0,.mslice 4 0 n 1,.ptr 6 0,.ptr 8 0,.int .i64 (ns:Int),Vs 5 1 (sH sp).length,.int .i64 ((sH sp).length:Int),.int .i64 (k:Int)],HS p sp (DH n (PS.gS (fS sp) (eS sp) ((rA sp).take k))) (sH sp) SF nF SU nU) =
   some (.exit 2,[.slice [] (.own 1),.int .i64 0,.int .i64 0,.ptr 2 0,.mslice 4 0 n 1,.ptr 6 0,.ptr 8 0,.int .i64 ((PS.nS (PS.gS (fS sp) (eS sp) (rA sp)):Nat):Int),Vs 5 1 (sH sp).length,.int .i64 ((sH sp).length:Int),.int .i64 ((rA sp).length:Int)],HS p sp (DH n (PS.gS (fS sp) (eS sp) (rA sp))) (sH sp) SF' nF' SU' nU'):=by
 have hol:(sH sp).length=(rA sp).length:=by unfold rA;simp
 intro d
 induction d with
 | zero =>
  intro k SF nF SU nU ns cur hk _ L
  have hk':k=(rA sp).length:=by omega
  rw [hk',List.take_length] at L ⊢
  refine⟨SF,nF,SU,nU,?_⟩
  have hns:ns=PS.nS (PS.gS (fS sp) (eS sp) (rA sp)):=L.pi.num
  rw [←hns,nM]
  have ht:=Da hp (sp:=sp) (O:=DH n (PS.gS (fS sp) (eS sp) (rA sp))) (o:=sH sp) (SF:=SF) (nF:=nF) (SU:=SU) (nU:=nU)
  generalize HS p sp (DH n (PS.gS (fS sp) (eS sp) (rA sp))) (sH sp) SF nF SU nU=H at *
  have:Bf KK 10 ([.slice [] (.own 1),.int .i64 0,.int .i64 0,.ptr 2 0,.mslice 4 0 n 1,.ptr 6 0,.ptr 8 0,.int .i64 (ns:Int),Vs 5 1 (sH sp).length,.int .i64 ((sH sp).length:Int),.int .i64 ((rA sp).length:Int)],H) =
   some (.exit 2,[.slice [] (.own 1),.int .i64 0,.int .i64 0,.ptr 2 0,.mslice 4 0 n 1,.ptr 6 0,.ptr 8 0,.int .i64 (ns:Int),Vs 5 1 (sH sp).length,.int .i64 ((sH sp).length:Int),.int .i64 ((rA sp).length:Int)],H):=by
   simp [Bf,hol,ht]
  rw [this];rfl
 | succ d ih =>
  intro k SF nF SU nU ns cur hk hcur L
  have hkl:k<(rA sp).length:=by omega
  obtain⟨ht1,ht2⟩:=N2.1 (as2 hkl)
  have hsp:sp[(rA sp)[k]]?=some sp[(rA sp)[k]]:=ac6 ht1
  have hf:fS sp (rA sp)[k]=sp[(rA sp)[k]].first:=by unfold fS;rw [hsp];rfl
  have he:eS sp (rA sp)[k]=sp[(rA sp)[k]].last:=by unfold eS;rw [hsp];rfl
  have hok:(sH sp)[k]?=some (((rA sp)[k]:Nat):Int):=by
   rw [Sh,af7,ac6 hkl];rfl
  have hlen:(PS.gS (fS sp) (eS sp) ((rA sp).take k)).length=k:=by
   rw [←ar3 (f:=(·.1)),PS.EI,ao3];omega
  have hsl:=W7 (sp:=sp)
  obtain⟨SF',nF',SU',nU',ns',h1,h2⟩:=ZI hp (O:=DH n (PS.gS (fS sp) (eS sp) ((rA sp).take k))) (o:=sH sp) hok (by omega) hsp hn2 (by omega) N5 (by have:=hcur k (ai1 _) hkl;omega) (hfe _ (as2 ht1) (by omega)) he (by omega) L
  have hstep:PS.gS (fS sp) (eS sp) ((rA sp).take (k+1))=PS.gS (fS sp) (eS sp) ((rA sp).take k)++[((rA sp)[k],PS.qR (eS sp) (PS.gS (fS sp) (eS sp) ((rA sp).take k)) sp[(rA sp)[k]].first)]:=by
   rw [List.take_succ_eq_append_getElem hkl,PS.zB,hf]
  rw [←hstep] at h2
  obtain⟨SF2,nF2,SU2,nU2,h3⟩:=ih (k+1) SF' nF' SU' nU' ns' _ (by omega) (fun j hj hjl=>by
   have:=List.pairwise_iff_getElem.1 (N3 (sp:=sp)) k j hkl hjl (by omega)
   rw [←hf]
   omega) h2
  refine⟨SF2,nF2,SU2,nU2,?_⟩
  rw [nM,h1]
  simp only [ai3,tB]
  rw [hstep,N4] at h3
  exact h3
end
end
section
open Go Hk
def gaS (sp:List Span):List (Nat×Nat):=PS.gS (fS sp) (eS sp) (rA sp)
def slS (sp:List Span):List Int:=DH sp.length (gaS sp)
def slN (sp:List Span):Int:=((PS.nS (gaS sp):Nat):Int)
theorem TW {n:Nat}{f e:Nat→Int}:sE n n=DH n (PS.gS f e []):=by simp [sE,DH,PS.gS]
theorem Md (O:List Int):nP (O.map m_)=some (O.map m_):=by
 induction O with
 | nil=>rfl
 | cons x r ih=>simp only [aq7,nP,ih];rfl
theorem Oi (O:List Int):rowsOf O.length 1 (O.map m_)=Rw (ci .i64) O:=by
 induction O with
 | nil=>rfl
 | cons x r ih=>simp only [aq8,aq7,rowsOf,List.take_succ_cons,List.take_zero,List.drop_succ_cons,List.drop_zero,ih];rfl
theorem abP {b0 b1 b2 b3:mC}{R:Hk.lD}{O:List Int}{n:Nat}(hO:O.length=n):lC.nO 0 (b0::b1::b2::b3::.cells (O.map m_)::R) (.mslice 4 0 n 1)=.slice (Rw (ci .i64) O) .no:=by
 subst hO
 have g:(b0::b1::b2::b3::.cells (O.map m_)::R:Hk.lD)[4]?=some (.cells (O.map m_)):=rfl
 have ht:(((O.map m_).drop 0).take (O.length*1))=O.map m_:=by rw [List.drop_zero,Nat.mul_one,List.take_of_length_le (by simp)]
 simp only [lC.nO,g,ht,Md]
 simp [Oi]
@[simp] theorem adA {f:Nat}{x y:List lC}:lC.oC (.func f x y)=false:=(rfl)
@[simp] theorem Pg {f:Nat}{x y:List lC}:lC.cells (.func f x y)=[.func f x y]:=(rfl)
theorem XE {i f:Nat}:mM i [.slice [] .nil,.func f [] []]=([.slice [] (.own i),.func f [] []],[.front 0 0]):=rfl
theorem c21 {p:IR}{sp:List Span}{n:Nat}(hn:sp.length=n) (hn2:n≤1000000) (hfe:∀s∈sp,0≤s.first→s.first≤s.last)
  (h45:∀h,KK 39 [.agg [.int .i64 p.temps,.slice (Rw mV.cells p.arrays) .no,.slice (Rw mF.cells p.blocks) .no,.int .i64 p.inn,.int .i64 p.out]] h=some (.ret (.tuple [.slice (Rw Span.cells sp) .no,.int .i64 0]),h)) (h:Hk.lD) :
  KK 21 [.agg [.int .i64 p.temps,.slice (Rw mV.cells p.arrays) .no,.slice (Rw mF.cells p.blocks) .no,.int .i64 p.inn,.int .i64 p.out]] h =
   some (.ret (.tuple [.slice (Rw (ci .i64) (slS sp)) .no,.int .i64 (slN sp),.int .i64 0]),h):=by
 refine nG rfl rfl (oF (ahS _ _ _) ?_)
 have hp:∀m h,mW m h [.int .i64 p.temps,.slice (Rw mV.cells p.arrays) .no,.slice (Rw mF.cells p.blocks) .no,.int .i64 p.inn,.int .i64 p.out]=some [.int .i64 p.temps,.slice (Rw mV.cells p.arrays) .no,.slice (Rw mF.cells p.blocks) .no,.int .i64 p.inn,.int .i64 p.out]:=fun m h=>by simp
 have hl0:=ZD hp (sp:=sp) (n:=n) hn hn2 n 0 (by omega)
 have hs:=c40 (p:=[.int .i64 p.temps,.slice (Rw mV.cells p.arrays) .no,.slice (Rw mF.cells p.blocks) .no,.int .i64 p.inn,.int .i64 p.out]) (sp:=sp) (O:=sE n n) (by omega)
 obtain⟨SF,nF,SU,nU,hl2⟩:=ZH hp hn hn2 hfe (rA sp).length 0 [] 0 [] 0 0 0 (by omega) (fun j _ hj=>(N2.1 (as2 hj)).2)
  ⟨⟨ai1 _,Nat.zero_le _,fun j _ hj=>by simp at hj,ai1 _,Nat.zero_le _,fun j _ hj=>by simp at hj⟩,PS.PI.empty 0,Nat.zero_le _⟩
 have hmk:∀H:Hk.lD,H.length=4→qM 1 8 [.int .i64 0] (.int .i64 (n:Int)) H=some (.mslice 4 0 n 1,H++[.cells ((sE n 0).map m_)]):=by
  intro H hH
  unfold qM
  simp only [as0]
  rw [if_pos ⟨by omega,by omega,by omega⟩,hH]
  have:(al7 n [lC.int .i64 0]).flatten=(sE n 0).map m_:=by
   simp [sE,m_]
  rw [this]
 subst hn
 have hle:(rI sp sp.length).length=(sH sp).length:=tQ.length_eq.symm
 rw [hle] at hl0 hs
 have hl0':mX (Be KK 6) ([.slice [] (.own 1),.int .i64 0,.int .i64 0,.ptr 2 0,.mslice 4 0 sp.length 1,.slice [] (.own 5),.slice (Rw Span.cells sp) .no,.int .i64 (sp.length:Int),.int .i64 0],[.cells [.int .i64 p.temps,.slice (Rw mV.cells p.arrays) .no,.slice (Rw mF.cells p.blocks) .no,.int .i64 p.inn,.int .i64 p.out],.front 0 0,.cells [.slice (Rw Span.cells sp) .no],.front 0 0,.cells ((sE sp.length 0).map m_),.front 0 0])=some (.exit 0,[.slice [] (.own 1),.int .i64 0,.int .i64 0,.ptr 2 0,.mslice 4 0 sp.length 1,Vs 5 1 (sH sp).length,.slice (Rw Span.cells sp) .no,.int .i64 (sp.length:Int),.int .i64 (sp.length:Int)],Jv [.int .i64 p.temps,.slice (Rw mV.cells p.arrays) .no,.slice (Rw mF.cells p.blocks) .no,.int .i64 p.inn,.int .i64 p.out] sp (sE sp.length sp.length) (rI sp sp.length)):=hl0
 have hl2':mX (Bf KK 10) ([.slice [] (.own 1),.int .i64 0,.int .i64 0,.ptr 2 0,.mslice 4 0 sp.length 1,.ptr 6 0,.ptr 8 0,.int .i64 0,Vs 5 1 (sH sp).length,.int .i64 ((sH sp).length:Int),.int .i64 0],
  [.cells [.int .i64 p.temps,.slice (Rw mV.cells p.arrays) .no,.slice (Rw mF.cells p.blocks) .no,.int .i64 p.inn,.int .i64 p.out],.front 0 0,.cells [.slice (Rw Span.cells sp) .no],.front 0 0,.cells ((sE sp.length sp.length).map m_),Vb (ci .i64) 1 (sH sp),.cells [.slice [] (.own 7),.func 44 [] []],.front 0 0,.cells [.slice [] (.own 9),.func 45 [] []],.front 0 0]) =
  some (.exit 2,[.slice [] (.own 1),.int .i64 0,.int .i64 0,.ptr 2 0,.mslice 4 0 sp.length 1,.ptr 6 0,.ptr 8 0,.int .i64 (slN sp),Vs 5 1 (sH sp).length,.int .i64 ((sH sp).length:Int),.int .i64 ((rA sp).length:Int)],HS [.int .i64 p.temps,.slice (Rw mV.cells p.arrays) .no,.slice (Rw mF.cells p.blocks) .no,.int .i64 p.inn,.int .i64 p.out] sp (slS sp) (sH sp) SF nF SU nU):=by
   rw [TW (f:=fS sp) (e:=eS sp)];exact hl2
 have hfin:=fun b0 b1 b2 b3 R=>abP (b0:=b0) (b1:=b1) (b2:=b2) (b3:=b3) (R:=R) (O:=slS sp) (n:=sp.length) N5
 have hs':KK 40 [lC.lL (Vs 5 1 (sH sp).length),lC.lL (.func 41 [] [.ptr 2 0])] (Jv [.int .i64 p.temps,.slice (Rw mV.cells p.arrays) .no,.slice (Rw mF.cells p.blocks) .no,.int .i64 p.inn,.int .i64 p.out] sp (sE sp.length sp.length) (rI sp sp.length))=some (.ret (.tuple []),[.cells [.int .i64 p.temps,.slice (Rw mV.cells p.arrays) .no,.slice (Rw mF.cells p.blocks) .no,.int .i64 p.inn,.int .i64 p.out],.front 0 0,.cells [.slice (Rw Span.cells sp) .no],.front 0 0,.cells ((sE sp.length sp.length).map m_),Vb (ci .i64) 1 (sH sp)]):=hs
 clear hl0 hs hl2
 generalize Jv [.int .i64 p.temps,.slice (Rw mV.cells p.arrays) .no,.slice (Rw mF.cells p.blocks) .no,.int .i64 p.inn,.int .i64 p.out] sp (sE sp.length sp.length) (rI sp sp.length)=H0 at *
 simp [m21,h45,hmk,hl0',-List.map_set,hs',Ni,hl2',HS,XE]
 simp only [lC.pV,aq7,List.map_nil,hfin]
 rfl
end
noncomputable section
open Go Hk
@[simp] theorem akF {m:Nat}{h:Hk.lD}{u v w:lC}:lC.pV m h (.tuple [u,v,w])=.tuple [(match u with | .agg cs=>.agg (cs.map (·.nO m h)) | v=>v.nO m h),(match v with | .agg cs=>.agg (cs.map (·.nO m h)) | v=>v.nO m h),(match w with | .agg cs=>.agg (cs.map (·.nO m h)) | v=>v.nO m h)]:=(rfl)
@[simp] theorem abZ {u v w:lC}:lC.lL (.tuple [u,v,w])=.tuple [(match u with | .agg cs=>.agg (cs.map lC.oX) | v=>v.oX),(match v with | .agg cs=>.agg (cs.map lC.oX) | v=>v.oX),(match w with | .agg cs=>.agg (cs.map lC.oX) | v=>v.oX)]:=(rfl)
@[simp] theorem akG {m:Nat}{h:Hk.lD}{u v w x:lC}:lC.pV m h (.tuple [u,v,w,x])=.tuple [(match u with | .agg cs=>.agg (cs.map (·.nO m h)) | v=>v.nO m h),(match v with | .agg cs=>.agg (cs.map (·.nO m h)) | v=>v.nO m h),(match w with | .agg cs=>.agg (cs.map (·.nO m h)) | v=>v.nO m h),(match x with | .agg cs=>.agg (cs.map (·.nO m h)) | v=>v.nO m h)]:=(rfl)
@[simp] theorem ab0 {u v w x:lC}:lC.lL (.tuple [u,v,w,x])=.tuple [(match u with | .agg cs=>.agg (cs.map lC.oX) | v=>v.oX),(match v with | .agg cs=>.agg (cs.map lC.oX) | v=>v.oX),(match w with | .agg cs=>.agg (cs.map lC.oX) | v=>v.oX),(match x with | .agg cs=>.agg (cs.map lC.oX) | v=>v.oX)]:=(rfl)
theorem T9 (m:List Bool):(zU m).first≤(zU m).last∧(zU m).last<m.length∧-1≤(zU m).first∧((zU m).first<0→(zU m).last=-1):=by
 induction m using PS.As with
 | h0=>exact⟨by decide,by decide,by decide,fun _=>rfl⟩
 | h1 l b ih =>
  obtain⟨h1,h2,h3,h4⟩:=ih
  rw [xK]
  have hl:((l++[b]).length:Int)=(l.length:Int)+1:=by simp
  rw [hl]
  cases b with
  | false=>simp only [Bool.false_eq_true,if_false];exact⟨h1,by omega,h3,h4⟩
  | true =>
   simp only [if_true]
   unfold Dr
   by_cases hf:(zU l).first<0
   ·rw [if_pos hf];exact⟨Int.le_refl _,by show(l.length:Int)<_;omega,by show(-1:Int)≤(l.length:Int);omega,fun h=>by have:(l.length:Int)<0:=h;omega⟩
   ·rw [if_neg hf]
    refine⟨?_,?_,?_,?_⟩ <;> simp only <;> omega
theorem T_ {p:IR}:∀s∈v7 p,0≤s.first→s.first≤s.last:=by
 intro s hs _
 unfold v7 LS at hs
 obtain⟨t,_,rfl⟩:=ar2.1 hs
 exact(T9 _).1
theorem auE {p:IR}(h0:oR p=0) (ht:p.temps≤1000000) (h:Hk.lD):KK 21 [.agg [.int .i64 p.temps,.slice (Rw mV.cells p.arrays) .no,.slice (Rw mF.cells p.blocks) .no,.int .i64 p.inn,.int .i64 p.out]] h =
  some (.ret (.tuple [.slice (Rw (ci .i64) (slS (v7 p))) .no,.int .i64 (slN (v7 p)),.int .i64 0]),h) :=
 c21 (p:=p) (sp:=v7 p) (n:=p.temps.toNat) Aa (by omega) T_ (fun h=>by have:=c39 p h;rw [if_pos h0,h0] at this;exact this) h
theorem aqX (a:Int):∃b,MI .i64 a 4=some b:=⟨_,by unfold MI;rw [if_neg (by omega)]⟩
theorem XA {w:Bool}{a s:Int}{l:List Int}{u:mV}{n:Int}(hl:l.length≤2000000):∃r,E_ w a l s u n=some r∧r.2.arrays.length=l.length+1:=by
 have e:∀x:Int,p7 8 l [x]=some (l++[x]):=fun x=>oL (by omega) (by omega) (by simp)
 cases w
 ·unfold E_ Ms
  cases decide (u.kind=2)
  ·obtain⟨b,hb⟩:=aqX (IntKind.i64.wrap ((IntKind.i64.wrap (IntKind.i64.wrap (u.elem*u.len)+4))-1))
   exact⟨(_,⟨a,l++[n],s⟩),by simp only [pS,e,mR,hb];rfl,by simp⟩
  ·exact⟨(_,⟨a,l++[IntKind.i64.wrap (a+u.off)],s⟩),by simp only [pS,oM,e,mR];rfl,by simp⟩
 ·exact⟨(_,⟨a,l++[u.off],s⟩),by simp only [E_,oM,e,mR];rfl,by simp⟩
theorem XB {q:IR}(hl:q.arrays.length≤2000000):∀(d i:Nat) (x:Int) (f:u5),q.arrays.length=i+d→f.arrays.length=i→∃r,tY (C4 q (q.arrays.length:Int)) (x,(i:Int),f)=some (.x 0,r):=by
 intro d
 induction d with
 | zero =>
  intro i x f hi hf
  refine⟨_,p5 (s':=(x,(i:Int),f)) ?_ (by simp)⟩
  have:¬(i:Int)<(q.arrays.length:Int):=by omega
  simp [C4,this]
 | succ d ih =>
  intro i x f hi hf
  have hil:i<q.arrays.length:=by omega
  obtain⟨r,hr,hr2⟩:=XA (w:=decide (q.arrays[i].kind=1)) (a:=f.image) (s:=f.size) (l:=f.arrays) (u:=q.arrays[i]) (n:=x) (by omega)
  have e1:oV q.arrays (i:Int)=some q.arrays[i]:=by rw [o_,ac6 hil]
  have hii:(i:Int)<(q.arrays.length:Int):=by omega
  obtain⟨z,hz⟩:=ih (i+1) r.1 r.2 (by omega) (by omega)
  refine⟨z,?_⟩
  rw [←hz]
  refine q_ ?_
  simp only [C4,hii,decide_true,oM,e1,mR,hr,rZ (show i≤4000000 by omega)]
theorem aqS (q:IR):∃f e,t23 q=some (f,e):=by
 unfold t23
 simp only [t9,Yi,mR]
 by_cases h0:oR q=0
 ·have hlim:o9 q=true:=by
   cases hh:o9 q with
   | false=>exact absurd h0 (by simp [oR,hh])
   | true=>rfl
  have hl:q.arrays.length≤2000000:=by
   have:=(Bb.1 hlim).a1
   omega
  obtain⟨r,hr⟩:=XB hl q.arrays.length 0 (IntKind.wrap .i64 ((IntKind.wrap .i64 (4+(IntKind.wrap .i64 (4*q.temps))))+q.out)) ⟨(IntKind.wrap .i64 (4+(IntKind.wrap .i64 (4*q.temps)))),[],0⟩ (by omega) rfl
  have e0:((0:Nat):Int)=0:=rfl
  rw [e0] at hr
  simp only [h0,decide_true,Bool.not_true,pS,hr,mR,xD,xF,beq_self_eq_true,cond_true]
  by_cases hb:(65536:Int)<r.1
  ·exact⟨_,_,by simp only [hb,decide_true,oM];rfl⟩
  ·exact⟨_,_,by simp only [hb,decide_false,pS];rfl⟩
 ·exact⟨_,_,by simp only [h0,decide_false,Bool.not_false,oM];rfl⟩
def oZ (p:IR):IR:=(YF p (slS (v7 p))).1
theorem c10 {p:IR}(h0:oR p=0) (ht:p.temps≤1000000) {f:u5}{e:Int}(hf:t23 (oZ p)=some (f,e)) (h:Hk.lD):KK 10 [.agg [.int .i64 p.temps,.slice (Rw mV.cells p.arrays) .no,.slice (Rw mF.cells p.blocks) .no,.int .i64 p.inn,.int .i64 p.out]] h =
  some (.ret (.tuple [.agg [.int .i64 (oZ p).temps,.slice (Rw mV.cells (oZ p).arrays) .no,.slice (Rw mF.cells (oZ p).blocks) .no,.int .i64 (oZ p).inn,.int .i64 (oZ p).out],.agg [.int .i64 f.image,.slice (Rw (ci .i64) f.arrays) .no,.int .i64 f.size],.int .i64 e]),h):=by
 refine nG rfl rfl (oF (agS _ _ _) ?_)
 have k21:=auE h0 ht
 have k22:=fun h=>aqD p (slS (v7 p)) h
 simp only [akZ,pN] at k22
 have k23:=fun h=>Sp (oZ p) h
 simp only [hf,pN] at k23
 unfold oZ at *
 simp [m10,k21,k22,k23,mS]
def W8 (n:Int):Wrt 54 n [] (fun k=>[CM k]) (fun o s=>t127 ⟨⟨n⟩⟩ o s) (fun k t=>t124 ⟨⟨n⟩⟩ k t) where
 ff:=126
 fe:=125
 fo:=127
 fd:=124
 hf:=by kernel_rfl
 he:=by kernel_rfl
 ho:=by kernel_rfl
 hd:=by kernel_rfl
 kf:=fun h=>aaN ⟨⟨n⟩⟩ h
 ke:=fun k h=>CV ⟨⟨n⟩⟩ k h
 ko:=fun o s h=>apK ⟨⟨n⟩⟩ o s h
 kd:=fun k t h=>apJ ⟨⟨n⟩⟩ k t h
def pA (p:IR):lC:=.agg [.int .i64 p.temps,.slice (Rw mV.cells p.arrays) .no,.slice (Rw mF.cells p.blocks) .no,.int .i64 p.inn,.int .i64 p.out]
theorem Ve {p:IR}(h0:oR p≠0) {m:Int}(hm:0≤m∧m≤2) (h:Hk.lD):KK 7 [pA p,.int .i64 m] h=some (.ret (.tuple [.slice [] .no,.agg [.int .i64 0,.int .i64 0,.int .i64 0],.int .i64 0,.int .i64 (oR p)]),h):=by
 refine nG rfl rfl (oF (Sb _ _ _ _) ?_)
 have k9:=fun h=>r9 p h
 simp only [t9,Yi,pN] at k9
 have m1:¬m<0:=by omega
 have m2:¬2<m:=by omega
 simp [m7,pA,k9,h0,m1,m2,mS]
theorem Vf {p:IR}(h0:oR p=0) (ht:p.temps≤1000000) {f:u5}{e:Int}(hf:t23 (oZ p)=some (f,e)) (he:e≠0) {m:Int}(hm:0≤m∧m≤2) (h:Hk.lD):KK 7 [pA p,.int .i64 m] h=some (.ret (.tuple [.slice [] .no,.agg [.int .i64 0,.int .i64 0,.int .i64 0],.int .i64 0,.int .i64 e]),h):=by
 refine nG rfl rfl (oF (Sb _ _ _ _) ?_)
 have k9:=fun h=>r9 p h
 simp only [t9,Yi,pN] at k9
 have k10:=c10 h0 ht hf
 have m1:¬m<0:=by omega
 have m2:¬2<m:=by omega
 simp [m7,pA,k9,k10,h0,he,m1,m2,mS]
end
noncomputable section
open Go Hk
def plT (q:IR) (f:u5):Option (List mT):=wT q f [] (fun k=>[CM k]) (fun o s=>t127 ⟨⟨(q.blocks.length:Int)⟩⟩ o s) (fun k t=>t124 ⟨⟨(q.blocks.length:Int)⟩⟩ k t) false (q.blocks.length:Int)
theorem Kk {t:Nat}{n:Int}:lC.lL (.iface t (.agg [.int .i64 n]))=.iface t (.agg [.int .i64 n]):=rfl
theorem auJ {p:IR}(h0:oR p=0) (ht:p.temps≤1000000) {f:u5}(hf:t23 (oZ p)=some (f,0)) {W:List mT}(hW:plT (oZ p) f=some W) (h:Hk.lD) :
  KK 7 [pA p,.int .i64 0] h=some (.ret (.tuple [.slice (Rw mT.cells W) .no,.agg [.int .i64 (oZ p).inn,.int .i64 (oZ p).out,.int .i64 f.size],.int .i64 (inc (oZ p).blocks.length),.int .i64 0]),h):=by
 refine nG rfl rfl (oF (Sb _ _ _ _) ?_)
 have k9:=fun h=>r9 p h
 simp only [t9,Yi,pN] at k9
 have k10:=c10 h0 ht hf
 have k11:=fun hp=>c11 (W8 ((oZ p).blocks.length:Int)) (oZ p) f false ((oZ p).blocks.length:Int) hp
 unfold plT at hW
 simp only [hW,pN] at k11
 have k13:=fun h=>TY (oZ p) f h
 simp only [t13,pN] at k13
 have k14:=fun h=>ai7 ((oZ p).blocks.length:Int) h
 simp only [t14,pN] at k14
 simp [m7,pA,k9,k10,k11,k13,k14,h0,mS,DQ,Kk,inc]
theorem auK {p:IR}(h0:oR p=0) (ht:p.temps≤1000000) {f:u5}(hf:t23 (oZ p)=some (f,0)) {W:List mT}(hW:plT (oZ p) f=some W) {D:List mT}(hD:t12 W=some D) (h:Hk.lD) :
  KK 7 [pA p,.int .i64 1] h=some (.ret (.tuple [.slice (Rw mT.cells D) .no,.agg [.int .i64 (oZ p).inn,.int .i64 (oZ p).out,.int .i64 f.size],.int .i64 (inc (oZ p).blocks.length),.int .i64 0]),h):=by
 refine nG rfl rfl (oF (Sb _ _ _ _) ?_)
 have k9:=fun h=>r9 p h
 simp only [t9,Yi,pN] at k9
 have k10:=c10 h0 ht hf
 have k11:=fun hp=>c11 (W8 ((oZ p).blocks.length:Int)) (oZ p) f false ((oZ p).blocks.length:Int) hp
 unfold plT at hW
 simp only [hW,pN] at k11
 have k12:=fun h=>r12 W h
 simp only [hD,pN] at k12
 have k13:=fun h=>TY (oZ p) f h
 simp only [t13,pN] at k13
 have k14:=fun h=>ai7 ((oZ p).blocks.length:Int) h
 simp only [t14,pN] at k14
 simp [m7,pA,k9,k10,k11,k12,k13,k14,h0,mS,DQ,Kk,inc]
end
section
open Go Hk
theorem Kh {α:Type}{l:List α}{i:Int}(h0:0≤i) (h1:i<(l.length:Int)):∃x,oV l i=some x:=by
 unfold oV
 rw [if_pos h0]
 exact⟨_,ac6 (by omega)⟩
theorem XC (l:List mV) (f:u5) (o:Op):∃s,t24 l f o=some s:=by
 have e2:∀w,(w=false→0≤o.imm∧o.imm<(l.length:Int))→∃s,Fb w f o l=some s:=by
  intro w hw
  cases w
  ·unfold Fb Io
   by_cases h:(f.arrays.length:Int)≤o.imm
   ·exact⟨_,by simp only [h,decide_true,oM,pS];rfl⟩
   ·obtain⟨x,hx⟩:=Kh (hw rfl).1 (hw rfl).2
    obtain⟨y,hy⟩:=Kh (l:=f.arrays) (hw rfl).1 (by omega)
    exact⟨_,by simp only [h,decide_false,pS,hx,hy,mR];rfl⟩
  ·exact⟨_,rfl⟩
 have e1:∀w,(w=false→0≤o.imm)→∃s,Fa w f o l=some s:=by
  intro w hw
  unfold Fa
  cases w
  ·rw [pS];exact e2 _ fun h=>⟨hw rfl,by simpa using h⟩
  ·rw [oM];exact e2 _ fun h=>by cases h
 unfold t24 t53 Iu
 by_cases h1:o.kind=18 <;> by_cases h2:o.kind=19 <;> simp only [h1,h2,decide_true,decide_false,oM,pS,mR,Bool.not_true,Bool.not_false] <;>
  exact e1 _ fun h=>by simp at h <;> omega
section
variable {P:Int→Prop}{n:Int}{q:IR}{f:u5}
theorem aw1 {b:mF}:∀(d j:Nat) (A:List mT),b.ops.length=j+d→A.length+19*d≤3000000→b.ops.length≤3000000 →
  ∃X,tY (w0 q f b fun o s=>t127 ⟨⟨n⟩⟩ o s) (A,(j:Int))=some (.x 2,(A++X,(b.ops.length:Int)))∧Good P (19*d) [] X:=by
 intro d
 induction d with
 | zero =>
  intro j A hj _ _
  obtain rfl:j=b.ops.length:=by omega
  refine⟨[],p5 (s':=(A++[],(b.ops.length:Int))) ?_ (by simp),Good.nil⟩
  simp [w0]
 | succ d ih =>
  intro j A hj hA hl
  have hjl:j<b.ops.length:=by omega
  obtain⟨s,hs⟩:=XC q.arrays f b.ops[j]
  obtain⟨L,hL,fL⟩:=akO ⟨⟨n⟩⟩ b.ops[j] s
  have g:=Good.ins (P:=P) fL
  obtain⟨X,h1,h2⟩:=ih (j+1) (A++qY L) (by omega) (by rw [List.length_append];have:=g.len;omega) hl
  refine⟨qY L++X,?_,(g.app h2).mono (by omega)⟩
  rw [←List.append_assoc,←h1]
  refine q_ ?_
  have e1:oV b.ops (j:Int)=some b.ops[j]:=by rw [o_,ac6 hjl]
  have hjj:(j:Int)<(b.ops.length:Int):=by omega
  have e2:p7 80 A (qY L)=some (A++qY L):=oL (by omega) (by omega) (by have:=g.len;omega)
  simp only [w0,hjj,decide_true,oM,e1,mR,hs,hL,e2,rZ (show j≤4000000 by omega)]
def JB (b:mF):Nat:=19*b.ops.length+21
def xZ (l:List mF):Nat:=(l.map JB).sum
theorem aw4 (hP:∀b∈q.blocks,aeG P n b.term) (hn:q.blocks.length≤1000000):∀(d i:Nat) (A:List mT),q.blocks.length=i+d→A.length+xZ (q.blocks.drop i)≤2000000 →
  ∃X,tY (w1 q f (fun k=>[CM k]) (fun o s=>t127 ⟨⟨n⟩⟩ o s) fun k t=>t124 ⟨⟨n⟩⟩ k t) (A,(i:Int))=some (.x 0,(A++X,(q.blocks.length:Int))) ∧
   Good P (xZ (q.blocks.drop i)) ((List.range' i d).map fun k=>((k:Nat):Int)) X:=by
 intro d
 induction d with
 | zero =>
  intro i A hi hA
  obtain rfl:i=q.blocks.length:=by omega
  refine⟨[],p5 (s':=(A++[],(q.blocks.length:Int))) ?_ (by simp),Good.nil.mono (Nat.zero_le _)⟩
  simp [w1]
 | succ d ih =>
  intro i A hi hA
  have hil:i<q.blocks.length:=by omega
  have hdr:q.blocks.drop i=q.blocks[i]::q.blocks.drop (i+1):=ao4 hil
  have hc:xZ (q.blocks.drop i)=JB q.blocks[i]+xZ (q.blocks.drop (i+1)):=by rw [hdr];rfl
  have hcb:JB q.blocks[i]=19*q.blocks[i].ops.length+21:=rfl
  obtain⟨Y,y1,y2⟩:=aw1 (P:=P) (n:=n) (q:=q) (f:=f) (b:=q.blocks[i]) q.blocks[i].ops.length 0 (A++[CM i]) (by omega) (by simp;omega) (by omega)
  obtain⟨G,g1,g2⟩:=akN ⟨⟨n⟩⟩ (i:Int) q.blocks[i].term
  have ge:=VB (hP _ (as2 hil)) g2
  have gx:Good P (JB q.blocks[i]) [(i:Int)] ([CM i]++(Y++KU n q.blocks[i].term G)):=by
   have:=(Good.lab (P:=P) (n:=(i:Int))).app (y2.app ge)
   exact⟨Nat.le_trans this.len (by omega),this.ok,this.lb⟩
  obtain⟨X,x1,x2⟩:=ih (i+1) (A++([CM i]++(Y++KU n q.blocks[i].term G))) (by omega) (by rw [List.length_append];have:=gx.len;omega)
  refine⟨[CM i]++(Y++KU n q.blocks[i].term G)++X,?_,?_⟩
  ·rw [←List.append_assoc,←x1]
   refine q_ ?_
   have e0:((0:Nat):Int)=0:=rfl
   rw [e0] at y1
   have e1:oV q.blocks (i:Int)=some q.blocks[i]:=by rw [o_,ac6 hil]
   have hii:(i:Int)<(q.blocks.length:Int):=by omega
   have e2:p7 80 A [CM i]=some (A++[CM i]):=oL (by omega) (by omega) (by simp)
   have e3:p7 80 (A++[CM i]++Y) (KU n q.blocks[i].term G)=some (A++[CM i]++Y++KU n q.blocks[i].term G):=by
    refine oL (by omega) ?_ ?_
    ·have:=y2.len;simp;omega
    ·have:=ge.len;omega
   simp only [w1,hii,decide_true,oM,e1,mR,e2,y1,xD,xF,beq_self_eq_true,cond_true,g1,e3,rZ (show i≤4000000 by omega)]
   simp only [List.append_assoc]
  ·rw [hc,List.range'_succ,aq7]
   exact(gx.app x2)
theorem apI (hn:n=(q.blocks.length:Int)) (hl:q.blocks.length≤1000000) (hc:xZ q.blocks≤1000000) (hP:∀b∈q.blocks,aeG P n b.term)
  (hg:P (IntKind.wrap .i64 (IntKind.wrap .i64 (2*n)+2))∧P (inc (IntKind.wrap .i64 (IntKind.wrap .i64 (2*n)+2))))
  (hh:∀x∈qB (inc n) (IntKind.wrap .i64 (IntKind.wrap .i64 (IntKind.wrap .i64 (2*n)+2)+4)),P x) :
  ∃W,plT q f=some W∧Good P (xZ q.blocks+201) ((aq5 q.blocks.length).map (fun k=>((k:Nat):Int))++[n] ++
   [IntKind.wrap .i64 (IntKind.wrap .i64 (2*n)+2),inc (IntKind.wrap .i64 (IntKind.wrap .i64 (2*n)+2))]++qB (inc n) (IntKind.wrap .i64 (IntKind.wrap .i64 (IntKind.wrap .i64 (2*n)+2)+4))) W:=by
 obtain⟨X,x1,x2⟩:=aw4 (f:=f) hP hl q.blocks.length 0 [] (by omega) (by simp;omega)
 have e0:((0:Nat):Int)=0:=rfl
 rw [e0] at x1
 simp only [List.drop_zero,ar5] at x1 x2
 have g:=(x2.app (Good.lab (n:=n)))
 have g2:=g.app (Hv (image:=f.image) (out:=q.out) (h:=inc n) hg.1 hg.2)
 have g3:=g2.app (Hw (s:=⟨q.inn,q.out,f.size⟩) hh)
 refine⟨_,?_,⟨Nat.le_trans g3.len (by omega),g3.ok,?_⟩⟩
 ·subst hn
  unfold plT wT
  rw [x1]
  simp only [mR,xD,xF,beq_self_eq_true,cond_true,t14,t26,t28,t13]
  rw [oL (by omega) (by have:=x2.len;omega) (by simp),mR,oL (by omega) (by have:=g.len;omega) (by have:=(Hv (P:=P) (image:=f.image) (out:=q.out) (h:=inc (q.blocks.length:Int)) hg.1 hg.2).len;unfold inc at this;omega),mR,oL (by omega) (by have:=g2.len;unfold inc at this;omega) (by have:=(Hw (s:=⟨q.inn,q.out,f.size⟩) hh).len;unfold inc at this;omega)]
  rfl
 ·rw [g3.lb,List.range_eq_range']
end
end
noncomputable section
open Go Hk
def aaH (mm:Nat) (aB:R):Option (nB×lD) :=
 (fun aA aC=>Ex.nR aB.1 (nJ mm aA aC)) (gd aB.2.1 0) aB.2.2
def Wr (K:lN) (m:Nat) (aF:lC) (aD:lC) (aA:lC) (aE:lD) (aB:lC) (aC:lC):Option R :=
 lS aF (bo .add aD (.int .i64 1) fun aG=>fa 2 aA fun aH=>ld false 1 aE aH fun aI=>ix 5 aI aB fun aJ=>fa 0 aJ fun aK=>ld false 1 aE aK fun aL=>ln aL fun aM=>(Ck aM (.int .i64 500)).bind fun aN=>bo .add aG aN fun t53=>bo .add aB (.int .i64 1) fun aO=>lX m .normal [aA,aC,t53,aO] aE) (lX m (.exit 0) [aA,aC,aD,aB] aE)
def Iv (aD:Bool) (aB:Int) (p0:IR) (aA:Int):Option (Ey×Int×Int) :=
 tc aD (tb ((oV p0.blocks aA)) fun aC=>some (.n,((IntKind.wrap .i64 ((IntKind.wrap .i64 (aB+1))+(min ((aa8 aC.ops:Nat):Int) 500))),(IntKind.wrap .i64 (aA+1))))) (some ((.x 0),(aB,aA)))
set_option maxHeartbeats 4000000 in
theorem apV (w40:Bool) (w41:Int) (p0:IR) (w42:Int):(Wr KK 1 (.bool w40) (.int .i64 w41) (.ptr 0 0) ([.cells [(.int .i64 p0.temps),(.slice (Rw mV.cells p0.arrays) .no),(.slice (Rw mF.cells p0.blocks) .no),(.int .i64 p0.inn),(.int .i64 p0.out)]]:lD) (.int .i64 w42) (.bool false))=tm (Iv w40 w41 p0 w42) fun r=>(r.1.ex,[(.ptr 0 0),(.bool false),(.int .i64 r.2.1),(.int .i64 r.2.2)],([.cells [(.int .i64 p0.temps),(.slice (Rw mV.cells p0.arrays) .no),(.slice (Rw mF.cells p0.blocks) .no),(.int .i64 p0.inn),(.int .i64 p0.out)]]:lD)):=by
 cases w40 <;> simp +contextual -implicitDefEqProofs (maxSteps:=2000000) [-lM,-lF,-lE,-lG,-lK,-lI,-lH,Wr,Iv]
def R_ (K:lN) (m:Nat) (s:List lC×lD):Option R :=
 (fun aA aD aB aC aE=>fa 2 aA fun t28=>ld false 1 aE t28 fun t29=>ln t29 fun t30=>bo .lss aC t30 fun t31=>gS true t31 (lV aB aE) aE fun t32 aF=>gS true t31 (bo .leq t32 (.int .i64 150) fun aH=>lV aH aF) aF fun aI aG=>(mJ t31 aI (.bool false)).bind fun aJ=>Wr K m aJ aB aA aG aC aD) (gd s.1 0) (gd s.1 1) (gd s.1 2) (gd s.1 3) s.2
def FM (p0:IR) (aA:Int×Int):Option (Ey×Int×Int) :=
 tc (decide (aA.2<((aa8 p0.blocks:Nat):Int))) (Iv (decide (aA.1≤150)) aA.1 p0 aA.2) (Iv false aA.1 p0 aA.2)
set_option maxHeartbeats 4000000 in
theorem anV (p0:IR) (s22:Int×Int):R_ KK 1 ([(.ptr 0 0),(.bool false),(.int .i64 s22.1),(.int .i64 s22.2)],([.cells [(.int .i64 p0.temps),(.slice (Rw mV.cells p0.arrays) .no),(.slice (Rw mF.cells p0.blocks) .no),(.int .i64 p0.inn),(.int .i64 p0.out)]]:lD))=tm (FM p0 s22) fun r=>(r.1.ex,[(.ptr 0 0),(.bool false),(.int .i64 r.2.1),(.int .i64 r.2.2)],([.cells [(.int .i64 p0.temps),(.slice (Rw mV.cells p0.arrays) .no),(.slice (Rw mF.cells p0.blocks) .no),(.int .i64 p0.inn),(.int .i64 p0.out)]]:lD)):=by
 simp +contextual -implicitDefEqProofs (maxSteps:=2000000) [-lM,-lF,-lE,-lG,-lK,-lI,-lH,R_,FM,apV]
theorem ad2 (p0:IR) (i1:Int) (i2:Int):mX (R_ KK 1) ([(.ptr 0 0),(.bool false),(.int .i64 i1),(.int .i64 i2)],([.cells [(.int .i64 p0.temps),(.slice (Rw mV.cells p0.arrays) .no),(.slice (Rw mF.cells p0.blocks) .no),(.int .i64 p0.inn),(.int .i64 p0.out)]]:lD))=tm (tY (FM p0) (i1,i2)) fun r=>(r.1.ex,[(.ptr 0 0),(.bool false),(.int .i64 r.2.1),(.int .i64 r.2.2)],([.cells [(.int .i64 p0.temps),(.slice (Rw mV.cells p0.arrays) .no),(.slice (Rw mF.cells p0.blocks) .no),(.int .i64 p0.inn),(.int .i64 p0.out)]]:lD)):=by
 exact uP (enc:=fun s22=>([(.ptr 0 0),(.bool false),(.int .i64 s22.1),(.int .i64 s22.2)],([.cells [(.int .i64 p0.temps),(.slice (Rw mV.cells p0.arrays) .no),(.slice (Rw mF.cells p0.blocks) .no),(.int .i64 p0.inn),(.int .i64 p0.out)]]:lD))) (fun s22=>anV p0 s22) (i1,i2)
def Ws (K:lN) (t73:lC) (aA:lD):Option R :=
 some (.ret,[t73],aA)
def OD (aA:Bool):Option (Bool) :=
 some aA
set_option maxHeartbeats 4000000 in
theorem apW (w76:Bool) (p0:IR):((Ws KK (.bool w76) ([.cells [(.int .i64 p0.temps),(.slice (Rw mV.cells p0.arrays) .no),(.slice (Rw mF.cells p0.blocks) .no),(.int .i64 p0.inn),(.int .i64 p0.out)]]:lD))).bind (aaH 0)=tm (OD w76) fun r=>(.ret (.bool r),[]):=by
 cases w76 <;> simp +contextual -implicitDefEqProofs (maxSteps:=2000000) [-lM,-lF,-lE,-lG,-lK,-lI,-lH,Ws,OD,ad2,aaH]
def m5 (K:lN) (a0:lC) (h0:lD):Option (nB×lD) :=
 (lQ (nA 5 h0 a0) fun aN aH=>(mX (R_ K (aa8 aH)) ([aN,(.bool false),(.int .i64 0),(.int .i64 0)],aH)).bind fun aA=>(fun aB aC aD aJ aF=>Ex.mO aA.1 none (fun aK=>Ex.inBlock 0 aK (bo .leq aD (.int .i64 150) fun aE=>gS true aE (fa 0 aB fun aO=>lV aO aF) aF fun aP aG=>gS true aE (ld false 1 aG aP fun aQ=>lV aQ aG) aG fun aR aI=>gS true aE (bo .leq aR (.int .i64 60) fun t70=>lV t70 aI) aI fun aS aM=>(mJ aE aS (.bool false)).bind fun t73=>Ws K t73 aM) (fun aL=>some (aL,[aC],aF)))) (gd aA.2.1 0) (gd aA.2.1 1) (gd aA.2.1 2) (gd aA.2.1 3) aA.2.2).bind (aaH (aa8 h0))
theorem ao5 (K:lN) (a0:lC) (h0:lD):qG Tryz.prog mY mX K 5 [a0] h0=m5 (mH mY K) a0 h0:=by kernel_rfl
def t5 (p0:IR):Option (Bool) :=
 tb (tY (FM p0) (0,0)) fun aA=>xD aA.1 none fun aB=>xF 0 aB (tc (decide (aA.2.1≤150)) (OD (decide (p0.temps≤60))) (OD false)) fun aC=>JC aC (some false)
set_option maxHeartbeats 4000000 in
theorem b5 (p0:IR):m5 KK (.agg [(.int .i64 p0.temps),(.slice (Rw mV.cells p0.arrays) .no),(.slice (Rw mF.cells p0.blocks) .no),(.int .i64 p0.inn),(.int .i64 p0.out)]) []=tm (t5 p0) fun r=>(.ret (.bool r),[]):=by
 simp +contextual -implicitDefEqProofs (maxSteps:=2000000) [-lM,-lF,-lE,-lG,-lK,-lI,-lH,m5,t5,ad2,aaH,apW]
theorem r5 (p0:IR) (h:lD):KK 5 [(.agg [(.int .i64 p0.temps),(.slice (Rw mV.cells p0.arrays) .no),(.slice (Rw mF.cells p0.blocks) .no),(.int .i64 p0.inn),(.int .i64 p0.out)])] h=tm (t5 p0) fun r=>(.ret (.bool r),h):=nZ rfl rfl (ao5 ..) (b5 p0)
end
section
open Go Hk
def Hc (x:mT):List mT:=if x.kind=1 then [x] else [x,x]
def rS (l:List mT):List mT:=l.flatMap Hc
theorem Hd:∀l:List mT,(rS l).length≤2*l.length
 | []=>ai1 _
 | x::r=>by
  have:=Hd r
  unfold rS at this ⊢
  rw [List.flatMap_cons,List.length_append]
  have h:(Hc x).length≤2:=by unfold Hc;split <;> simp
  simp only [aq8];omega
theorem aqR {l:List mT}(hl:l.length≤1000000):t12 l=some (rS l):=by
 have key:∀(d i:Nat),l.length=i+d→tY (Bx l (l.length:Int)) (rS (l.take i),(i:Int))=some (.x 0,(rS l,(l.length:Int))):=by
  intro d
  induction d with
  | zero =>
   intro i hi
   obtain rfl:i=l.length:=by omega
   rw [List.take_length]
   refine p5 ?_ (by simp)
   simp [Bx]
  | succ d ih =>
   intro i hi
   rw [←ih (i+1) (by omega)]
   refine q_ ?_
   have hil:i<l.length:=by omega
   have e1:oV l (i:Int)=some l[i]:=by rw [o_,ac6 hil]
   have hii:(i:Int)<(l.length:Int):=by omega
   have hd:=Hd (l.take i)
   have ht:(l.take i).length=i:=by rw [ao3];omega
   have e2:p7 80 (rS (l.take i)) [l[i]]=some (rS (l.take i)++[l[i]]):=oL (by omega) (by omega) (by simp)
   have e3:p7 80 (rS (l.take i)++[l[i]]) [l[i]]=some (rS (l.take i)++[l[i]]++[l[i]]):=oL (by omega) (by rw [List.length_append];simp only [aq8,List.length_nil];omega) (by simp)
   have e4:rS (l.take (i+1))=rS (l.take i)++Hc l[i]:=by
    rw [List.take_succ_eq_append_getElem hil]
    unfold rS
    rw [List.flatMap_append];simp
   rw [e4]
   unfold Hc
   by_cases hk:l[i].kind=1
   ·simp [Bx,hii,e1,e2,Im,hk,rZ (show i≤4000000 by omega)]
   ·simp only [Bx,hii,decide_true,oM,e1,mR,e2,Im,hk,decide_false,Bool.not_false,e3,rZ (show i≤4000000 by omega),if_false]
    simp
 have:=key l.length 0 (by omega)
 have e0:((0:Nat):Int)=0:=rfl
 have e1:rS (l.take 0)=[]:=rfl
 rw [e0,e1] at this
 simp [t12,this,xD,xF]
def Ez (l:List mF):Nat:=(l.map fun b=>1+min b.ops.length 500).sum
theorem Vj:∀l:List mF,l.length≤Ez l
 | []=>ai1 _
 | b::r=>by
  have e:Ez (b::r)=(1+min b.ops.length 500)+Ez r:=by simp [Ez]
  have:=Vj r
  rw [e];simp only [aq8];omega
theorem abV {p:IR}:∀(d i:Nat),p.blocks.length=i+d→Ez (p.blocks.take i)≤1000→∃k,k≤p.blocks.length∧tY (FM p) ((Ez (p.blocks.take i):Int),(i:Int))=some (.x 0,((Ez (p.blocks.take k):Int),(k:Int))) ∧
  (k=p.blocks.length∨150<Ez (p.blocks.take k)):=by
 intro d
 induction d with
 | zero =>
  intro i hi _
  have hn:¬(i:Int)<(p.blocks.length:Int):=by omega
  exact⟨i,by omega,p5 (by simp [FM,Iv,hn]) (by simp),.inl (by omega)⟩
 | succ d ih =>
  intro i hi hc
  have hil:i<p.blocks.length:=by omega
  have hii:(i:Int)<(p.blocks.length:Int):=by omega
  have hci:=Vj (p.blocks.take i)
  rw [ao3] at hci
  by_cases h150:Ez (p.blocks.take i)≤150
  ·have e1:oV p.blocks (i:Int)=some p.blocks[i]:=by rw [o_,ac6 hil]
   have e2:Ez (p.blocks.take (i+1))=Ez (p.blocks.take i)+(1+min p.blocks[i].ops.length 500):=by
    unfold Ez
    rw [List.take_succ_eq_append_getElem hil,List.map_append,List.sum_append]
    simp only [aq7,List.map_nil,List.sum_cons,List.sum_nil,Nat.add_zero]
   obtain⟨k,k1,k2,k3⟩:=ih (i+1) (by omega) (by omega)
   refine⟨k,k1,?_,k3⟩
   rw [←k2]
   refine q_ ?_
   have hh:(Ez (p.blocks.take i):Int)≤150:=by omega
   have w1:IntKind.i64.wrap ((Ez (p.blocks.take i):Int)+1)=(Ez (p.blocks.take i):Int)+1:=by rw [wrap64 (by omega) (by omega)]
   have hm:(min (p.blocks[i].ops.length:Int) 500)=((min p.blocks[i].ops.length 500:Nat):Int):=by omega
   have w2:IntKind.i64.wrap ((Ez (p.blocks.take i):Int)+1+((min p.blocks[i].ops.length 500:Nat):Int))=((Ez (p.blocks.take (i+1)):Nat):Int):=by rw [wrap64 (by omega) (by omega)];omega
   simp only [FM,Iv,hii,decide_true,oM,hh,e1,mR,w1,hm,w2,rZ (show i≤4000000 by omega)]
  ·have hh:¬(Ez (p.blocks.take i):Int)≤150:=by omega
   exact⟨i,by omega,p5 (by simp only [FM,Iv,hii,decide_true,oM,hh,decide_false,pS]) (by simp),.inr (by omega)⟩
theorem Vu:∀l:List mF,Ez l≤150→l.length≤Ez l∧xZ l≤30*Ez l
 | [],_=>⟨ai1 _,ai1 _⟩
 | b::r,h=>by
  have e:Ez (b::r)=(1+min b.ops.length 500)+Ez r:=by simp [Ez]
  have e2:xZ (b::r)=(19*b.ops.length+21)+xZ r:=by simp [xZ,JB]
  obtain⟨h1,h2⟩:=Vu r (by omega)
  rw [e,e2]
  simp only [aq8]
  omega
theorem awA (p:IR):∃b,t5 p=some b∧(b=true→p.blocks.length≤150∧xZ p.blocks≤4500∧p.temps≤60):=by
 obtain⟨k,k1,k2,k3⟩:=abV (p:=p) p.blocks.length 0 (by omega) (by simp [Ez])
 have e0:((0:Nat):Int)=0:=rfl
 have e1:((Ez (p.blocks.take 0):Nat):Int)=0:=rfl
 rw [e0,e1] at k2
 unfold t5
 rw [k2]
 simp only [mR,xD,xF,beq_self_eq_true,cond_true,OD]
 by_cases h1:(Ez (p.blocks.take k):Int)≤150
 ·refine⟨decide (p.temps≤60),by simp only [h1,decide_true,oM],fun h=>?_⟩
  have hk:k=p.blocks.length:=by omega
  rw [hk,List.take_length] at h1
  have:=Vu p.blocks (by omega)
  exact⟨by omega,by omega,by simpa using h⟩
 ·exact⟨false,by simp only [h1,decide_false,pS],fun h=>by cases h⟩
theorem NN (p:IR):(oZ p).blocks=[]∨∃l,(oZ p).blocks=p.blocks.map (F2 l):=by
 unfold oZ YF
 split
 ·exact .inl rfl
 split
 ·exact .inl rfl
 split
 ·exact .inl rfl
 ·exact .inr ⟨_,rfl⟩
theorem WJ {l:List Int}{b:mF}:(F2 l b).ops.length=b.ops.length:=by simp [F2]
theorem Ph (p:IR):xZ (oZ p).blocks≤xZ p.blocks∧(oZ p).blocks.length≤p.blocks.length:=by
 rcases NN p with h | ⟨l,h⟩
 ·rw [h];exact⟨Nat.zero_le _,Nat.zero_le _⟩
 ·rw [h]
  refine⟨Nat.le_of_eq ?_,by simp⟩
  unfold xZ
  rw [List.map_map]
  congr 1
  refine List.map_congr_left fun b _=>?_
  simp [JB,WJ]
end
section
open Go Hk
@[simp] theorem axK {a0 a1 a2 a3 a4 a5 a6 a7 a8 b0 b1 b2 b3 b4 b5 b6 b7 b8:Int}{a9 b9:Bool}:pK [.i,.i,.i,.i,.i,.i,.i,.i,.i,.b] (.agg [.int .i64 a0,.int .i64 a1,.int .i64 a2,.int .i64 a3,.int .i64 a4,.int .i64 a5,.int .i64 a6,.int .i64 a7,.int .i64 a8,.bool a9]) (.agg [.int .i64 b0,.int .i64 b1,.int .i64 b2,.int .i64 b3,.int .i64 b4,.int .i64 b5,.int .i64 b6,.int .i64 b7,.int .i64 b8,.bool b9])=some ((a0 == b0)&&((a1 == b1)&&((a2 == b2)&&((a3 == b3)&&((a4 == b4)&&((a5 == b5)&&((a6 == b6)&&((a7 == b7)&&((a8 == b8)&&((a9 == b9)&&true)))))))))):=(rfl)
@[simp] theorem azT {a0 a1 a2 b0 b1 b2:Int}:pK [.i,.i,.i] (.agg [.int .i64 a0,.int .i64 a1,.int .i64 a2]) (.agg [.int .i64 b0,.int .i64 b1,.int .i64 b2])=some ((a0 == b0)&&((a1 == b1)&&((a2 == b2)&&true))):=(rfl)
end
section
open Go Hk
set_option maxRecDepth 100000 in
theorem av4:MQ Tryz.prog mY (qC 200) 16 6 [] []=some (.ret (.bool true),[]):=by kernel_rfl
theorem c6 (h:lD):KK 6 [] h=some (.ret (.bool true),h):=nG rfl rfl (Dq 200 16 6 _ _ _ av4)
abbrev t6:Option Bool:=some true
theorem r6 (h:lD):KK 6 [] h=tm t6 fun r=>(.ret (.bool r),h):=c6 h
end
noncomputable section
open Go Hk
def Bg (mm:Nat) (aA:R):Option (nB×lD) :=
 (fun aB aC=>Ex.nR aA.1 (nJ mm aB aC)) (gd aA.2.1 0) aA.2.2
def Wi (K:lN) (m:Nat) (t130:lC) (aC:lC) (aD:lC) (aE:lC) (aF:lC) (aG:lC) (aH:lC) (aI:lC) (aA:lC) (aB:lC) (aJ:lD):Option R :=
 lS t130 (lX m .normal [aC,aD,aE,aF,aG,aH,aI,aA,aB,(.int .i64 1)] aJ) (lX m .normal [aC,aD,aE,aF,aG,aH,aI,aA,aB,(.int .i64 2)] aJ)
def Oy (aA:Bool):Option (Int) :=
 tc aA (some 1) (some 2)
set_option maxHeartbeats 4000000 in
theorem Xe (w131:Bool) (w62:(List mT)) (w63:Int) (w65:(List mT)) (w66:Int) (w122:Int) (w123:Int) (p0:IR) (w69:Int) (w70:Int) (w71:Int) (w72:Int) (w73:Int) (w74:Int):(Wi KK 3 (.bool w131) (.bool false) (.slice (Rw mT.cells w62) .no) (.ptr 1 0) (.int .i64 w63) (.slice (Rw mT.cells w65) .no) (.ptr 2 0) (.int .i64 w66) (.int .i64 w122) (.int .i64 w123) ([.cells [(.int .i64 p0.temps),(.slice (Rw mV.cells p0.arrays) .no),(.slice (Rw mF.cells p0.blocks) .no),(.int .i64 p0.inn),(.int .i64 p0.out)],.cells [(.int .i64 w69),(.int .i64 w70),(.int .i64 w71)],.cells [(.int .i64 w72),(.int .i64 w73),(.int .i64 w74)]]:lD))=tm (Oy w131) fun r=>(.normal,[(.bool false),(.slice (Rw mT.cells w62) .no),(.ptr 1 0),(.int .i64 w63),(.slice (Rw mT.cells w65) .no),(.ptr 2 0),(.int .i64 w66),(.int .i64 w122),(.int .i64 w123),(.int .i64 r)],([.cells [(.int .i64 p0.temps),(.slice (Rw mV.cells p0.arrays) .no),(.slice (Rw mF.cells p0.blocks) .no),(.int .i64 p0.inn),(.int .i64 p0.out)],.cells [(.int .i64 w69),(.int .i64 w70),(.int .i64 w71)],.cells [(.int .i64 w72),(.int .i64 w73),(.int .i64 w74)]]:lD)):=by
 cases w131 <;> simp +contextual -implicitDefEqProofs (maxSteps:=2000000) [-lM,-lF,-lE,-lG,-lK,-lI,-lH,Wi,Oy]
def Wo (K:lN) (m:Nat) (aM:lC) (aE:lC) (aF:lC) (aG:lC) (aH:lC) (aI:lC) (aJ:lC) (aA:lC) (aB:lC) (aC:lC) (aD:lC) (aL:lD) (aK:lC):Option R :=
 lS aM (lX m .ret [(.bool false),aE,aF,aG,aH,aI,aJ,aA,aB,aC,aD] aL) (bo .add aA (.int .i64 1) fun aN=>bo .add aD (.int .i64 1) fun aO=>lX m .normal [aK,aE,aF,aG,aH,aI,aJ,aN,aB,aC,aO] aL)
def OC (aC:Bool) (aA:Int) (aB:Int):Option (Ey×Int×Int) :=
 tc aC (some (.r,(aA,aB))) (some (.n,((IntKind.wrap .i64 (aA+1)),(IntKind.wrap .i64 (aB+1)))))
set_option maxHeartbeats 4000000 in
theorem apT (w188:Bool) (w62:(List mT)) (w63:Int) (w65:(List mT)) (w66:Int) (w189:Int) (w123:Int) (sI:Int) (w190:Int) (p0:IR) (w69:Int) (w70:Int) (w71:Int) (w72:Int) (w73:Int) (w74:Int):(Wo KK 3 (.bool w188) (.slice (Rw mT.cells w62) .no) (.ptr 1 0) (.int .i64 w63) (.slice (Rw mT.cells w65) .no) (.ptr 2 0) (.int .i64 w66) (.int .i64 w189) (.int .i64 w123) (.int .i64 sI) (.int .i64 w190) ([.cells [(.int .i64 p0.temps),(.slice (Rw mV.cells p0.arrays) .no),(.slice (Rw mF.cells p0.blocks) .no),(.int .i64 p0.inn),(.int .i64 p0.out)],.cells [(.int .i64 w69),(.int .i64 w70),(.int .i64 w71)],.cells [(.int .i64 w72),(.int .i64 w73),(.int .i64 w74)]]:lD) (.bool false))=tm (OC w188 w189 w190) fun r=>(r.1.ex,[(.bool false),(.slice (Rw mT.cells w62) .no),(.ptr 1 0),(.int .i64 w63),(.slice (Rw mT.cells w65) .no),(.ptr 2 0),(.int .i64 w66),(.int .i64 r.2.1),(.int .i64 w123),(.int .i64 sI),(.int .i64 r.2.2)],([.cells [(.int .i64 p0.temps),(.slice (Rw mV.cells p0.arrays) .no),(.slice (Rw mF.cells p0.blocks) .no),(.int .i64 p0.inn),(.int .i64 p0.out)],.cells [(.int .i64 w69),(.int .i64 w70),(.int .i64 w71)],.cells [(.int .i64 w72),(.int .i64 w73),(.int .i64 w74)]]:lD)):=by
 cases w188 <;> simp +contextual -implicitDefEqProofs (maxSteps:=2000000) [-lM,-lF,-lE,-lG,-lK,-lI,-lH,Wo,OC]
def R8 (K:lN) (m:Nat) (s:List lC×lD):Option R :=
 (fun aH aG aI aJ aF aK aL aA aC aD aE aM=>bo .lss aE aD fun aW=>lS aW (ln aF fun aX=>bo .geq aA aX fun aB=>gS false aB (lV aF aM) aM fun aY aP=>gS false aB (lV aA aP) aP fun aZ aQ=>gS false aB (ix 10 aY aZ fun a_=>lV a_ aQ) aQ fun bB aN=>gS false aB (ld true 10 aN bB fun bC=>lV bC aN) aN fun bD aR=>gS false aB (lV aG aR) aR fun bE aS=>gS false aB (lV aC aS) aS fun bF aT=>gS false aB (ix 10 bE bF fun bG=>lV bG aT) aT fun bH aO=>gS false aB (ld true 10 aO bH fun bI=>lV bI aO) aO fun bJ aU=>gS false aB ((pK [.i,.i,.i,.i,.i,.i,.i,.i,.i,.b] bD bJ).bind fun bK=>lV (.bool (!bK)) aU) aU fun bL aV=>(mJ aB (.bool true) bL).bind fun bM=>Wo K m bM aG aI aJ aF aK aL aA aC aD aE aV aH) (lX m (.exit 2) [aH,aG,aI,aJ,aF,aK,aL,aA,aC,aD,aE] aM)) (gd s.1 0) (gd s.1 1) (gd s.1 2) (gd s.1 3) (gd s.1 4) (gd s.1 5) (gd s.1 6) (gd s.1 7) (gd s.1 8) (gd s.1 9) (gd s.1 10) s.2
def Cv (aF:(List mT)) (aE:(List mT)) (aD:Int) (sI:Int) (aC:Int×Int):Option (Ey×Int×Int) :=
 tc (decide (aC.2<sI)) (tc (decide (((aa8 aE:Nat):Int)≤aC.1)) (OC true aC.1 aC.2) (tb ((oV aE aC.1)) fun aA=>tb ((oV aF aD)) fun aB=>OC (!((aA.kind == aB.kind)&&((aA.label == aB.label)&&((aA.ins.op == aB.ins.op)&&((aA.ins.rd == aB.ins.rd)&&((aA.ins.rn == aB.ins.rn)&&((aA.ins.rm == aB.ins.rm)&&((aA.ins.ra == aB.ins.ra)&&((aA.ins.imm == aB.ins.imm)&&((aA.ins.cond == aB.ins.cond)&&((aA.ins.wide == aB.ins.wide)&&true))))))))))) aC.1 aC.2)) (some ((.x 2),(aC.1,aC.2)))
set_option maxHeartbeats 4000000 in
theorem anU (w62:(List mT)) (w63:Int) (w65:(List mT)) (w66:Int) (w123:Int) (sI:Int) (p0:IR) (w69:Int) (w70:Int) (w71:Int) (w72:Int) (w73:Int) (w74:Int) (s144:Int×Int):R8 KK 3 ([(.bool false),(.slice (Rw mT.cells w62) .no),(.ptr 1 0),(.int .i64 w63),(.slice (Rw mT.cells w65) .no),(.ptr 2 0),(.int .i64 w66),(.int .i64 s144.1),(.int .i64 w123),(.int .i64 sI),(.int .i64 s144.2)],([.cells [(.int .i64 p0.temps),(.slice (Rw mV.cells p0.arrays) .no),(.slice (Rw mF.cells p0.blocks) .no),(.int .i64 p0.inn),(.int .i64 p0.out)],.cells [(.int .i64 w69),(.int .i64 w70),(.int .i64 w71)],.cells [(.int .i64 w72),(.int .i64 w73),(.int .i64 w74)]]:lD))=tm (Cv w62 w65 w123 sI s144) fun r=>(r.1.ex,[(.bool false),(.slice (Rw mT.cells w62) .no),(.ptr 1 0),(.int .i64 w63),(.slice (Rw mT.cells w65) .no),(.ptr 2 0),(.int .i64 w66),(.int .i64 r.2.1),(.int .i64 w123),(.int .i64 sI),(.int .i64 r.2.2)],([.cells [(.int .i64 p0.temps),(.slice (Rw mV.cells p0.arrays) .no),(.slice (Rw mF.cells p0.blocks) .no),(.int .i64 p0.inn),(.int .i64 p0.out)],.cells [(.int .i64 w69),(.int .i64 w70),(.int .i64 w71)],.cells [(.int .i64 w72),(.int .i64 w73),(.int .i64 w74)]]:lD)):=by
 simp +contextual -implicitDefEqProofs (maxSteps:=2000000) [-lM,-lF,-lE,-lG,-lK,-lI,-lH,R8,Cv,apT]
theorem Xf (w62:(List mT)) (w63:Int) (w65:(List mT)) (w66:Int) (w123:Int) (sI:Int) (p0:IR) (w69:Int) (w70:Int) (w71:Int) (w72:Int) (w73:Int) (w74:Int) (i5:Int) (i8:Int):mX (R8 KK 3) ([(.bool false),(.slice (Rw mT.cells w62) .no),(.ptr 1 0),(.int .i64 w63),(.slice (Rw mT.cells w65) .no),(.ptr 2 0),(.int .i64 w66),(.int .i64 i5),(.int .i64 w123),(.int .i64 sI),(.int .i64 i8)],([.cells [(.int .i64 p0.temps),(.slice (Rw mV.cells p0.arrays) .no),(.slice (Rw mF.cells p0.blocks) .no),(.int .i64 p0.inn),(.int .i64 p0.out)],.cells [(.int .i64 w69),(.int .i64 w70),(.int .i64 w71)],.cells [(.int .i64 w72),(.int .i64 w73),(.int .i64 w74)]]:lD))=tm (tY (Cv w62 w65 w123 sI) (i5,i8)) fun r=>(r.1.ex,[(.bool false),(.slice (Rw mT.cells w62) .no),(.ptr 1 0),(.int .i64 w63),(.slice (Rw mT.cells w65) .no),(.ptr 2 0),(.int .i64 w66),(.int .i64 r.2.1),(.int .i64 w123),(.int .i64 sI),(.int .i64 r.2.2)],([.cells [(.int .i64 p0.temps),(.slice (Rw mV.cells p0.arrays) .no),(.slice (Rw mF.cells p0.blocks) .no),(.int .i64 p0.inn),(.int .i64 p0.out)],.cells [(.int .i64 w69),(.int .i64 w70),(.int .i64 w71)],.cells [(.int .i64 w72),(.int .i64 w73),(.int .i64 w74)]]:lD)):=by
 exact uP (enc:=fun s144=>([(.bool false),(.slice (Rw mT.cells w62) .no),(.ptr 1 0),(.int .i64 w63),(.slice (Rw mT.cells w65) .no),(.ptr 2 0),(.int .i64 w66),(.int .i64 s144.1),(.int .i64 w123),(.int .i64 sI),(.int .i64 s144.2)],([.cells [(.int .i64 p0.temps),(.slice (Rw mV.cells p0.arrays) .no),(.slice (Rw mF.cells p0.blocks) .no),(.int .i64 p0.inn),(.int .i64 p0.out)],.cells [(.int .i64 w69),(.int .i64 w70),(.int .i64 w71)],.cells [(.int .i64 w72),(.int .i64 w73),(.int .i64 w74)]]:lD))) (fun s144=>anU w62 w63 w65 w66 w123 sI p0 w69 w70 w71 w72 w73 w74 s144) (i5,i8)
def Wq (K:lN) (m:Nat) (aK:lC) (aC:lC) (aD:lC) (aE:lC) (aF:lC) (aG:lC) (aH:lC) (aA:lC) (aB:lC) (aJ:lD) (aI:lC):Option R :=
 lS aK (lX m .ret [(.bool false),aC,aD,aE,aF,aG,aH,aA,aB] aJ) (lX m .normal [aI,aC,aD,aE,aF,aG,aH,aA,aB] aJ)
def It (aB:Bool) (aA:Int):Option (Ey×Int) :=
 tc aB (some (.r,aA)) (some (.n,aA))
set_option maxHeartbeats 4000000 in
theorem ad1 (w266:Bool) (w62:(List mT)) (w63:Int) (w65:(List mT)) (w66:Int) (w239:Int) (w123:Int) (p0:IR) (w69:Int) (w70:Int) (w71:Int) (w72:Int) (w73:Int) (w74:Int):(Wq KK 3 (.bool w266) (.slice (Rw mT.cells w62) .no) (.ptr 1 0) (.int .i64 w63) (.slice (Rw mT.cells w65) .no) (.ptr 2 0) (.int .i64 w66) (.int .i64 w239) (.int .i64 w123) ([.cells [(.int .i64 p0.temps),(.slice (Rw mV.cells p0.arrays) .no),(.slice (Rw mF.cells p0.blocks) .no),(.int .i64 p0.inn),(.int .i64 p0.out)],.cells [(.int .i64 w69),(.int .i64 w70),(.int .i64 w71)],.cells [(.int .i64 w72),(.int .i64 w73),(.int .i64 w74)]]:lD) (.bool false))=tm (It w266 w239) fun r=>(r.1.ex,[(.bool false),(.slice (Rw mT.cells w62) .no),(.ptr 1 0),(.int .i64 w63),(.slice (Rw mT.cells w65) .no),(.ptr 2 0),(.int .i64 w66),(.int .i64 r.2),(.int .i64 w123)],([.cells [(.int .i64 p0.temps),(.slice (Rw mV.cells p0.arrays) .no),(.slice (Rw mF.cells p0.blocks) .no),(.int .i64 p0.inn),(.int .i64 p0.out)],.cells [(.int .i64 w69),(.int .i64 w70),(.int .i64 w71)],.cells [(.int .i64 w72),(.int .i64 w73),(.int .i64 w74)]]:lD)):=by
 cases w266 <;> simp +contextual -implicitDefEqProofs (maxSteps:=2000000) [-lM,-lF,-lE,-lG,-lK,-lI,-lH,Wq,It,Xe,Xf,r8]
def Wp (K:lN) (m:Nat) (aA:lC) (aC:lC) (aL:lD) (aB:lC) (aG:lC) (aH:lC) (aI:lC) (aJ:lC) (aK:lC) (aD:lC) (aF:lC):Option R :=
 gS true aA (lV aC aL) aL fun aT aM=>gS true aA (lV aB aM) aM fun aU aN=>gS true aA (ix 10 aT aU fun aV=>lV aV aN) aN fun aW aO=>gS true aA (fa 2 aW fun aX=>lV aX aO) aO fun aY aE=>gS true aA (ld true 8 aE aY fun aZ=>lV aZ aE) aE fun a_ aP=>gS true aA (cg (K 8 [(lC.lL a_)] aP) fun bB aR=>lV bB aR) aP fun bC aQ=>gS true aA ((xX .not bC).bind fun bD=>lV bD aQ) aQ fun bE aS=>(mJ aA bE (.bool false)).bind fun bF=>Wq K m bF aC aG aH aI aJ aK aD aB aS aF
def D_ (aE:Bool) (aF:(List mT)) (aD:Int) (aA:Int):Option (Ey×Int) :=
 tc aE (tb ((oV aF aD)) fun aC=>tb ((t8 aC.ins)) fun aB=>It (!aB) aA) (It false aA)
set_option maxHeartbeats 4000000 in
theorem apU (w238:Bool) (w62:(List mT)) (p0:IR) (w69:Int) (w70:Int) (w71:Int) (w72:Int) (w73:Int) (w74:Int) (w123:Int) (w63:Int) (w65:(List mT)) (w66:Int) (w239:Int):(Wp KK 3 (.bool w238) (.slice (Rw mT.cells w62) .no) ([.cells [(.int .i64 p0.temps),(.slice (Rw mV.cells p0.arrays) .no),(.slice (Rw mF.cells p0.blocks) .no),(.int .i64 p0.inn),(.int .i64 p0.out)],.cells [(.int .i64 w69),(.int .i64 w70),(.int .i64 w71)],.cells [(.int .i64 w72),(.int .i64 w73),(.int .i64 w74)]]:lD) (.int .i64 w123) (.ptr 1 0) (.int .i64 w63) (.slice (Rw mT.cells w65) .no) (.ptr 2 0) (.int .i64 w66) (.int .i64 w239) (.bool false))=tm (D_ w238 w62 w123 w239) fun r=>(r.1.ex,[(.bool false),(.slice (Rw mT.cells w62) .no),(.ptr 1 0),(.int .i64 w63),(.slice (Rw mT.cells w65) .no),(.ptr 2 0),(.int .i64 w66),(.int .i64 r.2),(.int .i64 w123)],([.cells [(.int .i64 p0.temps),(.slice (Rw mV.cells p0.arrays) .no),(.slice (Rw mF.cells p0.blocks) .no),(.int .i64 p0.inn),(.int .i64 p0.out)],.cells [(.int .i64 w69),(.int .i64 w70),(.int .i64 w71)],.cells [(.int .i64 w72),(.int .i64 w73),(.int .i64 w74)]]:lD)):=by
 cases w238 <;> simp +contextual -implicitDefEqProofs (maxSteps:=2000000) [-lM,-lF,-lE,-lG,-lK,-lI,-lH,Wp,D_,Xe,Xf,r8,ad1]
def Wh (K:lN) (m:Nat) (aH:lC) (aF:lC) (aS:lD) (aU:lC) (aX:lC) (aZ:lC) (bB:lC) (bD:lC) (bF:lC) (aO:lC):Option R :=
 ix 10 aH aF fun t126=>fa 0 t126 fun t128=>ld false 1 aS t128 fun t129=>bo .eql t129 (.int .i64 1) fun t130=>(Wi K (aa8 aS) t130 aU aH aX aZ bB bD bF aO aF aS).bind fun sI=>(fun aV aW aY a_ bC bE bG aP aQ aR bH=>Ex.qZ sI.1 ((mX (R8 K (aa8 bH)) ([aV,aW,aY,a_,bC,bE,bG,aP,aQ,aR,(.int .i64 0)],bH)).bind fun aA=>(fun aG aC aI aJ aK aL aM aE aB bN bO aN=>Ex.mO aA.1 none (fun bP=>Ex.inBlock 2 bP (ix 10 aC aB fun bS=>fa 0 bS fun bT=>ld false 1 aN bT fun bU=>bo .eql bU (.int .i64 0) fun aD=>gS true aD (lV aC aN) aN fun bV bI=>gS true aD (lV aB bI) bI fun bW bJ=>gS true aD (ix 10 bV bW fun bX=>lV bX bJ) bJ fun bY bK=>gS true aD (fa 2 bY fun bZ=>lV bZ bK) bK fun b_ bL=>gS true aD (fa 0 b_ fun cA=>lV cA bL) bL fun cB aT=>gS true aD (ld false 1 aT cB fun cC=>lV cC aT) aT fun cD bM=>gS true aD (bo .neq cD (.int .i64 2) fun cE=>lV cE bM) bM fun cF bR=>(mJ aD cF (.bool false)).bind fun cG=>Wp K m cG aC bR aB aI aJ aK aL aM aE aG) (fun bQ=>lX m bQ [aG,aC,aI,aJ,aK,aL,aM,aE,aB] aN))) (gd aA.2.1 0) (gd aA.2.1 1) (gd aA.2.1 2) (gd aA.2.1 3) (gd aA.2.1 4) (gd aA.2.1 5) (gd aA.2.1 6) (gd aA.2.1 7) (gd aA.2.1 8) (gd aA.2.1 9) (gd aA.2.1 10) aA.2.2)) (gd sI.2.1 0) (gd sI.2.1 1) (gd sI.2.1 2) (gd sI.2.1 3) (gd sI.2.1 4) (gd sI.2.1 5) (gd sI.2.1 6) (gd sI.2.1 7) (gd sI.2.1 8) (gd sI.2.1 9) sI.2.2
def Kb (aC:(List mT)) (aA:Int) (aJ:(List mT)) (aI:Int):Option (Ey×Int) :=
 tb ((oV aC aA)) fun aF=>tb (Oy (decide (aF.kind=1))) fun sI=>tb (tY (Cv aC aJ aA sI) (aI,0)) fun aB=>xD aB.1 none fun aD=>xF 2 aD (tb ((oV aC aA)) fun aG=>tc (decide (aG.kind=0)) (tb ((oV aC aA)) fun aH=>D_ (!decide (aH.ins.op=2)) aC aA aB.2.1) (D_ false aC aA aB.2.1)) fun aE=>some (aE,aB.2.1)
set_option maxHeartbeats 4000000 in
theorem apR (w62:(List mT)) (w123:Int) (p0:IR) (w69:Int) (w70:Int) (w71:Int) (w72:Int) (w73:Int) (w74:Int) (w63:Int) (w65:(List mT)) (w66:Int) (w122:Int):(Wh KK 3 (.slice (Rw mT.cells w62) .no) (.int .i64 w123) ([.cells [(.int .i64 p0.temps),(.slice (Rw mV.cells p0.arrays) .no),(.slice (Rw mF.cells p0.blocks) .no),(.int .i64 p0.inn),(.int .i64 p0.out)],.cells [(.int .i64 w69),(.int .i64 w70),(.int .i64 w71)],.cells [(.int .i64 w72),(.int .i64 w73),(.int .i64 w74)]]:lD) (.bool false) (.ptr 1 0) (.int .i64 w63) (.slice (Rw mT.cells w65) .no) (.ptr 2 0) (.int .i64 w66) (.int .i64 w122))=tm (Kb w62 w123 w65 w122) fun r=>(r.1.ex,[(.bool false),(.slice (Rw mT.cells w62) .no),(.ptr 1 0),(.int .i64 w63),(.slice (Rw mT.cells w65) .no),(.ptr 2 0),(.int .i64 w66),(.int .i64 r.2),(.int .i64 w123)],([.cells [(.int .i64 p0.temps),(.slice (Rw mV.cells p0.arrays) .no),(.slice (Rw mF.cells p0.blocks) .no),(.int .i64 p0.inn),(.int .i64 p0.out)],.cells [(.int .i64 w69),(.int .i64 w70),(.int .i64 w71)],.cells [(.int .i64 w72),(.int .i64 w73),(.int .i64 w74)]]:lD)):=by
 simp +contextual -implicitDefEqProofs (maxSteps:=2000000) [-lM,-lF,-lE,-lG,-lK,-lI,-lH,Wh,Kb,Xe,Xf,r8,ad1,apU]
def LW (K:lN) (m:Nat) (s:List lC×lD):Option R :=
 (fun aG aC aJ aL aN aP aR aD aB aT=>ln aC fun aW=>bo .lss aB aW fun aX=>lS aX ((Wh K (aa8 aT) aC aB aT aG aJ aL aN aP aR aD).bind fun aA=>(fun aH aI aK aM aO aQ aS aE aF aU=>Ex.inBlock 1 aA.1 (bo .add aF (.int .i64 1) fun aY=>lX m .normal [aH,aI,aK,aM,aO,aQ,aS,aE,aY] aU) (fun aV=>lX m aV [aH,aI,aK,aM,aO,aQ,aS,aE,aF] aU)) (gd aA.2.1 0) (gd aA.2.1 1) (gd aA.2.1 2) (gd aA.2.1 3) (gd aA.2.1 4) (gd aA.2.1 5) (gd aA.2.1 6) (gd aA.2.1 7) (gd aA.2.1 8) aA.2.2) (lX m (.exit 0) [aG,aC,aJ,aL,aN,aP,aR,aD,aB] aT)) (gd s.1 0) (gd s.1 1) (gd s.1 2) (gd s.1 3) (gd s.1 4) (gd s.1 5) (gd s.1 6) (gd s.1 7) (gd s.1 8) s.2
def C6 (aD:(List mT)) (aE:(List mT)) (aA:Int×Int):Option (Ey×Int×Int) :=
 tc (decide (aA.2<((aa8 aD:Nat):Int))) (tb (Kb aD aA.2 aE aA.1) fun aB=>xF 1 aB.1 (some (.n,(aB.2,(IntKind.wrap .i64 (aA.2+1))))) fun aC=>some (aC,(aB.2,aA.2))) (some ((.x 0),(aA.1,aA.2)))
set_option maxHeartbeats 4000000 in
theorem ae7 (w62:(List mT)) (w63:Int) (w65:(List mT)) (w66:Int) (p0:IR) (w69:Int) (w70:Int) (w71:Int) (w72:Int) (w73:Int) (w74:Int) (s109:Int×Int):LW KK 3 ([(.bool false),(.slice (Rw mT.cells w62) .no),(.ptr 1 0),(.int .i64 w63),(.slice (Rw mT.cells w65) .no),(.ptr 2 0),(.int .i64 w66),(.int .i64 s109.1),(.int .i64 s109.2)],([.cells [(.int .i64 p0.temps),(.slice (Rw mV.cells p0.arrays) .no),(.slice (Rw mF.cells p0.blocks) .no),(.int .i64 p0.inn),(.int .i64 p0.out)],.cells [(.int .i64 w69),(.int .i64 w70),(.int .i64 w71)],.cells [(.int .i64 w72),(.int .i64 w73),(.int .i64 w74)]]:lD))=tm (C6 w62 w65 s109) fun r=>(r.1.ex,[(.bool false),(.slice (Rw mT.cells w62) .no),(.ptr 1 0),(.int .i64 w63),(.slice (Rw mT.cells w65) .no),(.ptr 2 0),(.int .i64 w66),(.int .i64 r.2.1),(.int .i64 r.2.2)],([.cells [(.int .i64 p0.temps),(.slice (Rw mV.cells p0.arrays) .no),(.slice (Rw mF.cells p0.blocks) .no),(.int .i64 p0.inn),(.int .i64 p0.out)],.cells [(.int .i64 w69),(.int .i64 w70),(.int .i64 w71)],.cells [(.int .i64 w72),(.int .i64 w73),(.int .i64 w74)]]:lD)):=by
 simp +contextual -implicitDefEqProofs (maxSteps:=2000000) [-lM,-lF,-lE,-lG,-lK,-lI,-lH,LW,C6,apR]
theorem Bq (w62:(List mT)) (w63:Int) (w65:(List mT)) (w66:Int) (p0:IR) (w69:Int) (w70:Int) (w71:Int) (w72:Int) (w73:Int) (w74:Int) (i5:Int) (i6:Int):mX (LW KK 3) ([(.bool false),(.slice (Rw mT.cells w62) .no),(.ptr 1 0),(.int .i64 w63),(.slice (Rw mT.cells w65) .no),(.ptr 2 0),(.int .i64 w66),(.int .i64 i5),(.int .i64 i6)],([.cells [(.int .i64 p0.temps),(.slice (Rw mV.cells p0.arrays) .no),(.slice (Rw mF.cells p0.blocks) .no),(.int .i64 p0.inn),(.int .i64 p0.out)],.cells [(.int .i64 w69),(.int .i64 w70),(.int .i64 w71)],.cells [(.int .i64 w72),(.int .i64 w73),(.int .i64 w74)]]:lD))=tm (tY (C6 w62 w65) (i5,i6)) fun r=>(r.1.ex,[(.bool false),(.slice (Rw mT.cells w62) .no),(.ptr 1 0),(.int .i64 w63),(.slice (Rw mT.cells w65) .no),(.ptr 2 0),(.int .i64 w66),(.int .i64 r.2.1),(.int .i64 r.2.2)],([.cells [(.int .i64 p0.temps),(.slice (Rw mV.cells p0.arrays) .no),(.slice (Rw mF.cells p0.blocks) .no),(.int .i64 p0.inn),(.int .i64 p0.out)],.cells [(.int .i64 w69),(.int .i64 w70),(.int .i64 w71)],.cells [(.int .i64 w72),(.int .i64 w73),(.int .i64 w74)]]:lD)):=by
 exact uP (enc:=fun s109=>([(.bool false),(.slice (Rw mT.cells w62) .no),(.ptr 1 0),(.int .i64 w63),(.slice (Rw mT.cells w65) .no),(.ptr 2 0),(.int .i64 w66),(.int .i64 s109.1),(.int .i64 s109.2)],([.cells [(.int .i64 p0.temps),(.slice (Rw mV.cells p0.arrays) .no),(.slice (Rw mF.cells p0.blocks) .no),(.int .i64 p0.inn),(.int .i64 p0.out)],.cells [(.int .i64 w69),(.int .i64 w70),(.int .i64 w71)],.cells [(.int .i64 w72),(.int .i64 w73),(.int .i64 w74)]]:lD))) (fun s109=>ae7 w62 w63 w65 w66 p0 w69 w70 w71 w72 w73 w74 s109) (i5,i6)
def Wn (K:lN) (aB:lC) (aA:lD):Option R :=
 some (.ret,[aB],aA)
def OB (aA:Bool):Option (Bool) :=
 some aA
set_option maxHeartbeats 4000000 in
theorem Ic (w108:Bool) (p0:IR) (w69:Int) (w70:Int) (w71:Int) (w72:Int) (w73:Int) (w74:Int):((Wn KK (.bool w108) ([.cells [(.int .i64 p0.temps),(.slice (Rw mV.cells p0.arrays) .no),(.slice (Rw mF.cells p0.blocks) .no),(.int .i64 p0.inn),(.int .i64 p0.out)],.cells [(.int .i64 w69),(.int .i64 w70),(.int .i64 w71)],.cells [(.int .i64 w72),(.int .i64 w73),(.int .i64 w74)]]:lD))).bind (Bg 0)=tm (OB w108) fun r=>(.ret (.bool r),[]):=by
 cases w108 <;> simp +contextual -implicitDefEqProofs (maxSteps:=2000000) [-lM,-lF,-lE,-lG,-lK,-lI,-lH,Wn,OB,r5,r6,Bq,Bg]
def Wm (K:lN) (aG:lC) (aF:lD):Option R :=
 gS true aG (cg (K 6 [] aF) fun aC aA=>lV aC aA) aF fun aD aB=>(mJ aG aD (.bool false)).bind fun aE=>Wn K aE aB
def OA (aB:Bool):Option (Bool) :=
 tc aB (tb ((t6 )) fun aA=>OB aA) (OB false)
set_option maxHeartbeats 4000000 in
theorem JV (w99:Bool) (p0:IR) (w69:Int) (w70:Int) (w71:Int) (w72:Int) (w73:Int) (w74:Int):((Wm KK (.bool w99) ([.cells [(.int .i64 p0.temps),(.slice (Rw mV.cells p0.arrays) .no),(.slice (Rw mF.cells p0.blocks) .no),(.int .i64 p0.inn),(.int .i64 p0.out)],.cells [(.int .i64 w69),(.int .i64 w70),(.int .i64 w71)],.cells [(.int .i64 w72),(.int .i64 w73),(.int .i64 w74)]]:lD))).bind (Bg 0)=tm (OA w99) fun r=>(.ret (.bool r),[]):=by
 cases w99 <;> simp +contextual -implicitDefEqProofs (maxSteps:=2000000) [-lM,-lF,-lE,-lG,-lK,-lI,-lH,Wm,OA,r5,r6,Bq,Bg,Ic]
def Wl (K:lN) (aA:lC) (aF:lC) (aB:lD):Option R :=
 gS true aA (lV aF aB) aB fun aG aC=>gS true aA (ln aG fun aH=>lV aH aC) aC fun aI aD=>gS true aA (bo .eql aI (.int .i64 0) fun aJ=>lV aJ aD) aD fun aK aE=>(mJ aA aK (.bool false)).bind fun aL=>Wm K aL aE
def Oz (aB:Bool) (aA:(List mT)):Option (Bool) :=
 tc aB (OA (decide (((aa8 aA:Nat):Int)=0))) (OA false)
set_option maxHeartbeats 4000000 in
theorem Oc (w87:Bool) (w65:(List mT)) (p0:IR) (w69:Int) (w70:Int) (w71:Int) (w72:Int) (w73:Int) (w74:Int):((Wl KK (.bool w87) (.slice (Rw mT.cells w65) .no) ([.cells [(.int .i64 p0.temps),(.slice (Rw mV.cells p0.arrays) .no),(.slice (Rw mF.cells p0.blocks) .no),(.int .i64 p0.inn),(.int .i64 p0.out)],.cells [(.int .i64 w69),(.int .i64 w70),(.int .i64 w71)],.cells [(.int .i64 w72),(.int .i64 w73),(.int .i64 w74)]]:lD))).bind (Bg 0)=tm (Oz w87 w65) fun r=>(.ret (.bool r),[]):=by
 cases w87 <;> simp +contextual -implicitDefEqProofs (maxSteps:=2000000) [-lM,-lF,-lE,-lG,-lK,-lI,-lH,Wl,Oz,r5,r6,Bq,Bg,Ic,JV]
def Qm (K:lN) (aB:lC) (aA:lD):Option R :=
 some (.ret,[aB],aA)
def Is (aA:Bool):Option (Bool) :=
 some aA
set_option maxHeartbeats 4000000 in
theorem Mk (w330:Bool) (p0:IR) (w69:Int) (w70:Int) (w71:Int) (w72:Int) (w73:Int) (w74:Int):((Qm KK (.bool w330) ([.cells [(.int .i64 p0.temps),(.slice (Rw mV.cells p0.arrays) .no),(.slice (Rw mF.cells p0.blocks) .no),(.int .i64 p0.inn),(.int .i64 p0.out)],.cells [(.int .i64 w69),(.int .i64 w70),(.int .i64 w71)],.cells [(.int .i64 w72),(.int .i64 w73),(.int .i64 w74)]]:lD))).bind (Bg 0)=tm (Is w330) fun r=>(.ret (.bool r),[]):=by
 cases w330 <;> simp +contextual -implicitDefEqProofs (maxSteps:=2000000) [-lM,-lF,-lE,-lG,-lK,-lI,-lH,Qm,Is,r5,r6,Bq,Bg,Ic,JV,Oc]
def Ql (K:lN) (aB:lC) (aA:lD):Option R :=
 gS true aB (cg (K 6 [] aA) fun aE aC=>lV aE aC) aA fun aF aD=>(mJ aB aF (.bool false)).bind fun aG=>Qm K aG aD
def Ir (aB:Bool):Option (Bool) :=
 tc aB (tb ((t6 )) fun aA=>Is aA) (Is false)
set_option maxHeartbeats 4000000 in
theorem QR (w321:Bool) (p0:IR) (w69:Int) (w70:Int) (w71:Int) (w72:Int) (w73:Int) (w74:Int):((Ql KK (.bool w321) ([.cells [(.int .i64 p0.temps),(.slice (Rw mV.cells p0.arrays) .no),(.slice (Rw mF.cells p0.blocks) .no),(.int .i64 p0.inn),(.int .i64 p0.out)],.cells [(.int .i64 w69),(.int .i64 w70),(.int .i64 w71)],.cells [(.int .i64 w72),(.int .i64 w73),(.int .i64 w74)]]:lD))).bind (Bg 0)=tm (Ir w321) fun r=>(.ret (.bool r),[]):=by
 cases w321 <;> simp +contextual -implicitDefEqProofs (maxSteps:=2000000) [-lM,-lF,-lE,-lG,-lK,-lI,-lH,Ql,Ir,r5,r6,Bq,Bg,Ic,JV,Oc,Mk]
def Qk (K:lN) (aA:lC) (aB:lC) (aD:lD) (aC:lC):Option R :=
 gS true aA (lV aB aD) aD fun aH aE=>gS true aA (lV aC aE) aE fun aI aF=>gS true aA (bo .eql aH aI fun aJ=>lV aJ aF) aF fun aK aG=>(mJ aA aK (.bool false)).bind fun aL=>Ql K aL aG
def Iq (aA:Bool) (aB:Int) (aC:Int):Option (Bool) :=
 tc aA (Ir (decide (aB=aC))) (Ir false)
set_option maxHeartbeats 4000000 in
theorem Xg (w307:Bool) (w63:Int) (p0:IR) (w69:Int) (w70:Int) (w71:Int) (w72:Int) (w73:Int) (w74:Int) (w66:Int):((Qk KK (.bool w307) (.int .i64 w63) ([.cells [(.int .i64 p0.temps),(.slice (Rw mV.cells p0.arrays) .no),(.slice (Rw mF.cells p0.blocks) .no),(.int .i64 p0.inn),(.int .i64 p0.out)],.cells [(.int .i64 w69),(.int .i64 w70),(.int .i64 w71)],.cells [(.int .i64 w72),(.int .i64 w73),(.int .i64 w74)]]:lD) (.int .i64 w66))).bind (Bg 0)=tm (Iq w307 w63 w66) fun r=>(.ret (.bool r),[]):=by
 cases w307 <;> simp +contextual -implicitDefEqProofs (maxSteps:=2000000) [-lM,-lF,-lE,-lG,-lK,-lI,-lH,Qk,Iq,r5,r6,Bq,Bg,Ic,JV,Oc,Mk,QR]
def Wj (K:lN) (bL:lC) (bG:lC) (bJ:lC) (bD:lC) (aM:lD) (bE:lC) (bH:lC) (t36:lC) (bK:lC) (bI:lC):Option R :=
 lS bL (bo .eql bG bJ fun aN=>gS true aN (lV bD aM) aM fun bM bB=>gS true aN (ln bM fun bN=>lV bN bB) bB fun bO bC=>gS true aN (bo .eql bO (.int .i64 0) fun bP=>lV bP bC) bC fun bQ bF=>(mJ aN bQ (.bool false)).bind fun bR=>Wl K bR bE bF) ((mX (LW K (aa8 aM)) ([(.bool false),bD,bH,t36,bE,bK,bI,(.int .i64 0),(.int .i64 0)],aM)).bind fun aA=>(fun aF a_ aG aH aI aJ aK aD aO aB=>Ex.mO aA.1 none (fun aP=>Ex.inBlock 0 aP (ln aI fun aS=>bo .eql aD aS fun aC=>gS true aC (ld true 3 aB aG fun aT=>lV aT aB) aB fun aU aE=>gS true aC (ld true 3 aE aJ fun aV=>lV aV aE) aE fun aW aL=>gS true aC ((pK [.i,.i,.i] aU aW).bind fun aX=>lV (.bool aX) aL) aL fun aY aR=>(mJ aC aY (.bool false)).bind fun aZ=>Qk K aZ aH aR aK) (fun aQ=>some (aQ,[aF],aB)))) (gd aA.2.1 0) (gd aA.2.1 1) (gd aA.2.1 2) (gd aA.2.1 3) (gd aA.2.1 4) (gd aA.2.1 5) (gd aA.2.1 6) (gd aA.2.1 7) (gd aA.2.1 8) aA.2.2)
def Kc (aH:Bool) (aI:Int) (aJ:Int) (aE:(List mT)) (aK:Int) (aL:Int) (aM:Int) (aN:Int) (aO:Int) (aP:Int) (aB:(List mT)) (aF:Int) (aG:Int):Option (Bool) :=
 tc aH (tc (decide (aI=aJ)) (Oz (decide (((aa8 aE:Nat):Int)=0)) aB) (Oz false aB)) (tb (tY (C6 aE aB) (0,0)) fun aA=>xD aA.1 none fun aC=>xF 0 aC (tc (decide (aA.2.1=((aa8 aB:Nat):Int))) (Iq ((aK == aN)&&((aL == aO)&&((aM == aP)&&true))) aF aG) (Iq false aF aG)) fun aD=>JC aD (some false))
set_option maxHeartbeats 4000000 in
theorem apS (w61:Bool) (w64:Int) (w67:Int) (w62:(List mT)) (p0:IR) (w69:Int) (w70:Int) (w71:Int) (w72:Int) (w73:Int) (w74:Int) (w65:(List mT)) (w63:Int) (w66:Int):((Wj KK (.bool w61) (.int .i64 w64) (.int .i64 w67) (.slice (Rw mT.cells w62) .no) ([.cells [(.int .i64 p0.temps),(.slice (Rw mV.cells p0.arrays) .no),(.slice (Rw mF.cells p0.blocks) .no),(.int .i64 p0.inn),(.int .i64 p0.out)],.cells [(.int .i64 w69),(.int .i64 w70),(.int .i64 w71)],.cells [(.int .i64 w72),(.int .i64 w73),(.int .i64 w74)]]:lD) (.slice (Rw mT.cells w65) .no) (.ptr 1 0) (.int .i64 w63) (.ptr 2 0) (.int .i64 w66))).bind (Bg 0)=tm (Kc w61 w64 w67 w62 w69 w70 w71 w72 w73 w74 w65 w63 w66) fun r=>(.ret (.bool r),[]):=by
 cases w61 <;> simp +contextual -implicitDefEqProofs (maxSteps:=2000000) [-lM,-lF,-lE,-lG,-lK,-lI,-lH,Wj,Kc,r5,r6,Bq,Bg,Ic,JV,Oc,Mk,QR,Xg]
def m4 (K:lN) (a0:lC) (h0:lD):Option (nB×lD) :=
 (lQ (nA 5 h0 a0) fun aC aE=>ld true 5 aE aC fun aS=>ca (K 5 [(lC.lL aS)] aE) fun t23 aB=>(xX .not t23).bind fun t26=>lS t26 (ca (K 6 [] aB) fun aT aM=>some (.ret,[aT],aM)) (ld true 5 aB aC fun t30=>ca (K 7 [(lC.lL t30),(lC.lL (.int .i64 0))] aB) fun t31 aN=>(nI 0 t31).bind fun aU=>(nI 1 t31).bind fun aV=>(nI 2 t31).bind fun t36=>(nI 3 t31).bind fun aI=>lQ (nA 3 aN (.agg [(.int .i64 0),(.int .i64 0),(.int .i64 0)])) fun aJ aO=>(lW 3 aO aJ aV).bind fun aF=>ld true 5 aF aC fun aW=>ca (K 7 [(lC.lL aW),(lC.lL (.int .i64 1))] aF) fun aA aP=>(nI 0 aA).bind fun aX=>(nI 1 aA).bind fun aY=>(nI 2 aA).bind fun aZ=>(nI 3 aA).bind fun aK=>lQ (nA 3 aP (.agg [(.int .i64 0),(.int .i64 0),(.int .i64 0)])) fun aL aQ=>(lW 3 aQ aL aY).bind fun aG=>bo .neq aI (.int .i64 0) fun aD=>gS false aD (lV aK aG) aG fun t53 aH=>gS false aD (bo .neq t53 (.int .i64 0) fun a_=>lV a_ aH) aH fun bB aR=>(mJ aD (.bool true) bB).bind fun bC=>Wj K bC aI aK aU aR aX aJ t36 aL aZ)).bind (Bg (aa8 h0))
theorem adS (K:lN) (a0:lC) (h0:lD):qG Tryz.prog mY mX K 4 [a0] h0=m4 (mH mY K) a0 h0:=by kernel_rfl
def t4 (A B:List mT×Sz×Int×Int) (p0:IR):Option (Bool) :=
 tb ((t5 p0)) fun aC=>tc (!aC) (tb ((t6 )) fun DN=>some DN) (tb ((some A)) fun aA=>tb ((some B)) fun aB=>tc (!decide (aA.2.2.2=0)) (Kc true aA.2.2.2 aB.2.2.2 aA.1 aA.2.1.inn aA.2.1.outt aA.2.1.rail aB.2.1.inn aB.2.1.outt aB.2.1.rail aB.1 aA.2.2.1 aB.2.2.1) (Kc (!decide (aB.2.2.2=0)) aA.2.2.2 aB.2.2.2 aA.1 aA.2.1.inn aA.2.1.outt aA.2.1.rail aB.2.1.inn aB.2.1.outt aB.2.1.rail aB.1 aA.2.2.1 aB.2.2.1))
set_option maxHeartbeats 4000000 in
theorem b4 (A B:List mT×Sz×Int×Int) (p0:IR) (r7a:∀h,KK 7 [(.agg [(.int .i64 p0.temps),(.slice (Rw mV.cells p0.arrays) .no),(.slice (Rw mF.cells p0.blocks) .no),(.int .i64 p0.inn),(.int .i64 p0.out)]),(.int .i64 0)] h=some (.ret (.tuple [(.slice (Rw mT.cells A.1) .no),(.agg [(.int .i64 A.2.1.inn),(.int .i64 A.2.1.outt),(.int .i64 A.2.1.rail)]),(.int .i64 A.2.2.1),(.int .i64 A.2.2.2)]),h)) (r7b:∀h,KK 7 [(.agg [(.int .i64 p0.temps),(.slice (Rw mV.cells p0.arrays) .no),(.slice (Rw mF.cells p0.blocks) .no),(.int .i64 p0.inn),(.int .i64 p0.out)]),(.int .i64 1)] h=some (.ret (.tuple [(.slice (Rw mT.cells B.1) .no),(.agg [(.int .i64 B.2.1.inn),(.int .i64 B.2.1.outt),(.int .i64 B.2.1.rail)]),(.int .i64 B.2.2.1),(.int .i64 B.2.2.2)]),h)):m4 KK (.agg [(.int .i64 p0.temps),(.slice (Rw mV.cells p0.arrays) .no),(.slice (Rw mF.cells p0.blocks) .no),(.int .i64 p0.inn),(.int .i64 p0.out)]) []=tm (t4 A B p0) fun r=>(.ret (.bool r),[]):=by
 simp +contextual -implicitDefEqProofs (maxSteps:=2000000) [-lM,-lF,-lE,-lG,-lK,-lI,-lH,m4,t4,r5,r6,r7a,r7b,Bq,Bg,Ic,JV,Oc,Mk,QR,Xg,apS]
theorem r4 (A B:List mT×Sz×Int×Int) (p0:IR) (r7a:∀h,KK 7 [(.agg [(.int .i64 p0.temps),(.slice (Rw mV.cells p0.arrays) .no),(.slice (Rw mF.cells p0.blocks) .no),(.int .i64 p0.inn),(.int .i64 p0.out)]),(.int .i64 0)] h=some (.ret (.tuple [(.slice (Rw mT.cells A.1) .no),(.agg [(.int .i64 A.2.1.inn),(.int .i64 A.2.1.outt),(.int .i64 A.2.1.rail)]),(.int .i64 A.2.2.1),(.int .i64 A.2.2.2)]),h)) (r7b:∀h,KK 7 [(.agg [(.int .i64 p0.temps),(.slice (Rw mV.cells p0.arrays) .no),(.slice (Rw mF.cells p0.blocks) .no),(.int .i64 p0.inn),(.int .i64 p0.out)]),(.int .i64 1)] h=some (.ret (.tuple [(.slice (Rw mT.cells B.1) .no),(.agg [(.int .i64 B.2.1.inn),(.int .i64 B.2.1.outt),(.int .i64 B.2.1.rail)]),(.int .i64 B.2.2.1),(.int .i64 B.2.2.2)]),h)) (h:lD):KK 4 [(.agg [(.int .i64 p0.temps),(.slice (Rw mV.cells p0.arrays) .no),(.slice (Rw mF.cells p0.blocks) .no),(.int .i64 p0.inn),(.int .i64 p0.out)])] h=tm (t4 A B p0) fun r=>(.ret (.bool r),h):=nZ rfl rfl (adS ..) (b4 A B p0 r7a r7b)
end
section
open Go Hk
theorem aeF {i:Nat}(h:i≤4000000):IntKind.i64.wrap ((i:Int)+1)=((i+1:Nat):Int):=rZ h
section
variable {W D:List mT}{k:Int}{x:mT}
theorem Lf {a:Nat}{j r:Int}(hx:oV W k=some x) (hd:D[a]?=some x) (ha:a≤3000000) (hj:j<r) (h0:0≤j) (h2:j≤2):Cv W D k r ((a:Int),j)=some (.n,(((a+1:Nat):Int),j+1)):=by
 have e1:oV D (a:Int)=some x:=by rw [o_,hd]
 have hl:¬(D.length:Int)≤(a:Int):=by have:=(ac1.1 hd).1;omega
 have w:IntKind.i64.wrap (j+1)=j+1:=wrap64 (by omega) (by omega)
 simp [Cv,hj,hl,e1,hx,OC,aeF (show a≤4000000 by omega),w]
theorem agK {a:Nat}(hx:oV W k=some x) (hd:D[a]?=some x) (ha:a≤3000000):tY (Cv W D k 1) ((a:Int),0)=some (.x 2,(((a+1:Nat):Int),1)):=by
 rw [q_ (Lf hx hd ha (by omega) (by omega) (by omega))]
 exact p5 (s':=(((a+1:Nat):Int),(1:Int))) (by simp [Cv]) (by simp)
theorem agL {a:Nat}(hx:oV W k=some x) (hd:D[a]?=some x) (hd2:D[a+1]?=some x) (ha:a≤2000000):tY (Cv W D k 2) ((a:Int),0)=some (.x 2,(((a+2:Nat):Int),2)):=by
 rw [q_ (Lf hx hd (by omega) (by omega) (by omega) (by omega)),q_ (Lf hx hd2 (by omega) (by omega) (by omega) (by omega))]
 exact p5 (s':=(((a+2:Nat):Int),(2:Int))) (by simp [Cv];omega) (by simp)
end
theorem ao2 {P:Int→Prop}{W:List mT}(hW:W.length≤1000000) (hok:∀x∈W,OkP P x):∀(d k:Nat),W.length=k+d →
  tY (C6 W (rS W)) (((rS (W.take k)).length:Int),(k:Int))=some (.x 0,(((rS W).length:Int),(W.length:Int))):=by
 intro d
 induction d with
 | zero =>
  intro k hk
  obtain rfl:k=W.length:=by omega
  rw [List.take_length]
  exact p5 (by simp [C6]) (by simp)
 | succ d ih =>
  intro k hk
  have hkl:k<W.length:=by omega
  rw [←ih (k+1) (by omega)]
  have hd:=Hd (W.take k)
  have ht:(W.take k).length=k:=by rw [ao3];omega
  have e1:oV W (k:Int)=some W[k]:=by rw [o_,ac6 hkl]
  have e4:rS (W.take (k+1))=rS (W.take k)++Hc W[k]:=by
   rw [List.take_succ_eq_append_getElem hkl];unfold rS;rw [List.flatMap_append];simp
  have e5:rS W=rS (W.take k)++(Hc W[k]++rS (W.drop (k+1))):=by
   have:W=W.take k++W[k]::W.drop (k+1):=by rw [←ao4 hkl,List.take_append_drop]
   conv=>lhs;rw [this]
   unfold rS
   rw [List.flatMap_append,List.flatMap_cons]
  have hkk:(k:Int)<(W.length:Int):=by omega
  have ok:=(hok _ (as2 hkl)).1
  obtain⟨r,b1,hr⟩:∃r,Kb W (k:Int) (rS W) ((rS (W.take k)).length:Int)=some (.n,r)∧r=((rS (W.take (k+1))).length:Int):=by
   have key:∀a,D_ (!decide (W[k].ins.op=2)) W (k:Int) a=some (.n,a)∨W[k].kind≠0:=by
    intro a
    by_cases h0:W[k].kind=0
    ·left
     by_cases h2:W[k].ins.op=2
     ·simp [D_,h2,It]
     ·simp [D_,h2,e1,ok h0 h2,It]
    ·exact .inr h0
   have s8f:∀a,D_ false W (k:Int) a=some (.n,a):=fun a=>by simp [D_,It]
   by_cases h1:W[k].kind=1
   ·have ed:Hc W[k]=[W[k]]:=by simp [Hc,h1]
    have hx0:(rS W)[(rS (W.take k)).length]?=some W[k]:=by rw [e5,ed];simp
    have hl:=agK (D:=rS W) e1 hx0 (by omega)
    refine⟨_,?_,rfl⟩
    have h0:¬W[k].kind=0:=by omega
    simp only [Kb,e1,mR,h1,decide_true,Oy,oM,hl,xD,xF,beq_self_eq_true,cond_true]
    rw [e4,ed]
    simp [h1,s8f]
   ·have ed:Hc W[k]=[W[k],W[k]]:=by simp [Hc,h1]
    have hx0:(rS W)[(rS (W.take k)).length]?=some W[k]:=by rw [e5,ed];simp
    have hx1:(rS W)[(rS (W.take k)).length+1]?=some W[k]:=by rw [e5,ed,af4 (by omega)];simp
    have hl:=agL (D:=rS W) e1 hx0 hx1 (by omega)
    refine⟨_,?_,rfl⟩
    simp only [Kb,e1,mR,h1,decide_false,Oy,pS,hl,xD,xF,beq_self_eq_true,cond_true]
    rw [e4,ed]
    rcases key (((rS (W.take k)).length+2:Nat):Int) with h | h
    ·by_cases h0:W[k].kind=0
     ·simp only [h0,decide_true,oM,h];simp
     ·simp only [h0,decide_false,pS,s8f];simp
    ·simp only [h,decide_false,pS,s8f];simp
  refine q_ ?_
  subst hr
  simp only [C6,hkk,decide_true,oM,b1,mR,Hx,aeF (show k≤4000000 by omega)]
theorem aqT {P:Int→Prop}{W:List mT}(hW:W.length≤1000000) (hok:∀x∈W,OkP P x) (z:Sz) (h:Int) (p:IR) (h5:t5 p=some true):t4 (W,z,h,0) (rS W,z,h,0) p=some true:=by
 have g:=ao2 hW hok W.length 0 (by omega)
 have e0:((0:Nat):Int)=0:=rfl
 have e1:((rS (W.take 0)).length:Int)=0:=rfl
 rw [e0,e1] at g
 simp [t4,h5,Kc,g,xD,xF,Iq,Ir,Is]
theorem XD {e:Int}(he:e≠0) (z:Sz) (p:IR) (h5:t5 p=some true):t4 ([],z,0,e) ([],z,0,e) p=some true:=by
 simp [t4,h5,he,Kc,Oz,OA,OB]
theorem c4 (p:IR) (h:lD):KK 4 [pA p] h=some (.ret (.bool true),h):=by
 obtain⟨b,h5,hb⟩:=awA p
 cases b
 ·refine nG rfl rfl (oF (adS _ _ _) ?_)
  have k5:=fun h=>r5 p h
  simp only [h5,pN] at k5
  simp [m4,Bg,pA,k5,c6]
 ·obtain⟨hb1,hb2,hb3⟩:=hb rfl
  by_cases h0:oR p=0
  ·obtain⟨f,e,hf⟩:=aqS (oZ p)
   by_cases he:e=0
   ·subst he
    obtain⟨hc1,hc2⟩:=Ph p
    obtain⟨W,hW,gW⟩:=apI (P:=fun _=>True) (f:=f) (q:=oZ p) rfl (by omega) (by omega) (fun b _=>⟨fun _=>trivial,fun _=>trivial,fun _ _=>⟨trivial,trivial,trivial⟩⟩) ⟨trivial,trivial⟩ (fun _ _=>trivial)
    have hl:=gW.len
    have hD:=aqR (l:=W) (by omega)
    refine(r4 (W,⟨(oZ p).inn,(oZ p).out,f.size⟩,inc (oZ p).blocks.length,0) (rS W,⟨(oZ p).inn,(oZ p).out,f.size⟩,inc (oZ p).blocks.length,0) p (fun h=>auJ h0 (by omega) hf hW h) (fun h=>auK h0 (by omega) hf hW hD h) h).trans ?_
    rw [aqT (by omega) gW.ok _ _ p h5];rfl
   ·refine(r4 ([],⟨0,0,0⟩,0,e) ([],⟨0,0,0⟩,0,e) p (fun h=>Vf h0 (by omega) hf he (by omega) h) (fun h=>Vf h0 (by omega) hf he (by omega) h) h).trans ?_
    rw [XD he _ p h5];rfl
  ·refine(r4 ([],⟨0,0,0⟩,0,oR p) ([],⟨0,0,0⟩,0,oR p) p (fun h=>Ve h0 (by omega) h) (fun h=>Ve h0 (by omega) h) h).trans ?_
   rw [XD h0 _ p h5];rfl
end
end Go.Proofs.YtgllbnabmglcfaaGreatDoor
