/-
  The texts TY.Q1, TY.H1, TY.H2, TY.H3, TY.H4, TY.H5, TY.H6, one behind another. No conditions.
-/
import Derived.Test.YtkeoalhglkfbkaaDoorIxa1
import Derived.Test.YtkeoalhglkfbkaaDoorVt1
set_option linter.unusedVariables false
set_option linter.unusedSimpArgs false
set_option linter.unusedSectionVars false
set_option linter.all false

namespace Hk.PQ
variable {α:Type}{key:α→Int}
def kg (key:α→Int) (l:List α) (i:Nat):Int:=match l[i]? with
 | some a=>key a
 | none=>0
theorem U8 {l:List α}{i:Nat}{a:α}(h:l[i]?=some a):kg key l i=key a:=by unfold kg; rw [h]
def sw (l:List α) (i j:Nat):List α:=match l[i]?,l[j]? with
 | some a,some b=>(l.set i b).set j a
 | _,_=>l
theorem acR {l:List α}{i j:Nat}{a b:α}(hi:l[i]?=some a) (hj:l[j]?=some b):sw l i j=(l.set i b).set j a:=by unfold sw; rw [hi,hj]
theorem LP {l:List α}{i j:Nat}:(sw l i j).length=l.length:=by
 unfold sw; split <;> simp
theorem JK {l:List α}{i j:Nat}:(sw l i j).Perm l:=by
 unfold sw
 split
 ·rename_i a b ha hb
  obtain⟨h1,h2⟩:=List.getElem?_eq_some_iff.1 ha
  obtain⟨h3,h4⟩:=List.getElem?_eq_some_iff.1 hb
  subst h2; subst h4
  exact List.set_set_perm h1 h3
 ·exact List.Perm.refl _
theorem alB {l:List α}{i j:Nat}(hi:i < l.length) (hj:j < l.length) (k:Nat):kg key (sw l i j) k=if k=j then kg key l i else if k=i then kg key l j else kg key l k:=by
 rw [acR (List.getElem?_eq_getElem hi) (List.getElem?_eq_getElem hj)]
 unfold kg
 by_cases h1:k=j
 ·subst h1
  rw [if_pos rfl,List.getElem?_set_self (by simpa using hj),List.getElem?_eq_getElem hi]
 ·rw [if_neg h1,List.getElem?_set_ne (fun e=>h1 e.symm)]
  by_cases h2:k=i
  ·subst h2
   rw [if_pos rfl,List.getElem?_set_self hi,List.getElem?_eq_getElem hj]
  ·rw [if_neg h2,List.getElem?_set_ne (fun e=>h2 e.symm)]
def kU (key:α→Int) (l:List α):Prop:=∀j,0 < j→j < l.length→kg key l ((j - 1) / 2)≤kg key l j
def UpI (key:α→Int) (l:List α) (i:Nat):Prop:=i < l.length∧(∀j,0 < j→j < l.length→j≠i→kg key l ((j - 1) / 2)≤kg key l j) ∧
 ∀j,0 < j→j < l.length→(j - 1) / 2=i→0 < i→kg key l ((i - 1) / 2)≤kg key l j
def DnI (key:α→Int) (l:List α) (i:Nat):Prop:=(∀j,0 < j→j < l.length→(j - 1) / 2≠i→kg key l ((j - 1) / 2)≤kg key l j) ∧
 (0 < i→∀j,0 < j→j < l.length→(j - 1) / 2=i→kg key l ((i - 1) / 2)≤kg key l j)
theorem Vw {l:List α}{i:Nat}(h:UpI key l i) (h0:0 < i) (hlt:kg key l i < kg key l ((i - 1) / 2)):UpI key (sw l i ((i - 1) / 2)) ((i - 1) / 2):=by
 obtain⟨h1,h2,h3⟩:=h
 have hp:(i - 1) / 2 < i:=by omega
 have hpl:(i - 1) / 2 < l.length:=by omega
 have hk:=alB (key:=key) h1 hpl
 generalize hpe:(i - 1) / 2=p at *
 refine⟨by rw [LP]; exact hpl,fun j j0 jl jp=>?_,fun j j0 jl jp p0=>?_⟩
 ·rw [LP] at jl
  rw [hk,hk]
  by_cases e1:j=i
  ·subst e1
   rw [hpe,if_pos rfl,if_neg jp,if_pos rfl]; omega
  ·rw [if_neg jp,if_neg e1]
   by_cases e2:(j - 1) / 2=p
   ·rw [if_pos e2]
    have:=h2 j j0 jl e1
    rw [e2] at this; omega
   ·rw [if_neg e2]
    by_cases e3:(j - 1) / 2=i
    ·rw [if_pos e3]
     exact h3 j j0 jl e3 h0
    ·rw [if_neg e3]
     exact h2 j j0 jl e1
 ·rw [LP] at jl
  rw [hk,hk]
  have a1:(p - 1) / 2≠p:=by omega
  have a2:(p - 1) / 2≠i:=by omega
  rw [if_neg a1,if_neg a2]
  have b1:=h2 p p0 hpl (by omega)
  have b2:j≠p:=by omega
  rw [if_neg b2]
  by_cases e1:j=i
  ·rw [if_pos e1]; exact b1
  ·rw [if_neg e1]
   have:=h2 j j0 jl e1
   rw [jp] at this; omega
theorem PK {l:List α}{i:Nat}(h:UpI key l i) (hn:¬(0 < i∧kg key l i < kg key l ((i - 1) / 2))):kU key l:=by
 intro j j0 jl
 by_cases e:j=i
 ·subst e; omega
 ·exact h.2.1 j j0 jl e
theorem Vv {l:List α}{x:α}(h:kU key l):UpI key (l++[x]) l.length:=by
 have hk:∀k,k < l.length→kg key (l++[x]) k=kg key l k:=by
  intro k hk
  unfold kg
  rw [List.getElem?_append_left hk]
 refine⟨by simp,fun j j0 jl jn=>?_,fun j j0 jl jp p0=>?_⟩
 ·simp at jl
  rw [hk _ (by omega),hk _ (by omega)]
  exact h j j0 (by omega)
 ·simp at jl; omega
theorem U0 {l:List α}{i k:Nat}(h:DnI key l i) (hil:i < l.length) (k0:0 < k) (kl:k < l.length) (kp:(k - 1) / 2=i)
  (hm:∀j,0 < j→j < l.length→(j - 1) / 2=i→kg key l k≤kg key l j) (hlt:kg key l k < kg key l i):DnI key (sw l i k) k:=by
 obtain⟨h1,h2⟩:=h
 have hk:=alB (key:=key) hil kl
 have hik:i < k:=by omega
 refine⟨fun j j0 jl jp=>?_,fun _ j j0 jl jp=>?_⟩
 ·rw [LP] at jl
  rw [hk,hk,if_neg jp]
  by_cases e1:(j - 1) / 2=i
  ·rw [if_pos e1]
   by_cases e2:j=k
   ·rw [if_pos e2]; omega
   ·rw [if_neg e2,if_neg (by omega)]
    exact hm j j0 jl e1
  ·rw [if_neg e1]
   have e2:j≠k:=fun e=>e1 (by rw [e]; exact kp)
   rw [if_neg e2]
   by_cases e3:j=i
   ·rw [if_pos e3,e3]
    exact h2 (by omega) k k0 kl kp
   ·rw [if_neg e3]
    exact h1 j j0 jl e1
 ·rw [LP] at jl
  rw [hk,hk,kp,if_neg (by omega),if_pos rfl,if_neg (by omega),if_neg (by omega)]
  have:=h1 j j0 jl (by omega)
  rw [jp] at this; exact this
theorem Zg {l:List α}{i:Nat}(h:DnI key l i) (hm:∀j,0 < j→j < l.length→(j - 1) / 2=i→kg key l i≤kg key l j):kU key l:=by
 intro j j0 jl
 by_cases e:(j - 1) / 2=i
 ·rw [e]; exact hm j j0 jl e
 ·exact h.1 j j0 jl e
theorem QK {l:List α}(h:kU key l):∀i,i < l.length→kg key l 0≤kg key l i:=by
 intro i
 induction i using Nat.strongRecOn with
 | _ i ih =>
  intro hi
  by_cases e:i=0
  ·subst e; exact Int.le_refl _
  ·have:=ih ((i - 1) / 2) (by omega) (by omega)
   have:=h i (by omega) hi
   omega
def pop (l:List α):List α:=match l with
 | []=>[]
 | x::r=>(match (x::r)[r.length]? with
  | some y=>((x::r).set 0 y).take r.length
  | none=>[])
theorem aiH {l:List α}:(pop l).length=l.length - 1:=by
 cases l with
 | nil=>rfl
 | cons x r =>
  unfold pop
  have:r.length < (x::r).length:=by simp
  simp only [List.getElem?_eq_getElem this]
  simp
theorem Rf {x:α}{r:List α}:(x::pop (x::r)).Perm (x::r):=by
 have hlt:r.length < (x::r).length:=by simp
 have e:pop (x::r)=((x::r).set 0 (x::r)[r.length]).take r.length:=by
  unfold pop
  simp only [List.getElem?_eq_getElem hlt]
 rw [e]
 cases r with
 | nil=>simp
 | cons y s =>
  refine List.Perm.cons x ?_
  simp only [List.set_cons_zero,List.length_cons,List.take_succ_cons,List.getElem_cons_succ]
  have h2:(y::s)=(y::s).take s.length++[(y::s)[s.length]]:=by
   have h3:=List.take_append_getElem (l:=y::s) (i:=s.length) (by simp)
   have h4:(y::s).take (s.length+1)=y::s:=List.take_of_length_le (by simp)
   rw [h4] at h3
   exact h3.symm
  refine List.Perm.trans ?_ (List.Perm.of_eq h2.symm)
  exact(List.perm_append_comm (l₁:=[(y::s)[s.length]]) (l₂:=(y::s).take s.length))
theorem abT {l:List α}(h:kU key l):DnI key (pop l) 0:=by
 cases l with
 | nil=>exact⟨fun j _ jl=>by simp [pop] at jl,fun h0=>by omega⟩
 | cons x r =>
  have hlt:r.length < (x::r).length:=by simp
  have e:pop (x::r)=((x::r).set 0 (x::r)[r.length]).take r.length:=by
   unfold pop
   simp only [List.getElem?_eq_getElem hlt]
  have hk:∀k,0 < k→k < r.length→kg key (pop (x::r)) k=kg key (x::r) k:=by
   intro k k0 kl
   unfold kg
   rw [e,List.getElem?_take_of_lt kl,List.getElem?_set_ne (by omega)]
  refine⟨fun j j0 jl jp=>?_,fun h0=>by omega⟩
  rw [aiH] at jl
  simp at jl
  rw [hk _ (by omega) (by omega),hk _ j0 jl]
  exact h j j0 (by simp; omega)
end Hk.PQ


namespace Go.Proofs.YtkeoalhglkfbkaaDoor
open Go Hk
theorem Ju {F:List kS×kU→Option R}{σ:Type}(enc:σ→List kS×kU) (inv:σ→Prop) (μ:σ→Nat) (Post:σ→R→Prop)
  (h:∀s,inv s→(∃s',F (enc s)=some (.normal,enc s')∧inv s'∧μ s' < μ s∧∀r,Post s' r→Post s r)∨(∃r,F (enc s)=some r∧r.1≠.normal∧Post s r)) :
  ∀s,inv s→∃r,mQ F (enc s)=some r∧Post s r:=by
 have key:∀n s,μ s=n→inv s→∃r,mQ F (enc s)=some r∧Post s r:=by
  intro n
  induction n using Nat.strongRecOn with
  | _ n ih =>
   intro s hn hi
   rw [mW]
   rcases h s hi with ⟨s',e1,e2,e3,e4⟩ | ⟨r,e1,e2,e3⟩
   ·obtain⟨r,h1,h2⟩:=ih (μ s') (by omega) s' rfl e2
    refine⟨r,?_,e4 r h2⟩
    rw [e1]
    simp only [Option.bind_some,qN]
    exact h1
   ·refine⟨r,?_,e3⟩
    rw [e1]
    obtain⟨e,l⟩:=r
    cases e <;> first | exact absurd rfl e2 | rfl
 exact fun s hi=>key (μ s) s rfl hi
@[simp] theorem aeY {f:Nat}{x y:List kS}:sK (.func f x y)=some (f,x,y):=(rfl)
@[simp] theorem asX {f m:Nat}{h:Hk.kU}:kS.oH m h (.func f [] [])=.func f [] []:=(rfl)
@[simp] theorem Qw {f:Nat}{x y:List kS}:kS.mV (.func f x y)=true:=(rfl)
def xJ (C:Hk.kU) (S:List Int) (n:Nat):Hk.kU:=.cells [.vslice 1 S.length 0 n 1,.func 89 [] []]::Vc (ci .i64) 1 S::C
def rd (S:List Int) (j:Nat):Int:=S.getD j 0
theorem CJ {S:List Int}{j:Nat}(h:j < S.length):S[j]?=some (rd S j):=by unfold rd; rw [List.getD_eq_getElem?_getD,List.getElem?_eq_getElem h]; rfl
@[simp high] theorem aCY {c:mI}{C:Hk.kU}{S:List Int}{n j:Nat}{v:Int}(h:S.length=n) (hj:j < n):lT 1 (c::Vc (ci .i64) 1 S::C) (.vptr 1 n j) (.int .i64 v)=some (c::Vc (ci .i64) 1 (S.set j v)::C):=by
 subst h
 have:=Fk (enc:=ci .i64) (sz:=1) (h:=c::Vc (ci .i64) 1 S::C) (id:=1) (tot:=S.length) (j:=j) (xs:=S) (v:=.int .i64 v) v (fun _=>rfl) rfl (by omega) rfl rfl
 rw [Nat.mul_one] at this
 rw [this,sN,if_pos rfl,List.getElem?_eq_getElem hj,mE,AY,if_pos ⟨rfl,hj⟩]
 rfl
@[simp high] theorem aCX {c:mI}{C:Hk.kU}{S:List Int}{n j:Nat}(h:S.length=n) (hj:j < n):kW false 1 (c::Vc (ci .i64) 1 S::C) (.vptr 1 n j)=some (.int .i64 (rd S j)):=by
 subst h
 rw [oC]
 have e:(c::Vc (ci .i64) 1 S::C:Hk.kU)[1]?=some (Vc (ci .i64) 1 S):=rfl
 rw [e,atN (fun _=>rfl),sN,if_pos rfl,CJ hj]
 rfl
def Still (C:Hk.kU):Prop:=∀m h,nW m h C=some C
section
variable {C:Hk.kU}(hC:Still C) {S:List Int}{n i:Nat}
include hC
theorem MI {m:Nat}(hm:C.length+2=m):mS m (xJ C S n)=some (xJ C S n):=by
 have h1:(1:Nat) < m:=by omega
 have h2:nW m (xJ C S n) C=some C:=hC _ _
 rw [JO,List.take_of_length_le (by simp [xJ]; omega)]
 have e:xJ C S n=.cells [.vslice 1 S.length 0 n 1,.func 89 [] []]::Vc (ci .i64) 1 S::C:=rfl
 rw [e] at h2 ⊢
 simp [h1,h2]
theorem c89 (a b:Int):KK 89 [.int .i64 a,.int .i64 b] (xJ C S n)=some (.ret (.bool (decide (a < b))),xJ C S n):=by
 refine mR (aqZ _ _ _ _) ?_
 have hl:(xJ C S n).length=C.length+2:=rfl
 have ht:mS (C.length+2) (xJ C S n)=some (xJ C S n):=MI hC rfl
 simp only [m89,J_,Option.bind_some,List.getD_cons_zero,Ex.nK,mX,hl,ht,Option.map_some,kS.oL,kS.oH,kS.k8,kS.tT]
 rfl
theorem aw4 (a b:Int):zV nA KK 89 (uS nA 89 [.int .i64 a,.int .i64 b]) (xJ C S n)=some (.ret (.bool (decide (a < b))),xJ C S n):=c89 hC a b
theorem adG (hn:n≤S.length) (hn2:n≤1048576) (hi:i < n) (h0:0 < i) :
  FA KK (C.length+2) ([.ptr 0 0,.int .i64 (i:Int)],xJ C S n)=(if rd S i < rd S ((i - 1) / 2) then some (.normal,[.ptr 0 0,.int .i64 (((i - 1) / 2:Nat):Int)],xJ C ((S.set i (rd S ((i - 1) / 2))).set ((i - 1) / 2) (rd S i)) n) else some (.exit 0,[.ptr 0 0,.int .i64 (i:Int)],xJ C S n)):=by
 have w1:IntKind.i64.wrap ((i:Int) - 1)=((i - 1:Nat):Int):=by rw [wrap64 (by omega) (by omega)]; omega
 have q1:XY .i64 ((i - 1:Nat):Int) 2=some (((i - 1) / 2:Nat):Int):=by
  unfold XY
  rw [if_neg (by omega),Int.tdiv_eq_ediv_of_nonneg (by omega)]
  have:((i - 1:Nat):Int) / 2=(((i - 1) / 2:Nat):Int):=by omega
  rw [this,wrap64 (by omega) (by omega)]
 have hpn:(i - 1) / 2 < n:=by omega
 have hil:i < S.length:=by omega
 have hpl:(i - 1) / 2 < S.length:=by omega
 generalize hp:(i - 1) / 2=p at *
 have hc:=fun n=>aw4 hC (S:=S) (n:=n) (rd S i) (rd S p)
 have hC2:∀m h,nW m h C=some C:=hC
 simp only [xJ] at hc
 by_cases hlt:rd S i < rd S p
 ·rw [if_pos hlt]
  simp [FA,xJ,w1,q1,h0,hi,hpn,hil,hpl,hc,hlt,hC2]
 ·rw [if_neg hlt]
  simp [FA,xJ,w1,q1,h0,hi,hpn,hil,hpl,hc,hlt,hC2]
theorem adH:FA KK (C.length+2) ([.ptr 0 0,.int .i64 0],xJ C S n)=some (.exit 0,[.ptr 0 0,.int .i64 0],xJ C S n):=by
 have hC2:∀m h,nW m h C=some C:=hC
 simp [FA,xJ,hC2]
end
theorem Nb {S:List Int}{n i:Nat}(hn:n≤S.length) (hi:i < n):PQ.kg (fun x=>x) (S.take n) i=rd S i:=by
 have:(S.take n)[i]?=some (rd S i):=by rw [List.getElem?_take_of_lt hi,CJ (by omega)]
 rw [PQ.U8 this]
theorem JM {S:List Int}{n i p:Nat}(hn:n≤S.length) (hi:i < n) (hp:p < n):((S.set i (rd S p)).set p (rd S i)).take n=PQ.sw (S.take n) i p:=by
 have h1:(S.take n)[i]?=some (rd S i):=by rw [List.getElem?_take_of_lt hi,CJ (by omega)]
 have h2:(S.take n)[p]?=some (rd S p):=by rw [List.getElem?_take_of_lt hp,CJ (by omega)]
 rw [PQ.acR h1 h2,List.take_set,List.take_set]
theorem up1 {C:Hk.kU}(hC:Still C) {S:List Int}{n i:Nat}(hn:n≤S.length) (hn2:n≤1048576) (h:PQ.UpI (fun x=>x) (S.take n) i) :
  ∃r,mQ (FA KK (C.length+2)) ([.ptr 0 0,.int .i64 (i:Int)],xJ C S n)=some r ∧
   ∃(j:Nat) (S':List Int),r=(.exit 0,[.ptr 0 0,.int .i64 (j:Int)],xJ C S' n)∧S'.length=S.length∧PQ.kU (fun x=>x) (S'.take n)∧(S'.take n).Perm (S.take n):=by
 refine Ju (fun s:List Int×Nat=>([.ptr 0 0,.int .i64 (s.2:Int)],xJ C s.1 n)) (fun s=>s.1.length=S.length∧PQ.UpI (fun x=>x) (s.1.take n) s.2∧(s.1.take n).Perm (S.take n)) (fun s=>s.2)
  (fun _ r=>∃(j:Nat) (S':List Int),r=(.exit 0,[.ptr 0 0,.int .i64 (j:Int)],xJ C S' n)∧S'.length=S.length∧PQ.kU (fun x=>x) (S'.take n)∧(S'.take n).Perm (S.take n)) ?_ (S,i) ⟨rfl,h,List.Perm.refl _⟩
 rintro⟨T,j⟩ ⟨hl,hu,hp⟩
 simp only at hl hu hp ⊢
 have hj:j < n:=by have:=hu.1; rw [List.length_take] at this; omega
 rcases Nat.eq_zero_or_pos j with h0 | h0
 ·subst h0
  refine .inr ⟨_,adH hC,by simp,0,T,rfl,hl,PQ.PK hu (by omega),hp⟩
 ·have hs:=adG hC (S:=T) (n:=n) (i:=j) (by omega) hn2 hj h0
  have hpn:(j - 1) / 2 < n:=by omega
  by_cases hlt:rd T j < rd T ((j - 1) / 2)
  ·rw [if_pos hlt] at hs
   refine .inl ⟨(((T.set j (rd T ((j - 1) / 2))).set ((j - 1) / 2) (rd T j)),(j - 1) / 2),hs,⟨by simp [hl],?_,?_⟩,by simp only; omega,fun r hr=>hr⟩
   ·simp only
    rw [JM (by omega) hj hpn]
    exact PQ.Vw hu h0 (by rw [Nb (by omega) hj,Nb (by omega) hpn]; exact hlt)
   ·simp only
    rw [JM (by omega) hj hpn]
    exact PQ.JK.trans hp
  ·rw [if_neg hlt] at hs
   exact .inr ⟨_,hs,by simp,j,T,rfl,hl,PQ.PK hu (by rw [Nb (by omega) hj,Nb (by omega) hpn]; omega),hp⟩
def HPn (S:List Int) (n:Nat):Hk.kU:=if S=[] then [.cells [.slice [] (.own 1),.func 89 [] []],.front 0 0] else xJ [] S n
theorem NC:Still []:=fun _ _=>rfl
theorem Rx {i j:Nat}:Still [.front i j]:=fun _ _=>rfl
theorem b91 {S:List Int}{n:Nat}(x:Int) (hn:n≤S.length) (hl:S.length≤1000000) (hh:PQ.kU (fun x=>x) (S.take n)) :
  ∃S',m91 KK (.ptr 0 0) (.int .i64 x) (HPn S n)=some (.ret (.tuple []),xJ [] S' (n+1))∧n+1≤S'.length∧S'.length≤max S.length (n+1)∧PQ.kU (fun x=>x) (S'.take (n+1))∧(S'.take (n+1)).Perm (x::S.take n):=by
 let T:=S.take n++[x]++S.drop (n+1)
 have hT:T=S.take n++[x]++S.drop (n+1):=rfl
 have hTl:T.length=max S.length (n+1):=by rw [hT]; simp; omega
 have hTt:T.take (n+1)=S.take n++[x]:=by
  rw [hT]
  have:(S.take n++[x]).length=n+1:=by simp; omega
  rw [←this,List.take_left]
 have hup:PQ.UpI (fun x=>x) (T.take (n+1)) n:=by
  rw [hTt]
  have:=PQ.Vv (key:=fun x=>x) (x:=x) hh
  rwa [show(S.take n).length=n by simp; omega] at this
 obtain⟨r,hr,j,S',rfl,h1,h2,h3⟩:=up1 (C:=[.front 1 1]) Rx (by omega) (by omega) hup
 refine⟨S',?_,by omega,by omega,h2,h3.trans ?_⟩
 ·have hfin:mS 2 (xJ [.front 1 1] S' (n+1))=some (xJ [] S' (n+1)):=by
   rw [JO]
   simp [xJ]
  have hdn:T.drop (n+1)=S.drop (n+1):=by
   rw [hT]
   have:(S.take n++[x]).length=n+1:=by simp; omega
   rw [←this,List.drop_left]
  by_cases h0:S=[]
  ·subst h0
   have hn0:n=0:=by simpa using hn
   subst hn0
   have hT1:T=[x]:=rfl
   rw [hT1] at hr
   have e1:xJ [.front 1 1] [x] 1=[.cells [.vslice 1 1 0 1 1,.func 89 [] []],.vec 1 1 [.int .i64 x],.front 1 1]:=rfl
   have wz:IntKind.i64.wrap 0=0:=by decide
   have n0:((0:Nat):Int)=0:=rfl
   rw [Nat.zero_add,e1,n0] at hr
   simp only [xJ,List.length_cons,List.length_nil,Nat.reduceAdd] at hr ⊢
   simp only [HPn,if_true]
   simp [m91,lU,pD,nB,kS.uV,rowsOf,nJ,wz]
   simp [hr]
  ·simp only [HPn,h0,if_false]
   have ha:=J6 (enc:=ci .i64) (sz:=1) (by_:=8) (h:=xJ [] S n++[.front 1 1]) (id:=1) (tot:=S.length) (n:=n) (xs:=S) (ys:=[x]) (T:=.own 2) (fun _=>rfl) (by omega) rfl hn (by simp)
   have hva:tva 8 S.length n S [x]=some T:=by
    unfold tva
    rw [if_pos ⟨rfl,hn,by simp; omega,by simp; omega⟩]
    rfl
   rw [hva,yS] at ha
   have eR:Rw (ci .i64) [x]=[[.int .i64 x]]:=rfl
   have eH:(xJ [] S n++[.front 1 1]:Hk.kU).set 1 (Vc (ci .i64) 1 T)=[.cells [.vslice 1 S.length 0 n 1,.func 89 [] []],Vc (ci .i64) 1 T,.front 1 1]:=rfl
   have eH2:(xJ [] S n++[.front 1 1]:Hk.kU)=[.cells [.vslice 1 S.length 0 n 1,.func 89 [] []],Vc (ci .i64) 1 S,.front 1 1]:=rfl
   rw [eH,eH2,eR] at ha
   have w1:IntKind.i64.wrap (n:Int)=(n:Int):=by rw [wrap64 (by omega) (by omega)]
   simp only [xJ,List.length_cons,List.length_nil,Nat.reduceAdd] at hr ha ⊢
   simp [m91,lU,pD,nB,kS.uV,rowsOf]
   rw [ha]
   simp [w1]
   simp [hr]
 ·rw [hTt]
  exact List.perm_append_comm
section
variable {S:List Int}{n i:Nat}{x:Int}
theorem Sw (hn : n ≤ S.length) (hn2 : S.length ≤ 1000000) (hi : i < n ∨ i = 0) :
    let k := if 2 * i + 2 < n ∧ rd S (2 * i + 2) < rd S (2 * i + 1) then 2 * i + 2 else 2 * i + 1
    Bt KK 2 ([.ptr 0 0, .int .i64 0, .int .i64 x, .int .i64 (n : Int), .int .i64 (i : Int)], xJ [] S n) =
      (if n ≤ k ∨ ¬ rd S k < rd S i then some (.ret, [.ptr 0 0, .int .i64 x, .int .i64 x, .int .i64 (n : Int), .int .i64 (i : Int)], xJ [] S n)
       else some (.normal, [.ptr 0 0, .int .i64 0, .int .i64 x, .int .i64 (n : Int), .int .i64 (k : Int)], xJ [] ((S.set i (rd S k)).set k (rd S i)) n)) := by
  intro k
  have w1 : IntKind.i64.wrap (2 * (i : Int)) = ((2 * i : Nat) : Int) := by rw [wrap64 (by omega) (by omega)]; omega
  have w2 : IntKind.i64.wrap (((2 * i : Nat) : Int) + 1) = ((2 * i + 1 : Nat) : Int) := by rw [wrap64 (by omega) (by omega)]; omega
  have w3 : IntKind.i64.wrap (((2 * i + 1 : Nat) : Int) + 1) = ((2 * i + 2 : Nat) : Int) := by rw [wrap64 (by omega) (by omega)]; omega
  have hC2 : ∀ m h, nW m h [] = some [] := fun _ _ => rfl
  have hc := fun a b => aw4 NC (S := S) (n := n) a b
  simp only [xJ] at hc
  have rest : ∀ k : Nat, k = 2 * i + 1 ∨ k = 2 * i + 2 ∧ k < n → True := fun _ _ => trivial
  have hkd : k = if 2 * i + 2 < n ∧ rd S (2 * i + 2) < rd S (2 * i + 1) then 2 * i + 2 else 2 * i + 1 := rfl
  clear_value k
  generalize h1 : 2 * i + 1 = k1 at *
  generalize h2 : 2 * i + 2 = k2 at *
  generalize h0 : 2 * i = k0 at *
  by_cases c1 : k2 < n
  · have hk2 : k2 < S.length := by omega
    have hk1 : k1 < n := by omega
    have hk1l : k1 < S.length := by omega
    have hil : i < n := by omega
    have hill : i < S.length := by omega
    by_cases c2 : rd S k2 < rd S k1
    · rw [if_pos ⟨c1, c2⟩] at hkd
      subst hkd
      have hnk : ¬ n ≤ k := by omega
      by_cases c3 : rd S k < rd S i
      · rw [if_neg (by intro h; rcases h with h | h; exact hnk h; exact h c3)]
        simp [Bt, xJ, w1, w2, w3, c1, c2, c3, hk2, hk1, hk1l, hil, hill, hc, hnk]
      · rw [if_pos (.inr c3)]
        simp [Bt, xJ, w1, w2, w3, c1, c2, c3, hk2, hk1, hk1l, hil, hill, hc, hnk]
    · rw [if_neg (fun h => c2 h.2)] at hkd
      subst hkd
      have hnk : ¬ n ≤ k := by omega
      by_cases c3 : rd S k < rd S i
      · rw [if_neg (by intro h; rcases h with h | h; exact hnk h; exact h c3)]
        simp [Bt, xJ, w1, w2, w3, c1, c2, c3, hk2, hk1, hk1l, hil, hill, hc, hnk]
      · rw [if_pos (.inr c3)]
        simp [Bt, xJ, w1, w2, w3, c1, c2, c3, hk2, hk1, hk1l, hil, hill, hc, hnk]
  · rw [if_neg (fun h => c1 h.1)] at hkd
    subst hkd
    by_cases c4 : n ≤ k
    · rw [if_pos (.inl c4)]
      simp [Bt, xJ, w1, w2, w3, c1, c4]
    · have hkl : k < S.length := by omega
      have hkn : k < n := by omega
      have hil : i < n := by omega
      have hill : i < S.length := by omega
      by_cases c3 : rd S k < rd S i
      · rw [if_neg (by intro h; rcases h with h | h; exact c4 h; exact h c3)]
        simp [Bt, xJ, w1, w2, w3, c1, c3, c4, hkl, hkn, hil, hill, hc]
      · rw [if_pos (.inr c3)]
        simp [Bt, xJ, w1, w2, w3, c1, c3, c4, hkl, hkn, hil, hill, hc]
end
end Go.Proofs.YtkeoalhglkfbkaaDoor


namespace Hk.PQ
theorem abU {α:Type}{l:List α}{y:α}(h0:l≠[]) (hy:l[l.length - 1]?=some y):pop l=(l.set 0 y).take (l.length - 1):=by
 cases l with
 | nil=>exact absurd rfl h0
 | cons x r =>
  simp only [List.length_cons,Nat.add_sub_cancel] at hy
  have e:pop (x::r)=(match (x::r)[r.length]? with
   | some y=>((x::r).set 0 y).take r.length
   | none=>[]):=rfl
  rw [e,hy]
  rfl
end Hk.PQ
namespace Go.Proofs.YtkeoalhglkfbkaaDoor
open Go Hk
theorem axA {S:List Int}{n i:Nat}{x:Int}(hn:n≤S.length) (hn2:S.length≤1000000) (hi:i < n∨i=0) (h:PQ.DnI (fun x=>x) (S.take n) i) :
  ∃r,mQ (Bt KK 2) ([.ptr 0 0,.int .i64 0,.int .i64 x,.int .i64 (n:Int),.int .i64 (i:Int)],xJ [] S n)=some r ∧
   ∃(j:Nat) (S':List Int),r=(.ret,[.ptr 0 0,.int .i64 x,.int .i64 x,.int .i64 (n:Int),.int .i64 (j:Int)],xJ [] S' n)∧S'.length=S.length∧PQ.kU (fun x=>x) (S'.take n)∧(S'.take n).Perm (S.take n):=by
 refine Ju (fun s:List Int×Nat=>([.ptr 0 0,.int .i64 0,.int .i64 x,.int .i64 (n:Int),.int .i64 (s.2:Int)],xJ [] s.1 n)) (fun s=>s.1.length=S.length∧(s.2 < n∨s.2=0)∧PQ.DnI (fun x=>x) (s.1.take n) s.2∧(s.1.take n).Perm (S.take n)) (fun s=>n - s.2)
  (fun _ r=>∃(j:Nat) (S':List Int),r=(.ret,[.ptr 0 0,.int .i64 x,.int .i64 x,.int .i64 (n:Int),.int .i64 (j:Int)],xJ [] S' n)∧S'.length=S.length∧PQ.kU (fun x=>x) (S'.take n)∧(S'.take n).Perm (S.take n)) ?_ (S,i) ⟨rfl,hi,h,List.Perm.refl _⟩
 rintro⟨T,j⟩ ⟨hl,hj,hu,hp⟩
 simp only at hl hj hu hp ⊢
 have hs:=Sw (S:=T) (n:=n) (i:=j) (x:=x) (by omega) (by omega) hj
 simp only at hs
 have hlt:(T.take n).length=n:=by rw [List.length_take]; omega
 have hkg:∀m,m < n→PQ.kg (fun x=>x) (T.take n) m=rd T m:=fun m hm=>Nb (by omega) hm
 generalize hk:(if 2 * j+2 < n∧rd T (2 * j+2) < rd T (2 * j+1) then 2 * j+2 else 2 * j+1)=k at hs
 have hkmin:∀c,0 < c→c < n→(c - 1) / 2=j→k < n∧rd T k≤rd T c:=by
  intro c c0 cn cj
  rcases (show c=2 * j+1∨c=2 * j+2 by omega) with rfl | rfl
  ·rw [←hk]
   split
   ·rename_i hc; exact⟨hc.1,by omega⟩
   ·exact⟨cn,Int.le_refl _⟩
  ·rw [←hk]
   split
   ·exact⟨cn,Int.le_refl _⟩
   ·rename_i hc
    exact⟨by omega,by by_cases h2:rd T (2 * j+2) < rd T (2 * j+1); exact absurd ⟨cn,h2⟩ hc; omega⟩
 have hkj:(k - 1) / 2=j∧0 < k∧j < k:=by rw [←hk]; split <;> omega
 by_cases hc:n≤k∨¬rd T k < rd T j
 ·rw [if_pos hc] at hs
  refine .inr ⟨_,hs,by simp,j,T,rfl,hl,PQ.Zg hu fun c c0 cl cj=>?_,hp⟩
  rw [hlt] at cl
  obtain⟨h1,h2⟩:=hkmin c c0 cl cj
  rw [hkg _ (by omega),hkg _ cl]
  rcases hc with hc | hc <;> omega
 ·rw [if_neg hc] at hs
  have hkn:k < n:=by omega
  have hrd:rd T k < rd T j:=by
   by_cases h:rd T k < rd T j
   ·exact h
   ·exact absurd (.inr h) hc
  refine .inl ⟨((T.set j (rd T k)).set k (rd T j),k),hs,⟨by simp [hl],.inl hkn,?_,?_⟩,by simp only; omega,fun r hr=>hr⟩
  ·simp only
   rw [JM (by omega) (by omega) hkn]
   refine PQ.U0 hu (by rw [hlt]; omega) hkj.2.1 (by rw [hlt]; exact hkn) hkj.1 (fun c c0 cl cj=>?_) ?_
   ·rw [hlt] at cl
    rw [hkg _ hkn,hkg _ cl]; exact(hkmin c c0 cl cj).2
   ·rw [hkg _ hkn,hkg _ (by omega)]; exact hrd
  ·simp only
   rw [JM (by omega) (by omega) hkn]
   exact PQ.JK.trans hp
theorem b93 {S:List Int}{n:Nat}(hn:n+1≤S.length) (hl:S.length≤1000000) (hh:PQ.kU (fun x=>x) (S.take (n+1))) :
  ∃S',m93 KK (.ptr 0 0) (xJ [] S (n+1))=some (.ret (.int .i64 (rd S 0)),xJ [] S' n)∧S'.length=S.length∧PQ.kU (fun x=>x) (S'.take n)∧(rd S 0::S'.take n).Perm (S.take (n+1)):=by
 have hpop:PQ.pop (S.take (n+1))=(S.set 0 (rd S n)).take n:=by
  have e:(S.take (n+1)).length=n+1:=by rw [List.length_take]; omega
  rw [PQ.abU (y:=rd S n) (by intro h; rw [h] at e; simp at e) (by rw [e,Nat.add_sub_cancel,List.getElem?_take_of_lt (by omega),CJ (by omega)]),e,Nat.add_sub_cancel]
  rw [List.take_set,List.take_take,List.take_set]
  congr 1
  congr 1
  omega
 have hdn:=PQ.abT hh
 rw [hpop] at hdn
 obtain⟨r,hr,j,S',rfl,h1,h2,h3⟩:=axA (S:=S.set 0 (rd S n)) (n:=n) (i:=0) (x:=rd S 0) (by simp; omega) (by simpa using hl) (.inr rfl) hdn
 refine⟨S',?_,by simpa using h1,h2,?_⟩
 ·have hfin:mS 2 (xJ [] S' n)=some (xJ [] S' n):=MI NC rfl
  have w1:IntKind.i64.wrap (((n+1:Nat):Int) - 1)=(n:Int):=by rw [wrap64 (by omega) (by omega)]; omega
  have n0:((0:Nat):Int)=0:=rfl
  have h0l:0 < S.length:=by omega
  have hnl:n < S.length:=by omega
  simp only [xJ,n0,List.length_set] at hr hfin ⊢
  have w2:IntKind.i64.wrap (n:Int)=(n:Int):=by rw [wrap64 (by omega) (by omega)]
  have t0:zQ (n+1) 0=some 0:=by unfold zQ; rw [if_pos (by omega)]; rfl
  have hsl:nX 1 (.vslice 1 S.length 0 (n+1) 1) none (some (.int .i64 (n:Int)))=some (.vslice 1 S.length 0 n 1):=by
   simp [nX,pG]
  simp [m93,w2,t0,h0l,hnl,hsl]
  simp [hr]
 ·have hne:∃y r,S.take (n+1)=y::r:=by
   cases S with
   | nil=>simp at hn
   | cons y r=>exact⟨y,r.take n,rfl⟩
  obtain⟨y,r,hyr⟩:=hne
  have hy:y=rd S 0:=by
   have:(S.take (n+1))[0]?=some y:=by rw [hyr]; rfl
   rw [List.getElem?_take_of_lt (by omega),CJ (by omega)] at this
   exact(Option.some.inj this).symm
  have:=PQ.Rf (x:=y) (r:=r)
  rw [←hyr,hpop,hy] at this
  exact(List.Perm.cons _ h3).trans this
end Go.Proofs.YtkeoalhglkfbkaaDoor


namespace Go.Proofs.YtkeoalhglkfbkaaDoor
open Go Hk
structure rD where
 slot:Int
 last:Int
def rD.cells (x:rD):List kS:=[.int .i64 x.slot,.int .i64 x.last]
theorem rD.tI (x:rD):x.cells=[.int .i64 x.slot,.int .i64 x.last]:=(rfl)
attribute [simp] rD.tI
def xN (C:Hk.kU) (S:List rD) (n:Nat):Hk.kU:=.cells [.vslice 1 S.length 0 n 2,.func 90 [] []]::Vc rD.cells 2 S::C
def rt (S:List rD) (j:Nat):rD:=S.getD j ⟨0,0⟩
theorem DL {S:List rD}{j:Nat}(h:j < S.length):S[j]?=some (rt S j):=by unfold rt; rw [List.getD_eq_getElem?_getD,List.getElem?_eq_getElem h]; rfl
@[simp high] theorem aAx {c:mI}{C:Hk.kU}{S:List rD}{n j:Nat}{u v:Int}(h:S.length=n) (hj:j < n):lT 2 (c::Vc rD.cells 2 S::C) (.vptr 1 n (j * 2)) (.agg [.int .i64 u,.int .i64 v])=some (c::Vc rD.cells 2 (S.set j ⟨u,v⟩)::C):=by
 subst h
 have:=Fk (enc:=rD.cells) (sz:=2) (h:=c::Vc rD.cells 2 S::C) (id:=1) (tot:=S.length) (j:=j) (xs:=S) (v:=.agg [.int .i64 u,.int .i64 v]) ⟨u,v⟩ (fun _=>rfl) rfl (by omega) rfl rfl
 rw [this,sN,if_pos rfl,List.getElem?_eq_getElem hj,mE,AY,if_pos ⟨rfl,hj⟩]
 rfl
@[simp high] theorem aAv {c:mI}{C:Hk.kU}{S:List rD}{n j:Nat}(h:S.length=n) (hj:j < n):kW true 2 (c::Vc rD.cells 2 S::C) (.vptr 1 n (j * 2))=some (.agg [.int .i64 (rt S j).slot,.int .i64 (rt S j).last]):=by
 subst h
 rw [oC]
 have e:(c::Vc rD.cells 2 S::C:Hk.kU)[1]?=some (Vc rD.cells 2 S):=rfl
 rw [e,atO (enc:=rD.cells) (sz:=2) (fun _=>rfl) (by omega),sN,if_pos rfl,DL hj]
 rfl
theorem av7 {c:mI}{C:Hk.kU}{S:List rD}{n:Nat}{u v:Int}(h:S.length=n) (hj:0 < n):lT 2 (c::Vc rD.cells 2 S::C) (.vptr 1 n 0) (.agg [.int .i64 u,.int .i64 v])=some (c::Vc rD.cells 2 (S.set 0 ⟨u,v⟩)::C):=by
 have:=aAx (c:=c) (C:=C) (j:=0) (u:=u) (v:=v) h hj
 simpa using this
theorem av4 {c:mI}{C:Hk.kU}{S:List rD}{n:Nat}(h:S.length=n) (hj:0 < n):kW true 2 (c::Vc rD.cells 2 S::C) (.vptr 1 n 0)=some (.agg [.int .i64 (rt S 0).slot,.int .i64 (rt S 0).last]):=by
 have:=aAv (c:=c) (C:=C) (j:=0) h hj
 simpa using this
section
variable {C:Hk.kU}(hC:Still C) {S:List rD}{n i:Nat}
include hC
theorem MJ {m:Nat}(hm:C.length+2=m) {D:Hk.kU}:mS m (xN (C++D) S n)=some (xN C S n):=by
 have h1:(1:Nat) < m:=by omega
 have h2:nW m (xN (C++D) S n) C=some C:=hC _ _
 have e2:(xN (C++D) S n).take m=xN C S n:=by
  subst hm
  unfold xN
  simp
 rw [JO,e2]
 have e:∀C,xN C S n=.cells [.vslice 1 S.length 0 n 2,.func 90 [] []]::Vc rD.cells 2 S::C:=fun _=>rfl
 simp only [e] at h2 ⊢
 simp [h1,h2]
theorem c90 (a b:rD):KK 90 [.agg a.cells,.agg b.cells] (xN C S n)=some (.ret (.bool (decide (a.last < b.last))),xN C S n):=by
 refine mR (aq0 _ _ _ _) ?_
 have hl:(xN C S n).length=C.length+2:=rfl
 have hf:mX (xN C S n).length (.bool (decide (a.last < b.last))) (xN C S n++[.cells a.cells,.cells b.cells])=some (.ret (.bool (decide (a.last < b.last))),xN C S n):=by
  have ht:=MJ hC (S:=S) (n:=n) (m:=C.length+2) rfl (D:=[.cells a.cells,.cells b.cells])
  have e:xN C S n++[.cells a.cells,.cells b.cells]=xN (C++[.cells a.cells,.cells b.cells]) S n:=rfl
  rw [mX,hl,e,ht]; rfl
 generalize xN C S n=H at *
 have g1:∀x,(H++[x]:Hk.kU)[H.length]?=some x:=fun x=>by simp
 have g2:∀x y,(H++[x,y]:Hk.kU)[H.length]?=some x:=fun x y=>by simp
 have g3:∀x y,(H++[x,y]:Hk.kU)[H.length+1]?=some y:=fun x y=>by rw [List.getElem?_append_right (by omega)]; simp
 simp [m90,kW,nC,g1,g2,g3,List.append_assoc]
 simpa using hf
theorem aw5 (a b:rD):zV nA KK 90 (uS nA 90 [.agg [.int .i64 a.slot,.int .i64 a.last],.agg [.int .i64 b.slot,.int .i64 b.last]]) (xN C S n)=some (.ret (.bool (decide (a.last < b.last))),xN C S n):=c90 hC a b
theorem adI (hn:n≤S.length) (hn2:n≤1048576) (hi:i < n) (h0:0 < i) :
  FB KK (C.length+2) ([.ptr 0 0,.int .i64 (i:Int)],xN C S n)=(if (rt S i).last < (rt S ((i - 1) / 2)).last then some (.normal,[.ptr 0 0,.int .i64 (((i - 1) / 2:Nat):Int)],xN C ((S.set i (rt S ((i - 1) / 2))).set ((i - 1) / 2) (rt S i)) n) else some (.exit 0,[.ptr 0 0,.int .i64 (i:Int)],xN C S n)):=by
 have w1:IntKind.i64.wrap ((i:Int) - 1)=((i - 1:Nat):Int):=by rw [wrap64 (by omega) (by omega)]; omega
 have q1:XY .i64 ((i - 1:Nat):Int) 2=some (((i - 1) / 2:Nat):Int):=by
  unfold XY
  rw [if_neg (by omega),Int.tdiv_eq_ediv_of_nonneg (by omega)]
  have:((i - 1:Nat):Int) / 2=(((i - 1) / 2:Nat):Int):=by omega
  rw [this,wrap64 (by omega) (by omega)]
 have hpn:(i - 1) / 2 < n:=by omega
 have hil:i < S.length:=by omega
 have hpl:(i - 1) / 2 < S.length:=by omega
 generalize hp:(i - 1) / 2=p at *
 have hc:=fun n=>aw5 hC (S:=S) (n:=n) (rt S i) (rt S p)
 have hC2:∀m h,nW m h C=some C:=hC
 simp only [xN] at hc
 by_cases hlt:(rt S i).last < (rt S p).last
 ·rw [if_pos hlt]
  simp [FB,xN,w1,q1,h0,hi,hpn,hil,hpl,hc,hlt,hC2]
 ·rw [if_neg hlt]
  simp [FB,xN,w1,q1,h0,hi,hpn,hil,hpl,hc,hlt,hC2]
theorem adJ:FB KK (C.length+2) ([.ptr 0 0,.int .i64 0],xN C S n)=some (.exit 0,[.ptr 0 0,.int .i64 0],xN C S n):=by
 have hC2:∀m h,nW m h C=some C:=hC
 simp [FB,xN,hC2]
end
end Go.Proofs.YtkeoalhglkfbkaaDoor


namespace Go.Proofs.YtkeoalhglkfbkaaDoor
open Go Hk
theorem Nc {S:List rD}{n i:Nat}(hn:n≤S.length) (hi:i < n):PQ.kg rD.last (S.take n) i=(rt S i).last:=by
 have:(S.take n)[i]?=some (rt S i):=by rw [List.getElem?_take_of_lt hi,DL (by omega)]
 rw [PQ.U8 this]
theorem GS {S:List rD}{n i p:Nat}(hn:n≤S.length) (hi:i < n) (hp:p < n):((S.set i (rt S p)).set p (rt S i)).take n=PQ.sw (S.take n) i p:=by
 have h1:(S.take n)[i]?=some (rt S i):=by rw [List.getElem?_take_of_lt hi,DL (by omega)]
 have h2:(S.take n)[p]?=some (rt S p):=by rw [List.getElem?_take_of_lt hp,DL (by omega)]
 rw [PQ.acR h1 h2,List.take_set,List.take_set]
theorem up2 {C:Hk.kU}(hC:Still C) {S:List rD}{n i:Nat}(hn:n≤S.length) (hn2:n≤1048576) (h:PQ.UpI rD.last (S.take n) i) :
  ∃r,mQ (FB KK (C.length+2)) ([.ptr 0 0,.int .i64 (i:Int)],xN C S n)=some r ∧
   ∃(j:Nat) (S':List rD),r=(.exit 0,[.ptr 0 0,.int .i64 (j:Int)],xN C S' n)∧S'.length=S.length∧PQ.kU rD.last (S'.take n)∧(S'.take n).Perm (S.take n):=by
 refine Ju (fun s:List rD×Nat=>([.ptr 0 0,.int .i64 (s.2:Int)],xN C s.1 n)) (fun s=>s.1.length=S.length∧PQ.UpI rD.last (s.1.take n) s.2∧(s.1.take n).Perm (S.take n)) (fun s=>s.2)
  (fun _ r=>∃(j:Nat) (S':List rD),r=(.exit 0,[.ptr 0 0,.int .i64 (j:Int)],xN C S' n)∧S'.length=S.length∧PQ.kU rD.last (S'.take n)∧(S'.take n).Perm (S.take n)) ?_ (S,i) ⟨rfl,h,List.Perm.refl _⟩
 rintro⟨T,j⟩ ⟨hl,hu,hp⟩
 simp only at hl hu hp ⊢
 have hj:j < n:=by have:=hu.1; rw [List.length_take] at this; omega
 rcases Nat.eq_zero_or_pos j with h0 | h0
 ·subst h0
  refine .inr ⟨_,adJ hC,by simp,0,T,rfl,hl,PQ.PK hu (by omega),hp⟩
 ·have hs:=adI hC (S:=T) (n:=n) (i:=j) (by omega) hn2 hj h0
  have hpn:(j - 1) / 2 < n:=by omega
  by_cases hlt:(rt T j).last < (rt T ((j - 1) / 2)).last
  ·rw [if_pos hlt] at hs
   refine .inl ⟨(((T.set j (rt T ((j - 1) / 2))).set ((j - 1) / 2) (rt T j)),(j - 1) / 2),hs,⟨by simp [hl],?_,?_⟩,by simp only; omega,fun r hr=>hr⟩
   ·simp only
    rw [GS (by omega) hj hpn]
    exact PQ.Vw hu h0 (by rw [Nc (by omega) hj,Nc (by omega) hpn]; exact hlt)
   ·simp only
    rw [GS (by omega) hj hpn]
    exact PQ.JK.trans hp
  ·rw [if_neg hlt] at hs
   exact .inr ⟨_,hs,by simp,j,T,rfl,hl,PQ.PK hu (by rw [Nc (by omega) hj,Nc (by omega) hpn]; omega),hp⟩
def CT (z x:rD):Hk.kU:=[.cells z.cells,.cells x.cells]
theorem acN {z x:rD}:Still (CT z x):=fun m h=>by simp [CT]
section
variable {S:List rD}{n i:Nat}{x:rD}
theorem Sy (hn : n ≤ S.length) (hn2 : S.length ≤ 1000000) (hi : i < n ∨ i = 0) :
    let k := if 2 * i + 2 < n ∧ (rt S (2 * i + 2)).last < (rt S (2 * i + 1)).last then 2 * i + 2 else 2 * i + 1
    Bs KK 4 ([.ptr 0 0, .ptr 2 0, .ptr 3 0, .int .i64 (n : Int), .int .i64 (i : Int)], xN (CT ⟨0, 0⟩ x) S n) =
      (if n ≤ k ∨ ¬ (rt S k).last < (rt S i).last then some (.ret, [.ptr 0 0, .ptr 2 0, .ptr 3 0, .int .i64 (n : Int), .int .i64 (i : Int)], xN (CT x x) S n)
       else some (.normal, [.ptr 0 0, .ptr 2 0, .ptr 3 0, .int .i64 (n : Int), .int .i64 (k : Int)], xN (CT ⟨0, 0⟩ x) ((S.set i (rt S k)).set k (rt S i)) n)) := by
  intro k
  have w1 : IntKind.i64.wrap (2 * (i : Int)) = ((2 * i : Nat) : Int) := by rw [wrap64 (by omega) (by omega)]; omega
  have w2 : IntKind.i64.wrap (((2 * i : Nat) : Int) + 1) = ((2 * i + 1 : Nat) : Int) := by rw [wrap64 (by omega) (by omega)]; omega
  have w3 : IntKind.i64.wrap (((2 * i + 1 : Nat) : Int) + 1) = ((2 * i + 2 : Nat) : Int) := by rw [wrap64 (by omega) (by omega)]; omega
  have hc := fun a b => aw5 (acN (z := ⟨0, 0⟩) (x := x)) (S := S) (n := n) a b
  simp only [xN, CT, rD.tI] at hc ⊢
  have rest : ∀ k : Nat, k = 2 * i + 1 ∨ k = 2 * i + 2 ∧ k < n → True := fun _ _ => trivial
  have hkd : k = if 2 * i + 2 < n ∧ (rt S (2 * i + 2)).last < (rt S (2 * i + 1)).last then 2 * i + 2 else 2 * i + 1 := rfl
  clear_value k
  generalize h1 : 2 * i + 1 = k1 at *
  generalize h2 : 2 * i + 2 = k2 at *
  generalize h0 : 2 * i = k0 at *
  by_cases c1 : k2 < n
  · have hk2 : k2 < S.length := by omega
    have hk1 : k1 < n := by omega
    have hk1l : k1 < S.length := by omega
    have hil : i < n := by omega
    have hill : i < S.length := by omega
    by_cases c2 : (rt S k2).last < (rt S k1).last
    · rw [if_pos ⟨c1, c2⟩] at hkd
      subst hkd
      have hnk : ¬ n ≤ k := by omega
      by_cases c3 : (rt S k).last < (rt S i).last
      · rw [if_neg (by intro h; rcases h with h | h; exact hnk h; exact h c3)]
        simp [Bs, w1, w2, w3, c1, c2, c3, hk2, hk1, hk1l, hil, hill, hc, hnk]
      · rw [if_pos (.inr c3)]
        simp [Bs, w1, w2, w3, c1, c2, c3, hk2, hk1, hk1l, hil, hill, hc, hnk]
    · rw [if_neg (fun h => c2 h.2)] at hkd
      subst hkd
      have hnk : ¬ n ≤ k := by omega
      by_cases c3 : (rt S k).last < (rt S i).last
      · rw [if_neg (by intro h; rcases h with h | h; exact hnk h; exact h c3)]
        simp [Bs, w1, w2, w3, c1, c2, c3, hk2, hk1, hk1l, hil, hill, hc, hnk]
      · rw [if_pos (.inr c3)]
        simp [Bs, w1, w2, w3, c1, c2, c3, hk2, hk1, hk1l, hil, hill, hc, hnk]
  · rw [if_neg (fun h => c1 h.1)] at hkd
    subst hkd
    by_cases c4 : n ≤ k
    · rw [if_pos (.inl c4)]
      simp [Bs, w1, w2, w3, c1, c4]
    · have hkl : k < S.length := by omega
      have hkn : k < n := by omega
      have hil : i < n := by omega
      have hill : i < S.length := by omega
      by_cases c3 : (rt S k).last < (rt S i).last
      · rw [if_neg (by intro h; rcases h with h | h; exact c4 h; exact h c3)]
        simp [Bs, w1, w2, w3, c1, c3, c4, hkl, hkn, hil, hill, hc]
      · rw [if_pos (.inr c3)]
        simp [Bs, w1, w2, w3, c1, c3, c4, hkl, hkn, hil, hill, hc]
end
theorem axB {S:List rD}{n i:Nat}{x:rD}(hn:n≤S.length) (hn2:S.length≤1000000) (hi:i < n∨i=0) (h:PQ.DnI rD.last (S.take n) i) :
  ∃r,mQ (Bs KK 4) ([.ptr 0 0,.ptr 2 0,.ptr 3 0,.int .i64 (n:Int),.int .i64 (i:Int)],xN (CT ⟨0,0⟩ x) S n)=some r ∧
   ∃(j:Nat) (S':List rD),r=(.ret,[.ptr 0 0,.ptr 2 0,.ptr 3 0,.int .i64 (n:Int),.int .i64 (j:Int)],xN (CT x x) S' n)∧S'.length=S.length∧PQ.kU rD.last (S'.take n)∧(S'.take n).Perm (S.take n):=by
 refine Ju (fun s:List rD×Nat=>([.ptr 0 0,.ptr 2 0,.ptr 3 0,.int .i64 (n:Int),.int .i64 (s.2:Int)],xN (CT ⟨0,0⟩ x) s.1 n)) (fun s=>s.1.length=S.length∧(s.2 < n∨s.2=0)∧PQ.DnI rD.last (s.1.take n) s.2∧(s.1.take n).Perm (S.take n)) (fun s=>n - s.2)
  (fun _ r=>∃(j:Nat) (S':List rD),r=(.ret,[.ptr 0 0,.ptr 2 0,.ptr 3 0,.int .i64 (n:Int),.int .i64 (j:Int)],xN (CT x x) S' n)∧S'.length=S.length∧PQ.kU rD.last (S'.take n)∧(S'.take n).Perm (S.take n)) ?_ (S,i) ⟨rfl,hi,h,List.Perm.refl _⟩
 rintro⟨T,j⟩ ⟨hl,hj,hu,hp⟩
 simp only at hl hj hu hp ⊢
 have hs:=Sy (S:=T) (n:=n) (i:=j) (x:=x) (by omega) (by omega) hj
 simp only at hs
 have hlt:(T.take n).length=n:=by rw [List.length_take]; omega
 have hkg:∀m,m < n→PQ.kg rD.last (T.take n) m=(rt T m).last:=fun m hm=>Nc (by omega) hm
 generalize hk:(if 2 * j+2 < n∧(rt T (2 * j+2)).last < (rt T (2 * j+1)).last then 2 * j+2 else 2 * j+1)=k at hs
 have hkmin:∀c,0 < c→c < n→(c - 1) / 2=j→k < n∧(rt T k).last≤(rt T c).last:=by
  intro c c0 cn cj
  rcases (show c=2 * j+1∨c=2 * j+2 by omega) with rfl | rfl
  ·rw [←hk]
   split
   ·rename_i hc; exact⟨hc.1,by omega⟩
   ·exact⟨cn,Int.le_refl _⟩
  ·rw [←hk]
   split
   ·exact⟨cn,Int.le_refl _⟩
   ·rename_i hc
    exact⟨by omega,by by_cases h2:(rt T (2 * j+2)).last < (rt T (2 * j+1)).last; exact absurd ⟨cn,h2⟩ hc; omega⟩
 have hkj:(k - 1) / 2=j∧0 < k∧j < k:=by rw [←hk]; split <;> omega
 by_cases hc:n≤k∨¬(rt T k).last < (rt T j).last
 ·rw [if_pos hc] at hs
  refine .inr ⟨_,hs,by simp,j,T,rfl,hl,PQ.Zg hu fun c c0 cl cj=>?_,hp⟩
  rw [hlt] at cl
  obtain⟨h1,h2⟩:=hkmin c c0 cl cj
  rw [hkg _ (by omega),hkg _ cl]
  rcases hc with hc | hc <;> omega
 ·rw [if_neg hc] at hs
  have hkn:k < n:=by omega
  have hrd:(rt T k).last < (rt T j).last:=by
   by_cases h:(rt T k).last < (rt T j).last
   ·exact h
   ·exact absurd (.inr h) hc
  refine .inl ⟨((T.set j (rt T k)).set k (rt T j),k),hs,⟨by simp [hl],.inl hkn,?_,?_⟩,by simp only; omega,fun r hr=>hr⟩
  ·simp only
   rw [GS (by omega) (by omega) hkn]
   refine PQ.U0 hu (by rw [hlt]; omega) hkj.2.1 (by rw [hlt]; exact hkn) hkj.1 (fun c c0 cl cj=>?_) ?_
   ·rw [hlt] at cl
    rw [hkg _ hkn,hkg _ cl]; exact(hkmin c c0 cl cj).2
   ·rw [hkg _ hkn,hkg _ (by omega)]; exact hrd
  ·simp only
   rw [GS (by omega) (by omega) hkn]
   exact PQ.JK.trans hp
end Go.Proofs.YtkeoalhglkfbkaaDoor


namespace Go.Proofs.YtkeoalhglkfbkaaDoor
open Go Hk
def HQn (S:List rD) (n:Nat):Hk.kU:=if S=[] then [.cells [.slice [] (.own 1),.func 90 [] []],.front 0 0] else xN [] S n
theorem acM {x:rD}:Still [.cells x.cells,.front 1 2]:=fun m h=>by simp
theorem b94 {S:List rD}{n:Nat}(x:rD) (hn:n≤S.length) (hl:S.length≤1000000) (hh:PQ.kU rD.last (S.take n)) :
  ∃S',m94 KK (.ptr 0 0) (.agg x.cells) (HQn S n)=some (.ret (.tuple []),xN [] S' (n+1))∧n+1≤S'.length∧S'.length≤max S.length (n+1)∧PQ.kU rD.last (S'.take (n+1))∧(S'.take (n+1)).Perm (x::S.take n):=by
 let T:=S.take n++[x]++S.drop (n+1)
 have hT:T=S.take n++[x]++S.drop (n+1):=rfl
 have hTl:T.length=max S.length (n+1):=by rw [hT]; simp; omega
 have hTt:T.take (n+1)=S.take n++[x]:=by
  rw [hT]
  have:(S.take n++[x]).length=n+1:=by simp; omega
  rw [←this,List.take_left]
 have hup:PQ.UpI rD.last (T.take (n+1)) n:=by
  rw [hTt]
  have:=PQ.Vv (key:=rD.last) (x:=x) hh
  rwa [show(S.take n).length=n by simp; omega] at this
 obtain⟨r,hr,j,S',rfl,h1,h2,h3⟩:=up2 (C:=[.cells x.cells,.front 1 2]) acM (by omega) (by omega) hup
 refine⟨S',?_,by omega,by omega,h2,h3.trans ?_⟩
 ·have hfin:mS 2 (xN [.cells x.cells,.front 1 2] S' (n+1))=some (xN [] S' (n+1)):=by
   rw [JO]
   simp [xN]
  have hdn:T.drop (n+1)=S.drop (n+1):=by
   rw [hT]
   have:(S.take n++[x]).length=n+1:=by simp; omega
   rw [←this,List.drop_left]
  by_cases h0:S=[]
  ·subst h0
   have hn0:n=0:=by simpa using hn
   subst hn0
   have hT1:T=[x]:=rfl
   rw [hT1] at hr
   have e1:xN [.cells x.cells,.front 1 2] [x] 1=[.cells [.vslice 1 1 0 1 2,.func 90 [] []],.vec 1 2 [.int .i64 x.slot,.int .i64 x.last],.cells [.int .i64 x.slot,.int .i64 x.last],.front 1 2]:=rfl
   have wz:IntKind.i64.wrap 0=0:=by decide
   have n0:((0:Nat):Int)=0:=rfl
   rw [Nat.zero_add,e1,n0] at hr
   simp only [xN,rD.tI,List.length_cons,List.length_nil,Nat.reduceAdd] at hr ⊢
   simp only [HQn,if_true]
   simp [m94,mY,zG,rG,oA,uT,sD,lU,pD,nB,kS.uV,rowsOf,nJ,wz]
   simp [hr]
  ·simp only [HQn,h0,if_false]
   have ha:=J6 (enc:=rD.cells) (sz:=2) (by_:=16) (h:=xN [] S n++[.cells x.cells,.front 1 2]) (id:=1) (tot:=S.length) (n:=n) (xs:=S) (ys:=[x]) (T:=.own 3) (fun _=>rfl) (by omega) rfl hn (by simp)
   have hva:tva 16 S.length n S [x]=some T:=by
    unfold tva
    rw [if_pos ⟨rfl,hn,by simp; omega,by simp; omega⟩]
    rfl
   rw [hva,yS] at ha
   have eR:Rw rD.cells [x]=[[.int .i64 x.slot,.int .i64 x.last]]:=rfl
   have eH:(xN [] S n++[.cells x.cells,.front 1 2]:Hk.kU).set 1 (Vc rD.cells 2 T)=[.cells [.vslice 1 S.length 0 n 2,.func 90 [] []],Vc rD.cells 2 T,.cells [.int .i64 x.slot,.int .i64 x.last],.front 1 2]:=rfl
   have eH2:(xN [] S n++[.cells x.cells,.front 1 2]:Hk.kU)=[.cells [.vslice 1 S.length 0 n 2,.func 90 [] []],Vc rD.cells 2 S,.cells [.int .i64 x.slot,.int .i64 x.last],.front 1 2]:=rfl
   rw [eH,eH2,eR] at ha
   have w1:IntKind.i64.wrap (n:Int)=(n:Int):=by rw [wrap64 (by omega) (by omega)]
   simp only [xN,rD.tI,List.length_cons,List.length_nil,Nat.reduceAdd] at hr ha ⊢
   simp [m94,mY,zG,rG,oA,uT,sD,lU,pD,nB,kS.uV,rowsOf]
   rw [ha]
   simp [w1]
   simp [hr]
 ·rw [hTt]
  exact List.perm_append_comm
theorem b92 {S:List rD}{n:Nat}(hn:n+1≤S.length) (hl:S.length≤1000000) (hh:PQ.kU rD.last (S.take (n+1))) :
  ∃S',m92 KK (.ptr 0 0) (xN [] S (n+1))=some (.ret (.agg (rt S 0).cells),xN [] S' n)∧S'.length=S.length∧PQ.kU rD.last (S'.take n)∧(rt S 0::S'.take n).Perm (S.take (n+1)):=by
 have hpop:PQ.pop (S.take (n+1))=(S.set 0 (rt S n)).take n:=by
  have e:(S.take (n+1)).length=n+1:=by rw [List.length_take]; omega
  rw [PQ.abU (y:=rt S n) (by intro h; rw [h] at e; simp at e) (by rw [e,Nat.add_sub_cancel,List.getElem?_take_of_lt (by omega),DL (by omega)]),e,Nat.add_sub_cancel]
  rw [List.take_set,List.take_take,List.take_set]
  congr 1
  congr 1
  omega
 have hdn:=PQ.abT hh
 rw [hpop] at hdn
 obtain⟨r,hr,j,S',rfl,h1,h2,h3⟩:=axB (S:=S.set 0 (rt S n)) (n:=n) (i:=0) (x:=rt S 0) (by simp; omega) (by simpa using hl) (.inr rfl) hdn
 refine⟨S',?_,by simpa using h1,h2,?_⟩
 ·have hfin:mS 2 (xN (CT (rt S 0) (rt S 0)) S' n)=some (xN [] S' n):=MJ (C:=[]) (fun _ _=>rfl) rfl
  have w1:IntKind.i64.wrap (((n+1:Nat):Int) - 1)=(n:Int):=by rw [wrap64 (by omega) (by omega)]; omega
  have n0:((0:Nat):Int)=0:=rfl
  have h0l:0 < S.length:=by omega
  have hnl:n < S.length:=by omega
  simp only [xN,CT,rD.tI,n0,List.length_set] at hr hfin ⊢
  have w2:IntKind.i64.wrap (n:Int)=(n:Int):=by rw [wrap64 (by omega) (by omega)]
  have t0:zQ (n+1) 0=some 0:=by unfold zQ; rw [if_pos (by omega)]; rfl
  have hsl:nX 2 (.vslice 1 S.length 0 (n+1) 2) none (some (.int .i64 (n:Int)))=some (.vslice 1 S.length 0 n 2):=by
   simp [nX,pG]
  have l0:∀(c:mI) C,kW true 2 (c::Vc rD.cells 2 S::C) (.vptr 1 S.length 0)=some (.agg [.int .i64 (rt S 0).slot,.int .i64 (rt S 0).last]):=fun c C=>av4 rfl h0l
  have s0:∀(c:mI) C u v,lT 2 (c::Vc rD.cells 2 S::C) (.vptr 1 S.length 0) (.agg [.int .i64 u,.int .i64 v])=some (c::Vc rD.cells 2 (S.set 0 ⟨u,v⟩)::C):=fun c C u v=>av7 rfl h0l
  have eta:∀y:rD,(⟨y.slot,y.last⟩:rD)=y:=fun _=>rfl
  simp [m92,w2,t0,h0l,hnl,hsl,l0,s0,eta]
  simp [hr]
 ·have hne:∃y r,S.take (n+1)=y::r:=by
   cases S with
   | nil=>simp at hn
   | cons y r=>exact⟨y,r.take n,rfl⟩
  obtain⟨y,r,hyr⟩:=hne
  have hy:y=rt S 0:=by
   have:(S.take (n+1))[0]?=some y:=by rw [hyr]; rfl
   rw [List.getElem?_take_of_lt (by omega),DL (by omega)] at this
   exact(Option.some.inj this).symm
  have:=PQ.Rf (x:=y) (r:=r)
  rw [←hyr,hpop,hy] at this
  exact(List.Perm.cons _ h3).trans this
end Go.Proofs.YtkeoalhglkfbkaaDoor


namespace Go.Proofs.YtkeoalhglkfbkaaDoor
open Go Hk
def FC (id:Nat) (S:List Int) (n:Nat):mI:=if S=[] then .cells [.slice [] (.own id),.func 89 [] []] else .cells [.vslice id S.length 0 n 1,.func 89 [] []]
def FV (S:List Int):mI:=if S=[] then .front 0 0 else Vc (ci .i64) 1 S
def UC (id:Nat) (S:List rD) (n:Nat):mI:=if S=[] then .cells [.slice [] (.own id),.func 90 [] []] else .cells [.vslice id S.length 0 n 2,.func 90 [] []]
def UV (S:List rD):mI:=if S=[] then .front 0 0 else Vc rD.cells 2 S
theorem Ym (S:List Int) (n:Nat):HPn S n=[FC 1 S n,FV S]:=by unfold HPn FC FV; split <;> rfl
theorem Yn (S:List rD) (n:Nat):HQn S n=[UC 1 S n,UV S]:=by unfold HQn UC UV; split <;> rfl
theorem RW {S:List Int}{n:Nat}(h:S≠[]):xJ [] S n=[FC 1 S n,FV S]:=by rw [←Ym,HPn,if_neg h]
theorem RX {S:List rD}{n:Nat}(h:S≠[]):xN [] S n=[UC 1 S n,UV S]:=by rw [←Yn,HQn,if_neg h]
section
variable {id:Nat}{S:List Int}{U:List rD}{n:Nat}
theorem UD:(FC id S n).refs=[id]:=by unfold FC; split <;> rfl
theorem UR:(UC id U n).refs=[id]:=by unfold UC; split <;> rfl
theorem UF:(FV S).refs=[]:=by
 unfold FV; split
 ·rfl
 ·exact Pt (fun _=>rfl)
theorem UT:(UV U).refs=[]:=by
 unfold UV; split
 ·rfl
 ·exact Pt (fun _=>rfl)
theorem UB {p:Nat→Bool}(h:p id=true):(FC id S n).ok p=true:=by unfold FC; split <;> simp [mI.ok,kS.Nn,xR,h]
theorem UQ {p:Nat→Bool}(h:p id=true):(UC id U n).ok p=true:=by unfold UC; split <;> simp [mI.ok,kS.Nn,xR,h]
theorem UE {p:Nat→Bool}:(FV S).ok p=true:=by
 unfold FV; split
 ·rfl
 ·exact abO (fun _=>rfl)
theorem US {p:Nat→Bool}:(UV U).ok p=true:=by
 unfold UV; split
 ·rfl
 ·exact abO (fun _=>rfl)
theorem NT {f:Nat→Nat}:(FC id S n).y9 f=FC (f id) S n:=by unfold FC; split <;> rfl
theorem NZ {f:Nat→Nat}:(UC id U n).y9 f=UC (f id) U n:=by unfold UC; split <;> rfl
theorem NU {f:Nat→Nat}:(FV S).y9 f=FV S:=by
 unfold FV; split
 ·rfl
 ·exact Ub (fun _=>rfl)
theorem N2 {f:Nat→Nat}:(UV U).y9 f=UV U:=by
 unfold UV; split
 ·rfl
 ·exact Ub (fun _=>rfl)
end
section
variable {b0 b1 b2 b3 b4 b5 b8 b9:mI}{S:List Int}{U:List rD}{n:Nat}
theorem c91 (x:Int) (hn:n≤S.length) (hl:S.length≤1000000) (hh:PQ.kU (fun x=>x) (S.take n)) :
  ∃S',KK 91 [.ptr 6 0,.int .i64 x] [b0,b1,b2,b3,b4,b5,FC 7 S n,FV S,b8,b9]=some (.ret (.tuple []),[b0,b1,b2,b3,b4,b5,FC 7 S' (n+1),FV S',b8,b9]) ∧
   n+1≤S'.length∧S'.length≤max S.length (n+1)∧PQ.kU (fun x=>x) (S'.take (n+1))∧(S'.take (n+1)).Perm (x::S.take n):=by
 obtain⟨S',h1,h2,h3⟩:=b91 x hn hl hh
 refine⟨S',?_,h2,h3⟩
 rw [Ym,RW (by intro h; rw [h] at h2; simp at h2)] at h1
 have:=xT (P:=Tryd.prog) (A:=nA) (f:=91) (args:=[.ptr 6 0,.int .i64 x]) (args':=[.ptr 0 0,.int .i64 x]) (h:=[b0,b1,b2,b3,b4,b5,FC 7 S n,FV S,b8,b9]) (hs:=[FC 1 S n,FV S]) (ids:=[6,7]) (x:=some ()) (v:=fun _=>.tuple []) (v':=fun _=>.tuple [])
  (h1:=fun _=>[FC 1 S' (n+1),FV S']) (h2:=fun _=>[b0,b1,b2,b3,b4,b5,FC 7 S' (n+1),FV S',b8,b9]) rfl rfl ?_ ?_ rfl ?_ (aq1 ..) h1 fun _=>?_
 ·exact this
 ·simp [UD,UF]
 ·simp [UB,UE]
 ·simp [NT,NU]
 ·simp [UB,UE,NT,NU]
theorem c93 (hn:n+1≤S.length) (hl:S.length≤1000000) (hh:PQ.kU (fun x=>x) (S.take (n+1))) :
  ∃S',KK 93 [.ptr 6 0] [b0,b1,b2,b3,b4,b5,FC 7 S (n+1),FV S,b8,b9]=some (.ret (.int .i64 (rd S 0)),[b0,b1,b2,b3,b4,b5,FC 7 S' n,FV S',b8,b9]) ∧
   S'.length=S.length∧PQ.kU (fun x=>x) (S'.take n)∧(rd S 0::S'.take n).Perm (S.take (n+1)):=by
 obtain⟨S',h1,h2,h3⟩:=b93 hn hl hh
 refine⟨S',?_,h2,h3⟩
 rw [RW (by intro h; rw [h] at hn; simp at hn),RW (by intro h; rw [h] at h2; simp at h2; omega)] at h1
 have:=xT (P:=Tryd.prog) (A:=nA) (f:=93) (args:=[.ptr 6 0]) (args':=[.ptr 0 0]) (h:=[b0,b1,b2,b3,b4,b5,FC 7 S (n+1),FV S,b8,b9]) (hs:=[FC 1 S (n+1),FV S]) (ids:=[6,7]) (x:=some ()) (v:=fun _=>.int .i64 (rd S 0)) (v':=fun _=>.int .i64 (rd S 0))
  (h1:=fun _=>[FC 1 S' n,FV S']) (h2:=fun _=>[b0,b1,b2,b3,b4,b5,FC 7 S' n,FV S',b8,b9]) rfl rfl ?_ ?_ rfl ?_ (aq3 ..) h1 fun _=>?_
 ·exact this
 ·simp [UD,UF]
 ·simp [UB,UE]
 ·simp [NT,NU]
 ·simp [UB,UE,NT,NU]
theorem c94 (x:rD) (hn:n≤U.length) (hl:U.length≤1000000) (hh:PQ.kU rD.last (U.take n)) :
  ∃S',KK 94 [.ptr 8 0,.agg [.int .i64 x.slot,.int .i64 x.last]] [b0,b1,b2,b3,b4,b5,b8,b9,UC 9 U n,UV U]=some (.ret (.tuple []),[b0,b1,b2,b3,b4,b5,b8,b9,UC 9 S' (n+1),UV S']) ∧
   n+1≤S'.length∧S'.length≤max U.length (n+1)∧PQ.kU rD.last (S'.take (n+1))∧(S'.take (n+1)).Perm (x::U.take n):=by
 obtain⟨S',h1,h2,h3⟩:=b94 x hn hl hh
 refine⟨S',?_,h2,h3⟩
 rw [Yn,RX (by intro h; rw [h] at h2; simp at h2)] at h1
 have:=xT (P:=Tryd.prog) (A:=nA) (f:=94) (args:=[.ptr 8 0,.agg [.int .i64 x.slot,.int .i64 x.last]]) (args':=[.ptr 0 0,.agg x.cells]) (h:=[b0,b1,b2,b3,b4,b5,b8,b9,UC 9 U n,UV U]) (hs:=[UC 1 U n,UV U]) (ids:=[8,9]) (x:=some ()) (v:=fun _=>.tuple []) (v':=fun _=>.tuple [])
  (h1:=fun _=>[UC 1 S' (n+1),UV S']) (h2:=fun _=>[b0,b1,b2,b3,b4,b5,b8,b9,UC 9 S' (n+1),UV S']) rfl rfl ?_ ?_ rfl ?_ (aq4 ..) h1 fun _=>?_
 ·exact this
 ·simp [UR,UT]
 ·simp [UQ,US]
 ·simp [NZ,N2]
 ·simp [UQ,US,NZ,N2]
theorem c92 (hn:n+1≤U.length) (hl:U.length≤1000000) (hh:PQ.kU rD.last (U.take (n+1))) :
  ∃S',KK 92 [.ptr 8 0] [b0,b1,b2,b3,b4,b5,b8,b9,UC 9 U (n+1),UV U]=some (.ret (.agg [.int .i64 (rt U 0).slot,.int .i64 (rt U 0).last]),[b0,b1,b2,b3,b4,b5,b8,b9,UC 9 S' n,UV S']) ∧
   S'.length=U.length∧PQ.kU rD.last (S'.take n)∧(rt U 0::S'.take n).Perm (U.take (n+1)):=by
 obtain⟨S',h1,h2,h3⟩:=b92 hn hl hh
 refine⟨S',?_,h2,h3⟩
 rw [RX (by intro h; rw [h] at hn; simp at hn),RX (by intro h; rw [h] at h2; simp at h2; omega)] at h1
 have:=xT (P:=Tryd.prog) (A:=nA) (f:=92) (args:=[.ptr 8 0]) (args':=[.ptr 0 0]) (h:=[b0,b1,b2,b3,b4,b5,b8,b9,UC 9 U (n+1),UV U]) (hs:=[UC 1 U (n+1),UV U]) (ids:=[8,9]) (x:=some ()) (v:=fun _=>.agg (rt U 0).cells) (v':=fun _=>.agg (rt U 0).cells)
  (h1:=fun _=>[UC 1 S' n,UV S']) (h2:=fun _=>[b0,b1,b2,b3,b4,b5,b8,b9,UC 9 S' n,UV S']) rfl rfl ?_ ?_ rfl ?_ (aq2 ..) h1 fun _=>?_
 ·exact this
 ·simp [UR,UT]
 ·simp [UQ,US]
 ·simp [NZ,N2]
 ·simp [UQ,US,NZ,N2]
end
end Go.Proofs.YtkeoalhglkfbkaaDoor
