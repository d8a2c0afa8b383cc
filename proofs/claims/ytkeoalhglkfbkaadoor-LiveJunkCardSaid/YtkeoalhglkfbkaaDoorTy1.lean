/-
  The texts TY.T1, TY.T2, TY.P1, TY.P2, TY.P3, TY.C2, TY.Q2, TY.Q3, TY.H7, TY.H8, TY.H9, TY.H10, TY.H11, TY.H12, TY.H13, TY.T3, TY.P5, TY.P6, TY.P7, TY.P8, TY.P9, TY.P10, TY.P11, TY.T4, TY.P12, TY.T5, TY.P13, TY.P14, TY.P15, TY.R24, TY.R25, TY.R26, TY.R27, TY.R30, TY.R31, TY.R32, TY.W17, one behind another. No conditions.
-/
import Derived.Test.YtkeoalhglkfbkaaDoorTyr1
import Derived.Test.YtkeoalhglkfbkaaDoorIx1
import Derived.Test.YtkeoalhglkfbkaaDoorTyh1
import Derived.Test.YtkeoalhglkfbkaaDoorIxu1
import Derived.Test.YtkeoalhglkfbkaaDoorIxa1
set_option linter.unusedVariables false
set_option linter.unusedSimpArgs false
set_option linter.unusedSectionVars false
set_option linter.all false

namespace Go.Proofs.YtkeoalhglkfbkaaDoor
open Go Hk
end Go.Proofs.YtkeoalhglkfbkaaDoor


namespace Go.Proofs.YtkeoalhglkfbkaaDoor
open Go Hk
end Go.Proofs.YtkeoalhglkfbkaaDoor


namespace Go.Proofs.YtkeoalhglkfbkaaDoor
open Go Hk
end Go.Proofs.YtkeoalhglkfbkaaDoor


namespace Go.Proofs.YtkeoalhglkfbkaaDoor
open Go Hk
section
variable {l L us:List Int}{j:Nat}{e m t:Int}
end
section
variable {l:List Int}
end
end Go.Proofs.YtkeoalhglkfbkaaDoor


namespace Go.Proofs.YtkeoalhglkfbkaaDoor
open Go Hk
section
variable {l:List Int}
end
end Go.Proofs.YtkeoalhglkfbkaaDoor


namespace Go.Proofs.YtkeoalhglkfbkaaDoor
open Go Hk
end Go.Proofs.YtkeoalhglkfbkaaDoor


namespace Hk.PS
variable {e:Nat→Int}
end Hk.PS


namespace Hk.PS
variable {f e:Nat→Int}
end Hk.PS


namespace Go.Proofs.YtkeoalhglkfbkaaDoor
open Go Hk
@[simp high] theorem aAy {b0 b1 b2 b3:mI}{R:Hk.kU}{O:List Int}{k:Nat}{v:Int}(hk:k < O.length):lT 1 (b0::b1::b2::b3::.cells (O.map nO)::R) (.ptr 4 k) (.int .i64 v)=some (b0::b1::b2::b3::.cells ((O.set k v).map nO)::R):=by
 have hc:∃x,O[k]?=some x:=⟨_,List.getElem?_eq_getElem hk⟩
 have hd:∃y r,(O.map nO).drop k=y::r∧qI (b0::b1::b2::b3::.cells (O.map nO)::R) y (.int .i64 v)=.int .i64 v:=by
  rw [List.drop_eq_getElem_cons (by simpa using hk)]
  exact⟨_,_,rfl,rfl⟩
 obtain⟨y,r,hd,hk2⟩:=hd
 have e:pV (b0::b1::b2::b3::.cells (O.map nO)::R) ((O.map nO).drop k) [.int .i64 v]=[.int .i64 v]:=by
  rw [hd]; simp only [pV,hk2]
 have g:nC (b0::b1::b2::b3::.cells (O.map nO)::R) 4=some (O.map nO):=rfl
 unfold lT
 simp only [g,kS.cells,e]
 rw [if_pos (by simp [kS.mV]; omega)]
 congr 1
 have:putCells (O.map nO) k [.int .i64 v]=(O.set k v).map nO:=by
  unfold putCells
  rw [List.map_set,List.set_eq_take_append_cons_drop,if_pos (by simpa using hk)]
  simp [nO]
 rw [this]; rfl
@[simp high] theorem aAw {b0 b1 b2 b3:mI}{R:Hk.kU}{O:List Int}{k:Nat}(hk:k < O.length):kW false 1 (b0::b1::b2::b3::.cells (O.map nO)::R) (.ptr 4 k)=some (.int .i64 (rd O k)):=by
 have g:nC (b0::b1::b2::b3::.cells (O.map nO)::R) 4=some (O.map nO):=rfl
 unfold kW
 simp only [g,apart,cond_false,List.getElem?_map,CJ hk]
 rfl
@[simp] theorem avB {m:Nat}{h:Hk.kU}{o:List Int}:oQ m h (Vb (ci .i64) 1 o)=some (Vb (ci .i64) 1 o):=by
 unfold Vb; split
 ·rfl
 ·exact Cd (fun x=>by simp)
@[simp] theorem aAh {m n:Nat}{h:Hk.kU}(hm:5 < m):kS.oL m h (Vs 5 1 n)=Vs 5 1 n:=by
 unfold Vs; split
 ·simp [kS.oL,kS.oH,hm]
 ·simp [kS.oL,kS.oH,hm]
@[simp] theorem aeI {m:Nat}{h:Hk.kU}{O:List Int}:m_ m h (O.map nO)=some (O.map nO):=by
 induction O with
 | nil=>rfl
 | cons x r ih=>simp only [List.map_cons,qM,ih]; rfl
@[simp] theorem aCc {m id off len sz:Nat}{h:Hk.kU}(hm:id < m):kS.oL m h (.mslice id off len sz)=.mslice id off len sz:=by simp [kS.oL,kS.oH,hm]
section
variable {p:List kS}{sp:List Span}{n k:Nat}
end
end Go.Proofs.YtkeoalhglkfbkaaDoor


namespace Go.Proofs.YtkeoalhglkfbkaaDoor
open Go Hk
section
variable {id m:Nat}{S:List Int}{U:List rD}{n:Nat}{h:Hk.kU}
@[simp] theorem au9:oQ m h (FV S)=some (FV S):=by
 unfold FV; split
 ·rfl
 ·exact Cd (fun x=>by simp)
@[simp] theorem avA:oQ m h (UV U)=some (UV U):=by
 unfold UV; split
 ·rfl
 ·exact Cd (fun x=>by simp)
end
section
variable {p:List kS}(hp:∀m h,m_ m h p=some p) {sp:List Span}{O o SF:List Int}{nF nU N t k ns:Nat}{SU:List rD}{s:Span}
include hp
end
end Go.Proofs.YtkeoalhglkfbkaaDoor


namespace Go.Proofs.YtkeoalhglkfbkaaDoor
open Go Hk
section
variable {p:List kS}(hp:∀m h,m_ m h p=some p) {sp:List Span}{O o:List Int}{N t k ns:Nat}{s:Span}{e:Nat→Int}{ps:List (Nat×Nat)}
include hp
end
end Go.Proofs.YtkeoalhglkfbkaaDoor


namespace Go.Proofs.YtkeoalhglkfbkaaDoor
open Go Hk
section
variable {p:List kS}(hp:∀m h,m_ m h p=some p) {sp:List Span}{O o:List Int}{N t k ns nF nU:Nat}{SF:List Int}{SU:List rD}{s:Span}{e:Nat→Int}{ps:List (Nat×Nat)}{cur:Int}
include hp
end
end Go.Proofs.YtkeoalhglkfbkaaDoor


namespace Go.Proofs.YtkeoalhglkfbkaaDoor
open Go Hk
section
variable {p:List kS}(hp:∀m h,m_ m h p=some p) {sp:List Span}{n:Nat}
include hp
end
end Go.Proofs.YtkeoalhglkfbkaaDoor


namespace Go.Proofs.YtkeoalhglkfbkaaDoor
open Go Hk
section
variable {p:List kS}(hp:∀m h,m_ m h p=some p) {sp:List Span}{n:Nat}
include hp
end
end Go.Proofs.YtkeoalhglkfbkaaDoor


namespace Go.Proofs.YtkeoalhglkfbkaaDoor
open Go Hk
@[simp] theorem ak7 {f:Nat}{x y:List kS}:kS.pP (.func f x y)=false:=(rfl)
@[simp] theorem Su {f:Nat}{x y:List kS}:kS.cells (.func f x y)=[.func f x y]:=(rfl)
end Go.Proofs.YtkeoalhglkfbkaaDoor


namespace Go.Proofs.YtkeoalhglkfbkaaDoor
open Go Hk
end Go.Proofs.YtkeoalhglkfbkaaDoor


namespace Go.Proofs.YtkeoalhglkfbkaaDoor
open Go Hk
end Go.Proofs.YtkeoalhglkfbkaaDoor


namespace Go.Proofs.YtkeoalhglkfbkaaDoor
open Go Hk
section
variable {p:IR}(hp:yT p) {N:Nat}(hN:(N:Int)=p.temps)
include hp hN
end
theorem DH:∀{a b x y:List kS},nB a=some x→nB b=some y→nB (a++b)=some (x++y)
 | [],b,x,y,h1,h2=>by simp only [nB,Option.some.injEq] at h1; subst h1; exact h2
 | v::a,b,x,y,h1,h2=>by
  simp only [nB] at h1
  split at h1
  ·rename_i u w e1 e2
   cases h1
   simp only [List.cons_append,nB,e1,DH e2 h2]
  ·cases h1
theorem FF {α:Type}{enc:α→List kS}(hp:∀x,nB (enc x)=some (enc x)):∀xs:List α,nB (Rw enc xs).flatten=some (Rw enc xs).flatten
 | []=>rfl
 | x::r=>by
  have e:(Rw enc (x::r)).flatten=enc x++(Rw enc r).flatten:=rfl
  rw [e]; exact DH (hp x) (FF hp r)
theorem Ih {α:Type}{enc:α→List kS}{sz:Nat}(he:∀x,(enc x).length=sz):∀xs:List α,rowsOf xs.length sz (Rw enc xs).flatten=Rw enc xs
 | []=>rfl
 | x::r=>by
  have e:(Rw enc (x::r)).flatten=enc x++(Rw enc r).flatten:=rfl
  rw [List.length_cons,rowsOf,e,←he x,List.take_left,List.drop_left,he x,Ih he r]; rfl
end Go.Proofs.YtkeoalhglkfbkaaDoor


namespace Go.Proofs.YtkeoalhglkfbkaaDoor
open Go Hk
section
variable {p:IR}(hp:yT p) (hl:∀b∈p.blocks,rH b.term=pW b.term)
include hp hl
end
end Go.Proofs.YtkeoalhglkfbkaaDoor


namespace Go.Proofs.YtkeoalhglkfbkaaDoor
open Go Hk
section
variable {p:IR}{A:List Span}{M:List Bool}{t:Int}
end
section
variable {p:IR}(hp:yT p) (hl:∀b∈p.blocks,rH b.term=pW b.term) {N:Nat}(hN:(N:Int)=p.temps)
include hp hl hN
end
end Go.Proofs.YtkeoalhglkfbkaaDoor


namespace Go.Proofs.YtkeoalhglkfbkaaDoor
open Go Hk
section
variable {sp:List Span}{N:Nat}(hN:sp.length=N) (hN2:N≤1000000)
include hN hN2
end
end Go.Proofs.YtkeoalhglkfbkaaDoor


namespace Go.Proofs.YtkeoalhglkfbkaaDoor
open Go Hk
section
variable {sp:List Span}{N:Nat}(hN:sp.length=N) (hN2:N≤1000000)
include hN hN2
end
end Go.Proofs.YtkeoalhglkfbkaaDoor


namespace Go.Proofs.YtkeoalhglkfbkaaDoor
open Go Hk
end Go.Proofs.YtkeoalhglkfbkaaDoor


namespace Go.Proofs.YtkeoalhglkfbkaaDoor
open Go Hk
end Go.Proofs.YtkeoalhglkfbkaaDoor


namespace Go.Proofs.YtkeoalhglkfbkaaDoor
open Go Hk
end Go.Proofs.YtkeoalhglkfbkaaDoor


namespace Go.Proofs.YtkeoalhglkfbkaaDoor
open Go Hk
end Go.Proofs.YtkeoalhglkfbkaaDoor


namespace Go.Proofs.YtkeoalhglkfbkaaDoor
open Go Hk
section
variable {sp:List Span}(hfe:∀s∈sp,0≤s.first→s.first≤s.last)
include hfe
end
section
variable {sp:List Span}(hfe:∀s∈sp,0≤s.first→s.first≤s.last) (hN2:sp.length≤1000000)
include hfe hN2
end
end Go.Proofs.YtkeoalhglkfbkaaDoor


namespace Go.Proofs.YtkeoalhglkfbkaaDoor
open Go Hk
section
variable {sp:List Span}(hfl:∀s∈sp,s.first≤s.last) (hN2:sp.length≤1000000)
include hfl hN2
end
end Go.Proofs.YtkeoalhglkfbkaaDoor


namespace Go.Proofs.YtkeoalhglkfbkaaDoor
open Go Hk
end Go.Proofs.YtkeoalhglkfbkaaDoor


namespace Go.Proofs.YtkeoalhglkfbkaaDoor
open Go Hk
theorem C3 {p:IR}(h0:mN p=0) {i:Nat}{b:lR}(hb:p.blocks[i]?=some b):∀(post pre:List Op),b.ops=pre++post→∀t,pA post b.term (nN p.blocks b.term) t→0≤t∧t < p.temps:=by
 obtain⟨hp,_⟩:=qJ h0
 have hm:=List.mem_of_getElem? hb
 intro post
 induction post with
 | nil =>
  intro pre _ t ht
  rcases ht with ⟨h1,h2⟩ | ⟨j,_,h2⟩
  ·have:=hp.term b hm h1
   rw [h2] at this; exact this
  ·exact Bb hp h2
 | cons o r ih =>
  intro pre e t ht
  rw [rL] at ht
  rcases ht with h1 | ⟨h1,_⟩
  ·exact hp.use b hm o (by rw [e]; simp) t h1
  ·exact ih (pre++[o]) (by rw [e]; simp) t h1
theorem Lq {p:IR}(h0:mN p=0):∀b∈p.blocks,abN p.temps p.blocks.length b:=by
 obtain⟨r1,_,_⟩:=Hb h0
 intro b hb
 obtain⟨g1,g2,_⟩:=r1 b hb
 refine⟨fun o ho=>(g1 o ho).1,?_⟩
 rcases g2 with g2 | g2
 ·exact g2
 ·exact .inr (.inr g2)
end Go.Proofs.YtkeoalhglkfbkaaDoor


namespace Go.Proofs.YtkeoalhglkfbkaaDoor
open Go Hk
section
variable {p:IR}
end
end Go.Proofs.YtkeoalhglkfbkaaDoor


namespace Go.Proofs.YtkeoalhglkfbkaaDoor
open Go Hk
section
variable {p:IR}(h0:mN p=0) (hT:p.temps≤60)
include h0
include hT
end
end Go.Proofs.YtkeoalhglkfbkaaDoor


namespace Go.Proofs.YtkeoalhglkfbkaaDoor
open Go Hk
theorem MV {p:IR}(l0:aeQ p) (h1:mO p.inn 0 65536=true) (h2:mO p.out 0 65536=true) (h3:p.inn.tmod 4=0) (h4:p.out.tmod 4=0) (h5:0≤p.temps) (hne:p.blocks≠[]) (ha:A3 p.inn p.out 0 p.arrays=true)
  (hb:∀b∈p.blocks,(∀o∈b.ops,JB p o=true)∧wN (p:=p) b.term=true):mN p=0:=by
 have hl:pC p=true:=tV.2 l0
 unfold mN
 rw [hl,if_neg (by decide),if_pos ⟨h1,h2,h3,h4,h5,hne⟩,if_pos]
 simp only [Bool.and_eq_true,List.all_eq_true]
 refine⟨ha,fun c hc=>?_⟩
 simp only [Jh,Bool.and_eq_true,List.all_eq_true]
 exact hb c hc
theorem Gg {p:IR}(h:mN p=0):mO p.inn 0 65536=true∧mO p.out 0 65536=true∧p.inn.tmod 4=0∧p.out.tmod 4=0:=by
 obtain⟨l0,_⟩:=n_ h
 have hl:pC p=true:=tV.2 l0
 unfold mN at h
 rw [hl,if_neg (by decide)] at h
 split at h
 ·rename_i hc; exact⟨hc.1,hc.2.1,hc.2.2.1,hc.2.2.2.1⟩
 ·exact absurd h (by decide)
section
variable {p:IR}(h0:mN p=0) (hT:p.temps≤60)
include h0 hT
end
def y6 (p:IR) (t v:Int):IR:=⟨p.temps,p.arrays,match p.blocks with
 | []=>[]
 | b::r=>⟨⟨1,t,0,0,0,v⟩::b.ops,b.term⟩::r,p.inn,p.out⟩
theorem ai4 (o:Op):xE id o=o:=by
 obtain⟨a,b,c,d,e,f⟩:=o
 unfold xE
 simp
theorem Pu (b:lR):Ie id b=b:=by
 obtain⟨o,x⟩:=b
 unfold Ie Jn
 have:o.map (xE id)=o:=by
  conv=>rhs; rw [←List.map_id o]
  exact List.map_congr_left fun u _=>ai4 u
 rw [this]
 obtain⟨k,a,y,n⟩:=x
 simp
section
variable {p:IR}(h0:mN p=0)
include h0
theorem af0 {t v:Int}(hc:vF p.blocks≤1000000) (ht:0≤t∧t < p.temps) (hv:0≤v∧v≤4294967295):mN (y6 p t v)=0:=by
 obtain⟨l0,lm,hne,harr,hb⟩:=n_ h0
 obtain⟨c1,c2,c3,c4⟩:=Gg h0
 obtain⟨tm_,ar,bs,inn,out⟩:=p
 cases bs with
 | nil=>exact absurd rfl hne
 | cons b r =>
  simp only [vF] at hc
  refine MV ⟨l0.t1,l0.a1,l0.b1,?_,l0.r1⟩ c1 c2 c3 c4 lm.t0 (by simp [y6]) harr ?_
  ·show vF (⟨⟨1,t,0,0,0,v⟩::b.ops,b.term⟩::r)≤1048576
   simp only [vF,List.length_cons]
   omega
  ·intro c hc
   have hc:c∈(⟨⟨1,t,0,0,0,v⟩::b.ops,b.term⟩::r:List lR):=hc
   rcases List.mem_cons.1 hc with rfl | hc
   ·obtain⟨g1,g2⟩:=hb b (by simp)
    refine⟨fun o ho=>?_,g2⟩
    rcases List.mem_cons.1 ho with rfl | ho
    ·have f1:mM 1=⟨true,0,4294967295,true⟩:=rfl
     unfold JB mU De
     rw [f1]
     simp only [y6,mO,Bool.and_eq_true,decide_eq_true_eq,Bool.or_eq_true,List.take_zero,List.all_nil,Bool.not_true]
     have h2:t < tm_:=ht.2
     refine⟨trivial,hv,trivial,⟨by simp,by simp,by simp,by simp⟩,.inr ⟨ht.1,?_⟩,by simp⟩
     first | (show t≤tm_ - 1; omega) | (show decide (t≤tm_ - 1)=true; rw [decide_eq_true_eq]; omega)
    ·exact g1 o ho
   ·exact hb c (by simp [hc])
theorem aoG {bs:List lR}{c:lR}(hno:∀b∈bs,(b.term.kind=1→b.term.yes≠0)∧(b.term.kind=2→b.term.yes≠0∧b.term.no≠0)) (hok:∀b∈bs,b.term.kind=1∨b.term.kind=2∨b.term.kind=3) {arrays:List mL} :
  ∀(n:Nat) (b:lR) (ops:List Op) (s:Sx),b∈bs→C8 uJ arrays (bs.set 0 c) n b.term ops s=C8 uJ arrays bs n b.term ops s:=by
 intro n
 induction n with
 | zero=>intros; rfl
 | succ n ih =>
  intro b ops s hb
  cases ops with
  | cons o r =>
   simp only [C8]
   cases xF uJ arrays o s with
   | none=>rfl
   | some s'=>exact ih b r s' hb
  | nil =>
   simp only [C8]
   by_cases h3:b.term.kind=3
   ·simp [h3]
   ·simp only [h3,if_false]
    by_cases hn:rS b.term s.temps < 0
    ·simp [hn]
    ·simp only [hn,if_false]
     have hz:rS b.term s.temps≠0:=by
      obtain⟨n1,n2⟩:=hno b hb
      unfold rS at hn ⊢
      rcases hok b hb with k | k | k
      ·rw [if_pos k]; exact n1 k
      ·rw [if_neg (by omega)] at hn ⊢
       split
       ·exact(n2 k).1
       ·rename_i q
        rw [if_neg q] at hn
        split
        ·exact(n2 k).2
        ·decide
      ·exact absurd k h3
     rw [List.getElem?_set_ne (by omega)]
     cases hb2:bs[(rS b.term s.temps).toNat]? with
     | none=>rfl
     | some b2=>exact ih b2 b2.ops s (List.mem_of_getElem? hb2)
theorem ZE {t v:Int}(hc:vF p.blocks≤1000000) (ht:0≤t∧t < p.temps) (hv:0≤v∧v≤4294967295) (hw:¬Reach p.blocks t 0) (hno:∀b∈p.blocks,(b.term.kind=1→b.term.yes≠0)∧(b.term.kind=2→b.term.yes≠0∧b.term.no≠0))
  (inp:List UInt8) {n:Int}(hn:0≤n∧n≤3000):Dh (y6 p t v) inp (n+1)=Dh p inp n:=by
 have hq0:=af0 h0 hc ht hv
 have hok:=Lq h0
 unfold Dh
 rw [if_pos h0,if_pos hq0]
 have e1:(y6 p t v).inn=p.inn:=rfl
 have e2:(y6 p t v).arrays=p.arrays:=rfl
 have e3:(y6 p t v).temps=p.temps:=rfl
 have e4:(y6 p t v).out=p.out:=rfl
 rw [e1,e2,e3,e4]
 have hb1:mO (n+1) 0 67108864=true:=by simp only [mO,Bool.and_eq_true,decide_eq_true_eq]; omega
 have hb2:mO n 0 67108864=true:=by simp only [mO,Bool.and_eq_true,decide_eq_true_eq]; omega
 rw [hb1,hb2]
 by_cases hi:(inp.length:Int)=p.inn
 ·rw [if_pos ⟨hi,rfl⟩,if_pos ⟨hi,rfl⟩]
  have hR:=GR h0 hi
  cases hbl:p.blocks with
  | nil=>exact absurd hbl (n_ h0).2.2.1
  | cons b rb =>
   have e5:(y6 p t v).blocks=⟨⟨1,t,0,0,0,v⟩::b.ops,b.term⟩::rb:=by unfold y6; rw [hbl]
   rw [e5]
   simp only
   have en:(n+1).toNat=n.toNat+1:=by omega
   rw [en]
   obtain⟨x,_,hx⟩:=adL (o:=⟨1,t,0,0,0,v⟩) rfl (pQ (List.replicate p.temps.toNat 0) ⟨1,t,0,0,0,v⟩ 0) (pQ (List.replicate p.temps.toNat 0) ⟨1,t,0,0,0,v⟩ 1) (pQ (List.replicate p.temps.toNat 0) ⟨1,t,0,0,0,v⟩ 2)
   have hvf:uJ ⟨1,t,0,0,0,v⟩ (pQ (List.replicate p.temps.toNat 0) ⟨1,t,0,0,0,v⟩ 0) (pQ (List.replicate p.temps.toNat 0) ⟨1,t,0,0,0,v⟩ 1) (pQ (List.replicate p.temps.toNat 0) ⟨1,t,0,0,0,v⟩ 2)=some x:=by
    unfold uJ; rw [hx]
   have hst:xF uJ p.arrays ⟨1,t,0,0,0,v⟩ ⟨List.replicate p.temps.toNat 0,qU p.arrays inp⟩=some ⟨rV (List.replicate p.temps.toNat 0) t x,qU p.arrays inp⟩:=by
    unfold xF; rw [hvf]
   simp only [C8,hst]
   have hb0:p.blocks[0]?=some b:=by rw [hbl]; rfl
   have hset:(⟨⟨1,t,0,0,0,v⟩::b.ops,b.term⟩::rb:List lR)=p.blocks.set 0 ⟨⟨1,t,0,0,0,v⟩::b.ops,b.term⟩:=by rw [hbl]; rfl
   rw [hset,←hbl,aoG h0 hno (fun b hb=>by
    rcases (hok b hb).2 with h | h | h
    ·exact .inl h.1
    ·exact .inr (.inl h.1)
    ·exact .inr (.inr h)) _ b b.ops _ (List.mem_of_getElem? hb0)]
   have hap:Yd id p.blocks:=fun _ _ _ _ _ _ _ _ t _ _ hne=>hne
   have hmade:=(qJ h0).1.made
   have hpl:R_ id p.temps p.temps.toNat p.blocks:=⟨fun _ _ _ t t0 _ _=>t0,fun i b hb o ho hd=>by
    obtain⟨a,c⟩:=hmade b (List.mem_of_getElem? hb) o ho hd
    exact⟨a,by show o.dst.toNat < _; omega⟩⟩
   have hgo:=Zv GV RJ (arrays:=p.arrays) hap hpl hok (fun i b hb pre post hops t ht=>by obtain⟨a,c⟩:=C3 h0 hb post pre hops t ht; exact⟨a,c,a⟩) n.toNat 0 b [] b.ops
    ⟨List.replicate p.temps.toNat 0,qU p.arrays inp⟩ ⟨rV (List.replicate p.temps.toNat 0) t x,qU p.arrays inp⟩ hb0 rfl rfl (by simp; omega) (by simp [rV]) (fun u hu=>by
     obtain⟨u0,u1⟩:=C3 h0 hb0 b.ops [] rfl u hu
     show tg (rV _ _ _) u=_
     rw [Iv ht.1 u0 (by simp; omega),if_neg]
     rintro rfl
     exact hw ((yD hb0).2 hu))
   have m1:p.blocks.map (Ie id)=p.blocks:=by
    conv=>rhs; rw [←List.map_id p.blocks]
    exact List.map_congr_left fun u _=>Pu u
   have m2:Jn id b.term=b.term:=by have:=Pu b; exact congrArg lR.term this
   have m3:b.ops.map (xE id)=b.ops:=by have:=Pu b; exact congrArg lR.ops this
   rw [m1,m2,m3] at hgo
   rw [hgo]
 ·rw [if_neg (fun h=>hi h.1),if_neg (fun h=>hi h.1)]
end
end Go.Proofs.YtkeoalhglkfbkaaDoor


namespace Go.Proofs.YtkeoalhglkfbkaaDoor
open Go Hk
def xM (p:IR) (E:List mI):kU:=.cells p.cells::.front 1 1::E
def Yc (inp:List UInt8) (n t w:Int) (c:Bool) (i:Nat):List kS:=[.str inp,.int .i64 n,.int .i64 t,.int .i64 w,.ptr 0 0,.bool c,.int .i64 (i:Int)]
def okX (x:Term):Prop:=(x.kind=1→x.yes≠0)∧(x.kind=2→x.yes≠0∧x.no≠0)
theorem E4 (h:kU) (r:List (List kS)) (t:Hk.Tok):pI h (.slice r t)=some (.slice r t,h):=rfl
theorem Bq (h:kU) (k:IntKind) (n:Int):pI h (.int k n)=some (.int k n,h):=rfl
theorem axK (h:kU) (p:IR):pI h (.agg p.cells)=some (.agg p.cells,h):=rfl
theorem axL (h:kU) (x:Term):pI h (.agg x.cells)=some (.agg x.cells,h):=rfl
theorem WA {p:IR}{inp:List UInt8}{n t w:Int}{i:Nat}{b:lR}(hb:p.blocks[i]?=some b) (hn:p.blocks.length≤2000000) :
  (okX b.term→Fv KK 2 (Yc inp n t w false i,xM p [])=some (.normal,Yc inp n t w false (i+1),xM p [])) ∧
  (¬okX b.term→Fv KK 2 (Yc inp n t w false i,xM p [])=some (.ret,Yc inp n t w true i,xM p [])):=by
 have hib:i < p.blocks.length:=(List.getElem?_eq_some_iff.1 hb).1
 have hii:(i:Int) < (p.blocks.length:Int):=by omega
 have w1:IntKind.i64.wrap ((i:Int)+1)=((i+1:Nat):Int):=by rw [wrap64 (by omega) (by omega),Int.natCast_add]; rfl
 have g26:=c26
 have ag2:kV 2 (.ptr 0 0)=some (.ptr 0 2):=rfl
 have lb:kW false 1 (xM p []) (.ptr 0 2)=some (.slice (p.blocks.map lR.cells) .no):=by simp [xM,IR.cells]
 have lenB:lS (.slice (p.blocks.map lR.cells) .no)=some (.int .i64 (p.blocks.length:Int)):=by simp
 have ixb:kX 5 (.slice (p.blocks.map lR.cells) .no) (.int .i64 (i:Int))=some (.pptr b.cells):=by simp [hb,lR.cells]
 have agt:kV 1 (.pptr b.cells)=some (.pptr b.term.cells):=by simp [kV,lR.cells,Term.cells]
 have lt:kW true 4 (xM p []) (.pptr b.term.cells)=some (.agg b.term.cells):=by simp [Term.cells]
 have an:mH 4 (xM p []) (.agg [.int .i64 0,.int .i64 0,.int .i64 0,.int .i64 0])=some (.ptr 2 0,xM p [.cells [.int .i64 0,.int .i64 0,.int .i64 0,.int .i64 0]]):=by simp [xM]
 have st:lT 4 (xM p [.cells [.int .i64 0,.int .i64 0,.int .i64 0,.int .i64 0]]) (.ptr 2 0) (.agg b.term.cells)=some (xM p [.cells b.term.cells]):=by simp [xM,Term.cells]
 have a0:kV 0 (.ptr 2 0)=some (.ptr 2 0):=rfl
 have a2:kV 2 (.ptr 2 0)=some (.ptr 2 2):=rfl
 have a3:kV 3 (.ptr 2 0)=some (.ptr 2 3):=rfl
 have k0:kW false 1 (xM p [.cells b.term.cells]) (.ptr 2 0)=some (.int .i64 b.term.kind):=by simp [xM,Term.cells]
 have k2:kW false 1 (xM p [.cells b.term.cells]) (.ptr 2 2)=some (.int .i64 b.term.yes):=by simp [xM,Term.cells]
 have k3:kW false 1 (xM p [.cells b.term.cells]) (.ptr 2 3)=some (.int .i64 b.term.no):=by simp [xM,Term.cells]
 have tr:mS 2 (xM p [.cells b.term.cells])=some (xM p []):=by simp [mS,xM,IR.cells]
 have trt:nW 2 (xM p [.cells b.term.cells]) (List.take 2 (xM p [.cells b.term.cells]))=some (xM p []):=tr
 have sp:∀h,kS.oL 2 h (.ptr 0 0)=.ptr 0 0:=fun h=>rfl
 unfold Yc okX
 generalize xM p [.cells [.int .i64 0,.int .i64 0,.int .i64 0,.int .i64 0]]=X1 at *
 generalize xM p [.cells b.term.cells]=X2 at *
 generalize xM p []=X0 at *
 have fzt:=fun h=>axL h b.term
 generalize b.term.cells=tc_ at *
 generalize b.cells=bc at *
 generalize ((i+1:Nat):Int)=i1 at *
 generalize p.blocks.map lR.cells=bl at *
 unfold Fv
 by_cases h1:b.term.kind=1
 ·rw [h1] at k0 ⊢
  by_cases h2:b.term.yes=0
  ·rw [h2] at k2 ⊢
   refine⟨fun h=>absurd h.1 (by simp),fun _=>?_⟩
   simp -implicitDefEqProofs [-lH,-lV,-oF,-lY,-mH,E4,Bq,fzt,ag2,lb,lenB,hii,ixb,agt,lt,an,st,a0,a2,a3,k0,k2,k3,g26,lJ,trt,sp]
  ·refine⟨fun _=>?_,fun h=>absurd ⟨fun _=>h2,fun h=>by simp at h⟩ h⟩
   simp -implicitDefEqProofs [-lH,-lV,-oF,-lY,-mH,E4,Bq,fzt,ag2,lb,lenB,hii,ixb,agt,lt,an,st,a0,a2,a3,k0,k2,k3,g26,lJ,trt,sp,h2,w1]
 ·by_cases h3:b.term.kind=2
  ·rw [h3] at k0 ⊢
   by_cases h2:b.term.yes=0
   ·rw [h2] at k2 ⊢
    refine⟨fun h=>absurd (h.2 rfl).1 (by simp),fun _=>?_⟩
    simp -implicitDefEqProofs [-lH,-lV,-oF,-lY,-mH,E4,Bq,fzt,ag2,lb,lenB,hii,ixb,agt,lt,an,st,a0,a2,a3,k0,k2,k3,g26,lJ,trt,sp]
   ·by_cases h4:b.term.no=0
    ·rw [h4] at k3 ⊢
     refine⟨fun h=>absurd (h.2 rfl).2 (by simp),fun _=>?_⟩
     simp -implicitDefEqProofs [-lH,-lV,-oF,-lY,-mH,E4,Bq,fzt,ag2,lb,lenB,hii,ixb,agt,lt,an,st,a0,a2,a3,k0,k2,k3,g26,lJ,trt,sp,h2]
    ·refine⟨fun _=>?_,fun h=>absurd ⟨fun h=>by simp at h,fun _=>⟨h2,h4⟩⟩ h⟩
     simp -implicitDefEqProofs [-lH,-lV,-oF,-lY,-mH,E4,Bq,fzt,ag2,lb,lenB,hii,ixb,agt,lt,an,st,a0,a2,a3,k0,k2,k3,g26,lJ,trt,sp,h2,h4,w1]
  ·refine⟨fun _=>?_,fun h=>absurd ⟨fun h=>absurd h h1,fun h=>absurd h h3⟩ h⟩
   simp -implicitDefEqProofs [-lH,-lV,-oF,-lY,-mH,E4,Bq,fzt,ag2,lb,lenB,hii,ixb,agt,lt,an,st,a0,a2,a3,k0,k2,k3,g26,lJ,trt,sp,h1,h3,w1]
theorem ZZ {p:IR}{inp:List UInt8}{n t w:Int}(hn:p.blocks.length≤2000000):∀(d i:Nat),p.blocks.length=i+d →
  (∃i',mQ (Fv KK 2) (Yc inp n t w false i,xM p [])=some (.ret,Yc inp n t w true i',xM p [])) ∨
  (mQ (Fv KK 2) (Yc inp n t w false i,xM p [])=some (.exit 0,Yc inp n t w false p.blocks.length,xM p [])∧∀b∈p.blocks.drop i,okX b.term):=by
 intro d
 induction d with
 | zero =>
  intro i hi
  obtain rfl:i=p.blocks.length:=by omega
  refine .inr ⟨nH ?_,by simp⟩
  have ag2:kV 2 (.ptr 0 0)=some (.ptr 0 2):=rfl
  have lb:kW false 1 (xM p []) (.ptr 0 2)=some (.slice (p.blocks.map lR.cells) .no):=by simp [xM,IR.cells]
  have lenB:lS (.slice (p.blocks.map lR.cells) .no)=some (.int .i64 (p.blocks.length:Int)):=by simp
  have trt:nW 2 (xM p []) (List.take 2 (xM p []))=some (xM p []):=by simp [xM,IR.cells]
  have sp:∀h,kS.oL 2 h (.ptr 0 0)=.ptr 0 0:=fun h=>rfl
  unfold Yc
  generalize xM p []=X0 at *
  generalize p.blocks.map lR.cells=bl at *
  unfold Fv
  simp -implicitDefEqProofs [-lH,-lV,-oF,E4,ag2,lb,lenB,lJ,trt,sp]
 | succ d ih =>
  intro i hi
  have hib:i < p.blocks.length:=by omega
  have hb:=List.getElem?_eq_getElem hib
  obtain⟨r1,r2⟩:=WA (inp:=inp) (n:=n) (t:=t) (w:=w) hb hn
  by_cases hx:okX p.blocks[i].term
  ·rw [oU (r1 hx),List.drop_eq_getElem_cons hib]
   rcases ih (i+1) (by omega) with h | ⟨h,h'⟩
   ·exact .inl h
   ·exact .inr ⟨h,fun b hb=>by
     rcases List.mem_cons.1 hb with rfl | hb
     ·exact hx
     ·exact h' b hb⟩
  ·exact .inl ⟨i,vM (r2 hx)⟩
end Go.Proofs.YtkeoalhglkfbkaaDoor


namespace Go.Proofs.YtkeoalhglkfbkaaDoor
open Go Hk
theorem XW (w:Int):0≤DU .i64 w 4294967295∧DU .i64 w 4294967295≤4294967295:=by
 unfold DU
 have e:IntKind.i64.bits=64:=rfl
 rw [e]
 have h:(BitVec.ofInt 64 w &&& BitVec.ofInt 64 4294967295).toNat≤4294967295:=by
  rw [BitVec.toNat_and]
  have:(BitVec.ofInt 64 4294967295).toNat=4294967295:=by decide
  rw [this]
  exact Nat.and_le_right
 rw [wrap64 (by omega) (by omega)]
 omega
def ahB (t v:Int) (b:lR):lR:=⟨⟨1,t,0,0,0,v⟩::b.ops,b.term⟩
theorem abV (b:lR):nB b.cells=some b.cells:=rfl
theorem Xp (l:List (List kS)) (x:Term):nB (.slice l (.own 6)::x.cells)=some (.slice l .no::x.cells):=rfl
def zU (p:IR) (v:kS) (E:List mI):kU:=xM p (.cells [.int .i64 p.temps,.slice (p.arrays.map mL.cells) .no,v,.int .i64 p.inn,.int .i64 p.out]::.front 0 0::.front 0 0::E)
section
variable {p:IR}{b:lR}{r:List lR}(hbl:p.blocks=b::r) (hn:p.blocks.length≤2000000) (hb1:b.ops.length≤2000000)
include hbl hn
theorem afZ:nJ 5 56 (zU p (.slice (p.blocks.map lR.cells) .no) [.vec 0 5 []]) (.vslice 5 0 0 0 5) (.slice (p.blocks.map lR.cells) .no) =
  some (.vslice 5 p.blocks.length 0 p.blocks.length 5,zU p (.slice (p.blocks.map lR.cells) .no) [Vc lR.cells 5 p.blocks]):=by
 have he:∀x:lR,(lR.cells x).length=5:=fun _=>rfl
 have e:=Fe (enc:=lR.cells) (sz:=5) (h:=zU p (.slice (p.blocks.map lR.cells) .no) [.vec 0 5 []]) (id:=5) (tot:=0) (n:=0) (by_:=56) (ys:=p.blocks) (T:=.no) he
 refine e.trans ?_
 have hg:(zU p (.slice (p.blocks.map lR.cells) .no) [.vec 0 5 []])[5]?=some (Vc lR.cells 5 ([]:List lR)):=rfl
 rw [hg]
 have:=amD (enc:=lR.cells) (sz:=5) (h:=zU p (.slice (p.blocks.map lR.cells) .no) [.vec 0 5 []]) (id:=5) (n:=0) (by_:=56) (xs:=([]:List lR)) (ys:=p.blocks) he (by rw [hbl]; simp)
 refine this.trans ?_
 unfold tvp
 rw [if_pos ⟨rfl,by omega,by omega⟩]
 rfl
include hb1
theorem Wh (t v:Int):lT 1 (zU p (.vslice 5 p.blocks.length 0 p.blocks.length 5) [Vc lR.cells 5 p.blocks,.front (1+b.ops.length) 6]) (.vptr 5 p.blocks.length 0) (.slice ([.int .i64 1,.int .i64 t,.int .i64 0,.int .i64 0,.int .i64 0,.int .i64 v]::b.ops.map Op.cells) (.own 6)) =
  some (zU p (.vslice 5 p.blocks.length 0 p.blocks.length 5) [.vec p.blocks.length 5 ((.slice ([.int .i64 1,.int .i64 t,.int .i64 0,.int .i64 0,.int .i64 0,.int .i64 v]::b.ops.map Op.cells) (.own 6)::b.term.cells)++(Rw lR.cells r).flatten),.front (1+b.ops.length) 6]):=by
 rw [lC]
 have hg:mZ (zU p (.vslice 5 p.blocks.length 0 p.blocks.length 5) [Vc lR.cells 5 p.blocks,.front (1+b.ops.length) 6]) 5 p.blocks.length=some (5,b.cells++(Rw lR.cells r).flatten):=by
  have h5:(zU p (.vslice 5 p.blocks.length 0 p.blocks.length 5) [Vc lR.cells 5 p.blocks,.front (1+b.ops.length) 6])[5]?=some (Vc lR.cells 5 p.blocks):=rfl
  unfold mZ
  rw [h5]
  unfold Vc
  dsimp only
  rw [if_pos rfl,hbl]; rfl
 rw [hg]
 simp only [Option.bind_some]
 rw [if_pos ⟨rfl,by simp [lR.cells],rfl⟩]
 have hp:putCells (b.cells++(Rw lR.cells r).flatten) 0 (kS.cells (.slice ([.int .i64 1,.int .i64 t,.int .i64 0,.int .i64 0,.int .i64 0,.int .i64 v]::b.ops.map Op.cells) (.own 6))) =
   (.slice ([.int .i64 1,.int .i64 t,.int .i64 0,.int .i64 0,.int .i64 0,.int .i64 v]::b.ops.map Op.cells) (.own 6)::b.term.cells)++(Rw lR.cells r).flatten:=by
  simp [putCells,kS.cells,lR.cells,Term.cells]
 rw [hp]
 rfl
theorem SY (t v:Int):∃H:kU,pI (zU p (.vslice 5 p.blocks.length 0 p.blocks.length 5) [.vec p.blocks.length 5 ((.slice ([.int .i64 1,.int .i64 t,.int .i64 0,.int .i64 0,.int .i64 0,.int .i64 v]::b.ops.map Op.cells) (.own 6)::b.term.cells)++(Rw lR.cells r).flatten),.front (1+b.ops.length) 6])
  (.agg [.int .i64 p.temps,.slice (p.arrays.map mL.cells) .no,.vslice 5 p.blocks.length 0 p.blocks.length 5,.int .i64 p.inn,.int .i64 p.out])=some (.agg (y6 p t v).cells,H):=by
 have hlen:((.slice ([.int .i64 1,.int .i64 t,.int .i64 0,.int .i64 0,.int .i64 0,.int .i64 v]::b.ops.map Op.cells) (.own 6)::b.term.cells)++(Rw lR.cells r).flatten).length=p.blocks.length * 5:=by
  rw [List.length_append,w7 (enc:=lR.cells) (sz:=5) (fun _=>rfl),hbl]
  simp [Term.cells]; omega
 have hpure:nB ((.slice ([.int .i64 1,.int .i64 t,.int .i64 0,.int .i64 0,.int .i64 0,.int .i64 v]::b.ops.map Op.cells) (.own 6)::b.term.cells)++(Rw lR.cells r).flatten)=some ((Rw lR.cells (ahB t v b::r)).flatten) :=
  DH (Xp _ _) (FF abV r)
 have hrows:rowsOf p.blocks.length 5 (Rw lR.cells (ahB t v b::r)).flatten=(ahB t v b::r).map lR.cells:=by
  rw [hbl]; exact Ih (enc:=lR.cells) (sz:=5) (fun _=>rfl) (ahB t v b::r)
 generalize hcs:(kS.slice ([.int .i64 1,.int .i64 t,.int .i64 0,.int .i64 0,.int .i64 0,.int .i64 v]::b.ops.map Op.cells) (.own 6)::b.term.cells)++(Rw lR.cells r).flatten=cs at *
 have hf:oZ (zU p (.vslice 5 p.blocks.length 0 p.blocks.length 5) [.vec p.blocks.length 5 cs,.front (1+b.ops.length) 6]) (.vslice 5 p.blocks.length 0 p.blocks.length 5) =
   some (.slice ((ahB t v b::r).map lR.cells) .no,(zU p (.vslice 5 p.blocks.length 0 p.blocks.length 5) [.vec p.blocks.length 5 cs,.front (1+b.ops.length) 6]).set 5 .gone):=by
  have hg:mZ (zU p (.vslice 5 p.blocks.length 0 p.blocks.length 5) [.vec p.blocks.length 5 cs,.front (1+b.ops.length) 6]) 5 p.blocks.length=some (5,cs):=by
   have h5:(zU p (.vslice 5 p.blocks.length 0 p.blocks.length 5) [.vec p.blocks.length 5 cs,.front (1+b.ops.length) 6])[5]?=some (.vec p.blocks.length 5 cs):=rfl
   unfold mZ
   rw [h5]
   dsimp only
   rw [if_pos rfl]
  have ht:(cs.drop 0).take (p.blocks.length * 5)=cs:=by rw [List.drop_zero,List.take_of_length_le (by omega)]
  unfold oZ
  simp only [hg,ht,hpure,hrows]
  rw [if_pos (by omega)]
 refine⟨(zU p (.vslice 5 p.blocks.length 0 p.blocks.length 5) [.vec p.blocks.length 5 cs,.front (1+b.ops.length) 6]).set 5 .gone,?_⟩
 unfold pI
 simp only [BM]
 have hi:∀(h:kU) (z:Int),oZ h (.int .i64 z)=some (.int .i64 z,h):=fun _ _=>rfl
 have hs:∀(h:kU) (l:List (List kS)),oZ h (.slice l .no)=some (.slice l .no,h):=fun _ _=>rfl
 simp only [hi,hs,hf,Option.bind_some]
 have hj:(y6 p t v).cells=[.int .i64 p.temps,.slice (p.arrays.map mL.cells) .no,.slice ((ahB t v b::r).map lR.cells) .no,.int .i64 p.inn,.int .i64 p.out]:=by
  unfold y6 IR.cells
  rw [hbl]; rfl
 rw [hj]
end
end Go.Proofs.YtkeoalhglkfbkaaDoor


namespace Go.Proofs.YtkeoalhglkfbkaaDoor
open Go Hk
theorem c17 (p:IR) (inp:List UInt8) (n t w:Int) (h:kU):KK 17 [.agg p.cells,.str inp,.int .i64 n,.int .i64 t,.int .i64 w] h=some (.ret (.bool true),h):=by
 refine mD rfl rfl (mR (apB _ _ _ _ _ _ _) ?_)
 have a0:mH 5 [] (.agg p.cells)=some (.ptr 0 0,[.cells p.cells]):=by simp [IR.cells]
 have l00:kW true 5 [.cells p.cells] (.ptr 0 0)=some (.agg p.cells):=by simp [IR.cells]
 have u0:(kS.agg p.cells).k8=.agg p.cells:=rfl
 have fzi:=fun h=>axK h p
 obtain⟨b,hbo,g25⟩:=awO p
 have g26:=c26
 by_cases n0:n < 0
 ·simp -implicitDefEqProofs [m17,-lH,-lV,-mH,a0,n0,g26,lM]
 by_cases n1:3000 < n
 ·simp -implicitDefEqProofs [m17,-lH,-lV,-mH,a0,n0,n1,g26,lM]
 cases b with
 | false=>simp -implicitDefEqProofs [m17,-lH,-lV,-mH,a0,l00,fzi,u0,n0,n1,g25,g26,lM]
 | true =>
  have hops:=(hbo rfl).2
  have g27:=c27 p
  have f0:kV 0 (.ptr 0 0)=some (.ptr 0 0):=rfl
  have lt0:kW false 1 [.cells p.cells] (.ptr 0 0)=some (.int .i64 p.temps):=by simp [IR.cells]
  by_cases h0:¬mN p=0
  ·generalize mN p=e at *
   simp -implicitDefEqProofs [m17,-lH,-lV,-mH,a0,l00,fzi,u0,n0,n1,h0,g25,g26,g27,lZ,lM]
  have h0:=Decidable.not_not.1 h0
  rw [h0] at g27
  by_cases t0:t < 0
  ·simp -implicitDefEqProofs [m17,-lH,-lV,-mH,a0,l00,fzi,u0,n0,n1,t0,g25,g26,g27,lZ,lM]
  by_cases t1:p.temps≤t
  ·simp -implicitDefEqProofs [m17,-lH,-lV,-mH,a0,l00,lt0,f0,Bq,fzi,u0,n0,n1,t0,t1,g25,g26,g27,lZ,lM]
  obtain⟨hp,hl⟩:=qJ h0
  have hnb:=hp.nb
  have eI:qW p=(List.range p.blocks.length).map (rI p):=if_pos h0
  obtain⟨bb,r,hbl⟩:∃b r,p.blocks=b::r:=by
   cases hbl:p.blocks with
   | nil=>exact absurd hbl (n_ h0).2.2.1
   | cons b r=>exact⟨b,r,rfl⟩
  obtain⟨m,hm⟩:∃m,p.blocks.length=m+1:=⟨r.length,by rw [hbl]; rfl⟩
  have hI:qW p=rI p 0::(List.range m).map (fun k=>rI p (k+1)):=by
   rw [eI,hm,List.range_succ_eq_map,List.map_cons,List.map_map]; rfl
  have hzl:=(Em p).1 (rI p 0) (by rw [hI]; simp)
  have lenI:lS (nD (qW p))=some (.int .i64 (p.blocks.length:Int)):=by simp [nD,eI]
  have ne0:¬(p.blocks.length:Int)=0:=by omega
  have hpe:¬p.blocks=[]:=by rw [hbl]; simp
  have ixI:kX 1 (nD (qW p)) (.int .i64 0)=some (.pptr [.slice (ints (rI p 0)) .no]):=by unfold nD; rw [hI]; rfl
  have lz:∀h z,kW false 1 h (.pptr [.slice (ints z) .no])=some (.slice (ints z) .no):=by intro h z; simp
  have bs1:lU 1 1 [.int .i64 0] [(0,.int .i64 t)] [.cells p.cells]=some (.slice [[.int .i64 t]] (.own 1),xM p []):=rfl
  have uz:kS.k8 (.slice (ints (rI p 0)) .no)=.slice (ints (rI p 0)) .no:=rfl
  have g32:∀h,KK 32 [.slice [[.int .i64 t]] .no,.slice (ints (rI p 0)) .no] h=some (.ret (.bool (decide (t∈rI p 0))),h):=aBh (x:=t) (b:=rI p 0) (by omega)
  by_cases hz:t∈rI p 0
  ·rw [decide_eq_true hz] at g32
   generalize nD (qW p)=lI at *
   generalize nD (rN p)=lO at *
   simp -implicitDefEqProofs [m17,-lH,-lV,-oF,-mH,a0,l00,lt0,f0,Bq,E4,fzi,u0,n0,n1,t0,t1,g25,g26,g27,lenI,ne0,hpe,ixI,lz,bs1,uz,g32,lZ,lM]
  rw [decide_eq_false hz] at g32
  have lenH:(xM p []).length=2:=rfl
  have e0:((0:Nat):Int)=0:=rfl
  rcases ZZ (inp:=inp) (n:=n) (t:=t) (w:=w) (p:=p) (by omega) p.blocks.length 0 (by omega) with ⟨i',hlp⟩ | ⟨hlp,hok⟩
  ·unfold Yc at hlp
   rw [e0] at hlp
   generalize nD (qW p)=lI at *
   generalize nD (rN p)=lO at *
   generalize xM p []=X0 at *
   simp -implicitDefEqProofs [m17,-lH,-lV,-oF,-mH,a0,l00,lt0,f0,Bq,E4,fzi,u0,n0,n1,t0,t1,g25,g26,g27,lenI,ne0,hpe,ixI,lz,bs1,uz,g32,lenH,hlp,lZ,lM]
  ·unfold Yc at hlp
   rw [e0] at hlp
   have hbm:bb∈p.blocks:=by rw [hbl]; simp
   have hb1:bb.ops.length≤2000000:=by have:=hp.len bb hbm; omega
   obtain⟨v0,v1⟩:=XW w
   generalize hv:DU .i64 w 4294967295=v at *
   have av:lE .and (.int .i64 w) (.int .i64 4294967295)=some (.int .i64 v):=by rw [J9,hv]
   have hw:¬Reach p.blocks t 0:=by
    intro hr
    have:=Bb hp hr
    exact hz (AK.2 ⟨by omega,by omega,hr⟩)
   have hno:∀b∈p.blocks,(b.term.kind=1→b.term.yes≠0)∧(b.term.kind=2→b.term.yes≠0∧b.term.no≠0):=fun b hb=>hok b (by rw [List.drop_zero]; exact hb)
   have hrun:=ZE h0 (t:=t) (v:=v) (by omega) ⟨by omega,by omega⟩ ⟨v0,v1⟩ hw hno inp (n:=n) ⟨by omega,by omega⟩
   have g51:=c51 p inp n
   have g51':=c51 (y6 p t v) inp (n+1)
   rw [hrun] at g51'
   have wn:IntKind.i64.wrap (n+1)=n+1:=wrap64 (by omega) (by omega)
   have l17:kW true 5 (xM p []) (.ptr 0 0)=some (.agg p.cells):=by simp [xM,IR.cells]
   have a2:mH 5 (xM p []) (.agg [.int .i64 0,.slice [] .nil,.slice [] .nil,.int .i64 0,.int .i64 0])=some (.ptr 2 0,xM p [.cells [.int .i64 0,.slice [] (.own 3),.slice [] (.own 4),.int .i64 0,.int .i64 0],.front 0 0,.front 0 0]):=by simp [xM]
   have st:lT 5 (xM p [.cells [.int .i64 0,.slice [] (.own 3),.slice [] (.own 4),.int .i64 0,.int .i64 0],.front 0 0,.front 0 0]) (.ptr 2 0) (.agg p.cells)=some (zU p (.slice (p.blocks.map lR.cells) .no) []):=by simp [xM,zU,IR.cells]
   have bv:pU 0 5 [.slice [] .nil,.int .i64 0,.int .i64 0,.int .i64 0,.int .i64 0] [] (zU p (.slice (p.blocks.map lR.cells) .no) [])=some (.vslice 5 0 0 0 5,zU p (.slice (p.blocks.map lR.cells) .no) [.vec 0 5 []]):=rfl
   have f2:kV 2 (.ptr 0 0)=some (.ptr 0 2):=rfl
   have f22:kV 2 (.ptr 2 0)=some (.ptr 2 2):=rfl
   have lb:∀y E,kW false 1 (zU p y E) (.ptr 0 2)=some (.slice (p.blocks.map lR.cells) .no):=by intro y E; simp [zU,xM,IR.cells]
   have av2:=afZ hbl (by omega)
   have st2:lT 1 (zU p (.slice (p.blocks.map lR.cells) .no) [Vc lR.cells 5 p.blocks]) (.ptr 2 2) (.vslice 5 p.blocks.length 0 p.blocks.length 5)=some (zU p (.vslice 5 p.blocks.length 0 p.blocks.length 5) [Vc lR.cells 5 p.blocks]):=by simp [xM,zU,putCells,pV]
   have lv:kW false 1 (zU p (.vslice 5 p.blocks.length 0 p.blocks.length 5) [Vc lR.cells 5 p.blocks]) (.ptr 2 2)=some (.vslice 5 p.blocks.length 0 p.blocks.length 5):=by simp [xM,zU]
   have lb1:=lb (.vslice 5 p.blocks.length 0 p.blocks.length 5) [Vc lR.cells 5 p.blocks]
   have lb2:=lb (.slice (p.blocks.map lR.cells) .no) [.vec 0 5 []]
   have ix0:kX 5 (.slice (p.blocks.map lR.cells) .no) (.int .i64 0)=some (.pptr bb.cells):=by rw [hbl]; rfl
   have fb:kV 0 (.pptr bb.cells)=some (.pptr bb.cells):=by simp [kV]
   have lo:∀h,kW false 1 h (.pptr bb.cells)=some (.slice (bb.ops.map Op.cells) .no):=by intro h; simp [lR.cells]
   have bld:nE [.int .i64 0,.int .i64 0,.int .i64 0,.int .i64 0,.int .i64 0,.int .i64 0] [(0,1),(1,1),(2,1),(3,1),(4,1),(5,1)] [(0,.int .i64 1),(1,.int .i64 t),(5,.int .i64 v)]=some (.agg [.int .i64 1,.int .i64 t,.int .i64 0,.int .i64 0,.int .i64 0,.int .i64 v]):=rfl
   have li:mY [0,1,2] [.ptr 2 2,.ptr 0 2,.pptr bb.cells]=[2,0]:=rfl
   have li2:mY [0] [.ptr 2 2]=[2]:=rfl
   have bsl:lU 1 6 [.int .i64 0,.int .i64 0,.int .i64 0,.int .i64 0,.int .i64 0,.int .i64 0] [(0,.agg [.int .i64 1,.int .i64 t,.int .i64 0,.int .i64 0,.int .i64 0,.int .i64 v])] (rG [2,0] (zU p (.vslice 5 p.blocks.length 0 p.blocks.length 5) [Vc lR.cells 5 p.blocks])) =
     some (.slice [[.int .i64 1,.int .i64 t,.int .i64 0,.int .i64 0,.int .i64 0,.int .i64 v]] (.own 6),rG [2,0] (zU p (.vslice 5 p.blocks.length 0 p.blocks.length 5) [Vc lR.cells 5 p.blocks])++[.front 1 6]):=rfl
   have un1:rG [2] (oA [2,0] (zU p (.vslice 5 p.blocks.length 0 p.blocks.length 5) [Vc lR.cells 5 p.blocks]) (rG [2,0] (zU p (.vslice 5 p.blocks.length 0 p.blocks.length 5) [Vc lR.cells 5 p.blocks])++[.front 1 6]))=rG [2] (zU p (.vslice 5 p.blocks.length 0 p.blocks.length 5) [Vc lR.cells 5 p.blocks,.front 1 6]):=rfl
   have ap6:nG 6 48 (rG [2] (zU p (.vslice 5 p.blocks.length 0 p.blocks.length 5) [Vc lR.cells 5 p.blocks,.front 1 6])) (.slice [[.int .i64 1,.int .i64 t,.int .i64 0,.int .i64 0,.int .i64 0,.int .i64 v]] (.own 6)) (.slice (bb.ops.map Op.cells) .no) =
     some (.slice ([.int .i64 1,.int .i64 t,.int .i64 0,.int .i64 0,.int .i64 0,.int .i64 v]::bb.ops.map Op.cells) (.own 6),rG [2] (zU p (.vslice 5 p.blocks.length 0 p.blocks.length 5) [Vc lR.cells 5 p.blocks,.front (1+bb.ops.length) 6])):=by
    have hr:sR 6 (rG [2] (zU p (.vslice 5 p.blocks.length 0 p.blocks.length 5) [Vc lR.cells 5 p.blocks,.front 1 6])) (.slice (bb.ops.map Op.cells) .no)=some (bb.ops.map Op.cells):=by simp [Op.cells]
    have hg:(rG [2] (zU p (.vslice 5 p.blocks.length 0 p.blocks.length 5) [Vc lR.cells 5 p.blocks,.front 1 6]))[6]?=some (.front 1 6):=rfl
    have hset:(rG [2] (zU p (.vslice 5 p.blocks.length 0 p.blocks.length 5) [Vc lR.cells 5 p.blocks,.front 1 6])).set 6 (.front (1+bb.ops.length) 6)=rG [2] (zU p (.vslice 5 p.blocks.length 0 p.blocks.length 5) [Vc lR.cells 5 p.blocks,.front (1+bb.ops.length) 6]):=rfl
    unfold nG
    simp only [hr,hg,List.length_map,hset]
    rw [if_pos ⟨rfl,.inl trivial,by omega,by omega⟩]
    by_cases hz0:bb.ops.length=0
    ·rw [if_pos hz0]
     have hnil:=List.eq_nil_of_length_eq_zero hz0
     rw [hnil]; rfl
    ·rw [if_neg hz0]; rfl
   have un2:oA [2] (oA [2,0] (zU p (.vslice 5 p.blocks.length 0 p.blocks.length 5) [Vc lR.cells 5 p.blocks]) (rG [2,0] (zU p (.vslice 5 p.blocks.length 0 p.blocks.length 5) [Vc lR.cells 5 p.blocks])++[.front 1 6])) (rG [2] (zU p (.vslice 5 p.blocks.length 0 p.blocks.length 5) [Vc lR.cells 5 p.blocks,.front (1+bb.ops.length) 6]))=zU p (.vslice 5 p.blocks.length 0 p.blocks.length 5) [Vc lR.cells 5 p.blocks,.front (1+bb.ops.length) 6]:=rfl
   have ixv:kX 5 (.vslice 5 p.blocks.length 0 p.blocks.length 5) (.int .i64 0)=some (.vptr 5 p.blocks.length 0):=by
    rw [qL,if_pos ⟨by omega,by omega,rfl⟩]; rfl
   have fv:kV 0 (.vptr 5 p.blocks.length 0)=some (.vptr 5 p.blocks.length 0):=rfl
   have st3:=Wh hbl (by omega) hb1 t v
   obtain⟨HE,fz3⟩:=SY hbl (by omega) hb1 t v
   generalize (kS.slice ([.int .i64 1,.int .i64 t,.int .i64 0,.int .i64 0,.int .i64 0,.int .i64 v]::bb.ops.map Op.cells) (.own 6)::bb.term.cells)++(Rw lR.cells r).flatten=cs at *
   have lq:kW true 5 (zU p (.vslice 5 p.blocks.length 0 p.blocks.length 5) [.vec p.blocks.length 5 cs,.front (1+bb.ops.length) 6]) (.ptr 2 0)=some (.agg [.int .i64 p.temps,.slice (p.arrays.map mL.cells) .no,.vslice 5 p.blocks.length 0 p.blocks.length 5,.int .i64 p.inn,.int .i64 p.out]):=by simp [zU,xM]
   have ujp:(kS.agg (y6 p t v).cells).k8=.agg (y6 p t v).cells:=rfl
   have ust:∀s:List UInt8,(kS.str s).k8=.str s:=fun s=>rfl
   have ui:∀s:Int,(kS.int .i64 s).k8=.int .i64 s:=fun s=>rfl
   generalize (y6 p t v).cells=jc at *
   generalize kS.agg [.int .i64 p.temps,.slice (p.arrays.map mL.cells) .no,.vslice 5 p.blocks.length 0 p.blocks.length 5,.int .i64 p.inn,.int .i64 p.out]=qa at *
   generalize kS.slice ([.int .i64 1,.int .i64 t,.int .i64 0,.int .i64 0,.int .i64 0,.int .i64 v]::bb.ops.map Op.cells) (.own 6)=nops at *
   generalize zU p (.vslice 5 p.blocks.length 0 p.blocks.length 5) [Vc lR.cells 5 p.blocks]=Y6 at *
   generalize zU p (.vslice 5 p.blocks.length 0 p.blocks.length 5) [.vec p.blocks.length 5 cs,.front (1+bb.ops.length) 6]=Y9 at *
   generalize zU p (.vslice 5 p.blocks.length 0 p.blocks.length 5) [Vc lR.cells 5 p.blocks,.front (1+bb.ops.length) 6]=Y8 at *
   generalize zU p (.vslice 5 p.blocks.length 0 p.blocks.length 5) [Vc lR.cells 5 p.blocks,.front 1 6]=Y7 at *
   generalize zU p (.slice (p.blocks.map lR.cells) .no) [Vc lR.cells 5 p.blocks]=Y5 at *
   generalize zU p (.slice (p.blocks.map lR.cells) .no) [.vec 0 5 []]=Y4 at *
   generalize zU p (.slice (p.blocks.map lR.cells) .no) []=Y3 at *
   generalize xM p [.cells [.int .i64 0,.slice [] (.own 3),.slice [] (.own 4),.int .i64 0,.int .i64 0],.front 0 0,.front 0 0]=Y2 at *
   generalize xM p []=X0 at *
   generalize kS.vslice 5 p.blocks.length 0 p.blocks.length 5=vsl at *
   generalize p.blocks.map lR.cells=bls at *
   generalize bb.ops.map Op.cells=ops at *
   generalize bb.cells=bbc at *
   generalize Dh p inp n=r1 at *
   generalize nD (qW p)=lI at *
   generalize nD (rN p)=lO at *
   clear lb
   simp -implicitDefEqProofs [m17,-lH,-lV,-oF,-lY,-lC,-tL,-mH,-Hq,-DW,-J9,a0,l00,lt0,f0,Bq,E4,fzi,u0,n0,n1,t0,t1,g25,g26,g27,lenI,ne0,hpe,ixI,lz,bs1,uz,g32,lenH,hlp,lZ,lM,
    l17,ust,ui,g51,a2,st,bv,f2,f22,lb1,lb2,av2,st2,lv,av,bld,ix0,fb,lo,li,li2,bsl,un1,ap6,un2,ixv,fv,st3,lq,fz3,wn,ujp,g51']
end Go.Proofs.YtkeoalhglkfbkaaDoor


namespace Go.Proofs.YtkeoalhglkfbkaaDoor
open Go Hk
theorem axQ (p:IR) (s:List UInt8) (n t w:Int) (_:s.length≤maxLen) (_:(Lit.int .i64 n).wf=true) (_:(Lit.int .i64 t).wf=true) (_:(Lit.int .i64 w).wf=true):Ji Tryd.prog nA 17 [.agg p.cells,.str s,.int .i64 n,.int .i64 t,.int .i64 w] []=some (.ret (.bool true),[]):=abJ rfl (c17 p s n t w [])
end Go.Proofs.YtkeoalhglkfbkaaDoor
