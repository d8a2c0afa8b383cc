/-
  The texts IX.S3, IX.S4, IX.S5, IX.M3, IX.D1, IX.D2, IX.D3, IX.D4, IX.D5, IX.D6, IX.D7, IX.D8, IX.D9, IX.D10, IX.D11, IX.D12, IX.D13, IX.D14, IX.D15, IX.D16, IX.D17, IX.D18, IX.L39, IX.RN1, IX.RN2, one behind another. No conditions.
-/
import Derived.Test.YtkeoalhglkfbkaaDoorIx1
import Derived.Test.YtkeoalhglkfbkaaDoorIxu1
import Derived.Test.YtkeoalhglkfbkaaDoorIxa1
import Derived.KernelRfl
set_option linter.unusedVariables false
set_option linter.unusedSimpArgs false
set_option linter.unusedSectionVars false
set_option linter.all false

namespace Go.Proofs.YtkeoalhglkfbkaaDoor
open Go Hk Go.Proofs.Wd
def u9 (ops:List Op) (L:List Int) (i:Nat):List kS:=(List.range (ops.length+1)).map fun k=>if i≤k then .slice (ints (rU (qD (ops.drop k) L))) .no else .slice [] .nil
theorem Nw {ops:List Op}{L:List Int}{i:Nat}:(u9 ops L i).length=ops.length+1:=by simp [u9]
theorem Rm {ops:List Op}{L:List Int}{i:Nat}:∀c∈u9 ops L i,SC c:=by
 intro c hc
 obtain⟨k,_,rfl⟩:=List.mem_map.1 hc
 by_cases h:i≤k
 ·exact⟨_,.inl (if_pos h)⟩
 ·exact⟨_,.inr (if_neg h)⟩
theorem Nx {ops:List Op}{L:List Int}{i:Nat}:(u9 ops L (i+1)).set i (.slice (ints (rU (qD (ops.drop i) L))) .no)=u9 ops L i:=by
 apply List.ext_getElem?
 intro k
 rw [List.getElem?_set]
 simp only [u9,List.getElem?_map,List.length_map,List.length_range]
 by_cases h:k < ops.length+1
 ·rw [List.getElem?_range h]
  by_cases hk:i=k
  ·subst hk; rw [if_pos rfl,if_pos h]; simp
  ·rw [if_neg hk]
   simp only [Option.map_some]
   by_cases h2:i+1≤k
   ·rw [if_pos h2,if_pos (by omega)]
   ·rw [if_neg h2,if_neg (by omega)]
 ·have:(List.range (ops.length+1))[k]?=none:=by simp; omega
  rw [this]
  simp only [Option.map_none]
  split
  ·rw [if_neg (by omega)]
  ·rfl
theorem Xx {ops:List Op}{L:List Int}:(List.replicate (ops.length+1) (kS.slice [] .nil)).set ops.length (.slice (ints (rU L)) .no)=u9 ops L ops.length:=by
 rw [←Nx]
 have e:qD (ops.drop ops.length) L=L:=by rw [List.drop_length]; rfl
 rw [e]
 congr 1
 apply List.ext_getElem?
 intro k
 simp only [u9,List.getElem?_map,List.getElem?_replicate]
 by_cases h:k < ops.length+1
 ·rw [List.getElem?_range h,if_pos h]
  simp only [Option.map_some]
  rw [if_neg (by omega)]
 ·have:(List.range (ops.length+1))[k]?=none:=by simp; omega
  rw [this,if_neg h]; rfl
theorem Ux {ops:List Op}{L:List Int}{i:Nat}{o:Op}(h:ops[i]?=some o):qD (ops.drop i) L=tY (qD (ops.drop (i+1)) L) o:=by
 have hi:=(List.getElem?_eq_some_iff.1 h).1
 rw [List.drop_eq_getElem_cons hi,(List.getElem?_eq_some_iff.1 h).2]
 rfl
theorem WS {b:lR}{L:List Int}(hu:∀o∈b.ops,(∀t∈mU o,0≤t∧t≤2000000)∧(mU o).length≤2000000)
  (hL:∀i,∀t∈qD (b.ops.drop i) L,0≤t∧t≤2000000) (hLl:∀i,(qD (b.ops.drop i) L).length≤1048576) (hnm:b.ops.length≤2000000):∀(i:Nat),i≤b.ops.length →
  mQ (Hu KK 4) ([.ptr 0 0,.slice [] (.own 1),.map 2,.vslice 3 (b.ops.length+1) 0 (b.ops.length+1) 1,.int .i64 ((i:Int) - 1)],HP b (qD (b.ops.drop i) L) [VP (b.ops.length+1) (u9 b.ops L i)]) =
  some (.exit 2,[.ptr 0 0,.slice [] (.own 1),.map 2,.vslice 3 (b.ops.length+1) 0 (b.ops.length+1) 1,.int .i64 (-1)],HP b (qD b.ops L) [VP (b.ops.length+1) (u9 b.ops L 0)]):=by
 intro i
 induction i with
 | zero =>
  intro _
  refine nH ?_
  have e:b.ops.drop 0=b.ops:=List.drop_zero
  rw [e]
  have hr:∀c∈u9 b.ops L 0,SC c:=Rm
  generalize u9 b.ops L 0=cs at *
  generalize b.ops.length+1=n at *
  have htr:mS 4 (HP b (qD b.ops L) [VP n cs])=some (HP b (qD b.ops L) [VP n cs]) :=
   oI (h:=HP b (qD b.ops L) [VP n cs]) (NW (F8 (Sc hr) oW))
  have s3:∀h',kS.oL 4 h' (.map 2)=.map 2:=fun h'=>rfl
  have s4:∀h',kS.oL 4 h' (.vslice 3 n 0 n 1)=.vslice 3 n 0 n 1:=fun h'=>rfl
  have e0:((0:Nat):Int) - 1=-1:=rfl
  rw [e0]
  unfold Hu
  simp [lJ,htr,s3,s4,lW]
 | succ i ih =>
  intro hi
  have ho:=List.getElem?_eq_getElem (l:=b.ops) (i:=i) (by omega)
  generalize b.ops[i]=o at ho
  obtain⟨u1,u2⟩:=hu o (List.mem_of_getElem? ho)
  have hw:=Ux (L:=L) ho
  have k1:=hL i
  have k2:=hLl i
  rw [hw] at k1 k2
  have g:=WT (b:=b) (o:=o) (n:=b.ops.length+1) (j:=i) (cs:=u9 b.ops L (i+1)) (L:=qD (b.ops.drop (i+1)) L) Rm ho u1 u2 k1 k2 (by omega) Nw (by omega)
  rw [←hw,Nx] at g
  have e0:((i+1:Nat):Int) - 1=(i:Int):=by omega
  rw [e0,←ih (by omega)]
  exact oU g
theorem T0 {cs:List kS}(h:∀c∈cs,∃rows,c=.slice rows .no):nB cs=some cs:=by
 induction cs with
 | nil=>rfl
 | cons c r ih =>
  obtain⟨rows,rfl⟩:=h c (by simp)
  simp only [nB,ih fun c hc=>h c (by simp [hc]),kS.uV]
theorem Re {ops:List Op}{L:List Int}:.slice ((u9 ops L 0).map fun c=>[c]) .no=nD ((List.range (ops.length+1)).map fun k=>rU (qD (ops.drop k) L)):=by
 unfold nD u9
 simp only [List.map_map,Nat.zero_le,if_true]
 rfl
def sU (b:lR) (out:List Int):List Int:=if b.term.kind=2 then Ca (xQ [] out) b.term.a else xQ [] out
def CH (b:lR) (out:List Int):List (List Int):=(List.range (b.ops.length+1)).map fun k=>rU (qD (b.ops.drop k) (sU b out))
theorem c31 {b:lR}{out:List Int}(ho:∀t∈out,0≤t∧t≤2000000) (hlen:out.length≤2000000) (hu:∀o∈b.ops,(∀t∈mU o,0≤t∧t≤2000000)∧(mU o).length≤2000000)
  (ha:b.term.kind=2→0≤b.term.a∧b.term.a≤2000000)
  (hL:∀i,∀t∈qD (b.ops.drop i) (sU b out),0≤t∧t≤2000000) (hLl:∀i,(qD (b.ops.drop i) (sU b out)).length≤1048576) (hnm:b.ops.length≤2000000) (h:kU) :
  KK 31 [.agg b.cells,.slice (ints out) .no] h=some (.ret (nD (CH b out)),h):=by
 refine mD rfl rfl (mR (ap2 _ _ _ _) ?_)
 have g0:=WQ (b:=b) ho hlen out.length 0 [] (by omega)
 rw [List.drop_zero] at g0
 have e0:HP b [] []=[.cells b.cells,.front 0 0,.map []]:=rfl
 have e00:((0:Nat):Int)=0:=rfl
 rw [e0,e00] at g0
 have an:mH 5 [] (.agg b.cells)=some (.ptr 0 0,[.cells b.cells]):=by simp [lR.cells]
 have lenO:lS (.slice (ints out) .no)=some (.int .i64 (out.length:Int)):=by simp [ints]
 have lk:∀L E,kW false 1 (HP b L E) (.ptr 0 1)=some (.int .i64 b.term.kind):=by intro L E; simp [HP,lR.cells]
 have la:∀L E,kW false 1 (HP b L E) (.ptr 0 2)=some (.int .i64 b.term.a):=by intro L E; simp [HP,lR.cells]
 have lo:∀L E,kW false 1 (HP b L E) (.ptr 0 0)=some (.slice (b.ops.map Op.cells) .no):=by intro L E; simp [HP,lR.cells]
 have lenP:lS (.slice (b.ops.map Op.cells) .no)=some (.int .i64 (b.ops.length:Int)):=by simp
 have w1:IntKind.i64.wrap ((b.ops.length:Int)+1)=((b.ops.length+1:Nat):Int):=by rw [wrap64 (by omega) (by omega),Int.natCast_add]; rfl
 have w2:IntKind.i64.wrap ((b.ops.length:Int) - 1)=(b.ops.length:Int) - 1:=by rw [wrap64 (by omega) (by omega)]
 have mk:∀L,nM 1 24 [(.slice [] .nil)] (.int .i64 ((b.ops.length+1:Nat):Int)) (HP b L [])=some (.vslice 3 (b.ops.length+1) 0 (b.ops.length+1) 1,HP b L [VP (b.ops.length+1) (List.replicate (b.ops.length+1) (.slice [] .nil))]):=by
  intro L
  unfold nM
  simp only [Int.toNat_natCast]
  rw [if_pos ⟨by omega,by omega,by omega⟩]
  have:(List.replicate (b.ops.length+1) [kS.slice [] Hk.Tok.nil]).flatten=List.replicate (b.ops.length+1) (.slice [] .nil):=by
   generalize b.ops.length+1=n
   induction n with
   | zero=>rfl
   | succ n ih=>rw [List.replicate_succ,List.flatten_cons,ih]; rfl
  rw [this]; rfl
 have hd:∀L E,uT (HP b L E) 0=.gone::.front 0 0::.map (em L)::E:=fun L E=>rfl
 have uhd:∀L E,sD (HP b L E) (.gone::.front 0 0::.map (em L)::E) 0=HP b L E:=fun L E=>rfl
 have lki:mY [0] [kS.ptr 0 0]=[0]:=rfl
 have u1:kS.k8 (.map 2)=.map 2:=rfl
 have e9:qD (b.ops.drop b.ops.length) (sU b out)=sU b out:=by rw [List.drop_length]; rfl
 have k72:∀E,KK 72 [.map 2] (.gone::.front 0 0::.map (em (sU b out))::E)=some (.ret (.slice (ints (rU (sU b out))) .no),.gone::.front 0 0::.map (em (sU b out))::E):=by
  intro E
  have h1:=hL b.ops.length
  have h2:=hLl b.ops.length
  rw [e9] at h1 h2
  exact c72 (id:=2) rfl h1 h2
 have ix:kX 1 (.vslice 3 (b.ops.length+1) 0 (b.ops.length+1) 1) (.int .i64 (b.ops.length:Int))=some (.vptr 3 (b.ops.length+1) b.ops.length):=by simp
 have st:∀L,lT 1 (HP b L [VP (b.ops.length+1) (List.replicate (b.ops.length+1) (.slice [] .nil))]) (.vptr 3 (b.ops.length+1) b.ops.length) (.slice (ints (rU (sU b out))) .no) =
   some (HP b L [VP (b.ops.length+1) (u9 b.ops (sU b out) b.ops.length)]):=by
  intro L
  rw [←Xx,lC]
  generalize hn:b.ops.length=n
  generalize hc:List.replicate (n+1) (kS.slice [] Hk.Tok.nil)=cs
  have hcl:cs.length=n+1:=by rw [←hc]; simp
  have:mZ (HP b L [VP (n+1) cs]) 3 (n+1)=some (1,cs):=by simp [HP,VP]
  rw [this]
  have e1:putCells cs n [.slice (ints (rU (sU b out))) .no]=cs.set n (.slice (ints (rU (sU b out))) .no):=by
   unfold putCells
   rw [List.set_eq_take_append_cons_drop,if_pos (by omega)]
   simp
  simp only [Option.bind_some]
  rw [if_pos ⟨rfl,by first | omega | (simp; omega),rfl⟩]
  simp only [II,e1]
  simp [HP,VP]
 have g2:=WS (b:=b) (L:=sU b out) hu hL hLl hnm b.ops.length (Nat.le_refl _)
 rw [e9] at g2
 have l4:∀L V,(HP b L [V]).length=4:=fun L V=>rfl
 have fz:∀L,oZ (HP b L [VP (b.ops.length+1) (u9 b.ops (sU b out) 0)]) (.vslice 3 (b.ops.length+1) 0 (b.ops.length+1) 1)=some (nD (CH b out),[.cells b.cells,.front 0 0,.map (em L),.gone]):=by
  intro L
  have hp:nB (u9 b.ops (sU b out) 0)=some (u9 b.ops (sU b out) 0):=T0 fun c hc=>by
   obtain⟨k,_,rfl⟩:=List.mem_map.1 hc
   exact⟨_,if_pos (Nat.zero_le _)⟩
  have hlen:=Nw (ops:=b.ops) (L:=sU b out) (i:=0)
  have hpl:=Re (ops:=b.ops) (L:=sU b out)
  have hro:=AS (l:=u9 b.ops (sU b out) 0)
  unfold oZ
  have:mZ (HP b L [VP (b.ops.length+1) (u9 b.ops (sU b out) 0)]) 3 (b.ops.length+1)=some (1,u9 b.ops (sU b out) 0):=by simp [HP,VP]
  simp only [this,List.drop_zero,Nat.mul_one]
  rw [List.take_of_length_le (by omega),hp]
  simp only [Nat.zero_add]
  rw [if_pos (by omega),←hlen,hro,hpl]
  rfl
 have fin:∀L,SJ 0 (.vslice 3 (b.ops.length+1) 0 (b.ops.length+1) 1) (HP b L [VP (b.ops.length+1) (u9 b.ops (sU b out) 0)])=some (.ret (nD (CH b out)),[]):=by
  intro L
  unfold SJ
  rw [fz]
  simp only [Option.bind_some]
  rw [lM]
  rfl
 have ag0:kV 0 (.ptr 0 0)=some (.ptr 0 0):=rfl
 have ag1:kV 1 (.ptr 0 0)=some (.ptr 0 1):=rfl
 have ag2:kV 0 (.ptr 0 1)=some (.ptr 0 1):=rfl
 have ag3:kV 1 (.ptr 0 1)=some (.ptr 0 2):=rfl
 have hse:=RY (b:=b) (L:=xQ [] out) (E:=[]) b.term.a
 generalize ((b.ops.length+1:Nat):Int)=n1 at w1 mk
 by_cases hk:b.term.kind=2
 ·have eL:sU b out=Ca (xQ [] out) b.term.a:=if_pos hk
  obtain⟨a0,a1⟩:=ha hk
  rw [hk] at lk
  rw [←eL] at hse
  unfold m31
  simp -implicitDefEqProofs [-lH,-lY,-lG,-lC,-mH,an,lenO,g0,lk,la,lo,lenP,w1,w2,mk,hd,uhd,lki,u1,k72,ix,st,g2,l4,fin,ag0,ag1,ag2,ag3,hse,a0,pL]
 ·have eL:sU b out=xQ [] out:=if_neg hk
  rw [←eL] at g0
  unfold m31
  simp -implicitDefEqProofs [-lH,-lY,-lG,-lC,-mH,an,lenO,g0,lk,la,lo,lenP,w1,w2,mk,hd,uhd,lki,u1,k72,ix,st,g2,l4,fin,ag0,ag1,ag2,ag3,hk]
end Go.Proofs.YtkeoalhglkfbkaaDoor


namespace Go.Proofs.YtkeoalhglkfbkaaDoor
open Go Hk Go.Proofs.Wd
theorem BD {n:Nat}{f:Nat→Bool}:(zs ((List.range n).filter f)).length≤n:=by
 rw [IA]
 exact Nat.le_trans (List.length_filter_le _ _) (by simp)
end Go.Proofs.YtkeoalhglkfbkaaDoor


namespace Go.Proofs.YtkeoalhglkfbkaaDoor
open Go Hk Go.Proofs.Wd
theorem Rv {L:List Int}{o:Op}(h:L.Nodup):(tY L o).Nodup:=by
 unfold tY
 apply Ba
 split
 ·exact h.erase _
 ·exact h
theorem wO:∀{ops:List Op}{L:List Int},L.Nodup→(qD ops L).Nodup
 | [],_,h=>h
 | o::r,_,h=>Rv (wO (ops:=r) h)
theorem AD {b:lR}{out:List Int}:(sU b out).Nodup:=by
 unfold sU
 split
 ·exact Lw (Ba List.nodup_nil)
 ·exact Ba List.nodup_nil
theorem yG {b:lR}{out:List Int}{t:Int}:∀{ops:List Op},t∈qD ops (sU b out)↔pA ops b.term (fun t=>t∈out) t
 | []=>by
  show t∈sU b out↔(b.term.kind=2∧b.term.a=t)∨t∈out
  unfold sU
  by_cases h:b.term.kind=2
  ·rw [if_pos h,Ri,Ew]
   simp only [h,true_and,List.not_mem_nil,false_or]
   constructor
   ·rintro(h | rfl)
    ·exact .inr h
    ·exact .inl rfl
   ·rintro(rfl | h)
    ·exact .inr rfl
    ·exact .inl h
  ·rw [if_neg h,Ew]
   simp [h]
 | o::r=>by
  have ih:=yG (b:=b) (out:=out) (t:=t) (ops:=r)
  show t∈tY (qD r (sU b out)) o↔t∈mU o∨(pA r b.term (fun t=>t∈out) t∧¬((mM o.kind).dst=true∧o.dst=t))
  unfold tY
  rw [Ew,←ih]
  have hn:(qD r (sU b out)).Nodup:=wO AD
  by_cases h:(mM o.kind).dst=true
  ·rw [if_pos h,hn.mem_erase_iff]
   constructor
   ·rintro(⟨h1,h2⟩ | h1)
    ·exact .inr ⟨h2,fun hh=>h1 hh.2.symm⟩
    ·exact .inl h1
   ·rintro(h1 | ⟨h1,h2⟩)
    ·exact .inr h1
    ·exact .inl ⟨fun hh=>h2 ⟨h,hh.symm⟩,h1⟩
  ·rw [if_neg h]
   simp only [h,Bool.false_eq_true,false_and,not_false_eq_true,and_true]
   exact or_comm
theorem LC:∀{l:List Int}{a n:Int},l.Pairwise (· < ·)→(∀t∈l,a≤t∧t < n)→(l.length:Int)≤max (n - a) 0
 | [],a,n,_,_=>by simp; omega
 | x::r,a,n,hp,hb=>by
  rw [List.pairwise_cons] at hp
  have hx:=hb x (by simp)
  have:=LC (l:=r) (a:=x+1) (n:=n) hp.2 fun t ht=>by
   have h1:=hp.1 t ht
   have h2:=hb t (by simp [ht])
   omega
  simp only [List.length_cons]
  omega
theorem Nl {l:List Int}{n:Int}(hl:l.Nodup) (hb:∀t∈l,0≤t∧t < n) (hn:n≤1048576):l.length≤1048576:=by
 have h1:=LC (CR hl) (a:=0) (n:=n) fun t ht=>hb t (EB.1 ht)
 have h2:(rU l).length=l.length:=(List.mergeSort_perm l _).length_eq
 omega
theorem ad0 {n:Nat}{P:Nat→Prop} [DecidablePred P] {t:Int}:t∈zs ((List.range n).filter fun t=>decide (P t))↔0≤t∧t.toNat < n∧P t.toNat:=by
 unfold zs
 simp only [List.mem_map,List.mem_filter,List.mem_range,decide_eq_true_eq]
 constructor
 ·rintro⟨a,⟨h1,h2⟩,rfl⟩
  exact⟨by omega,by simpa using h1,by simpa using h2⟩
 ·rintro⟨h1,h2,h3⟩
  exact⟨t.toNat,⟨h2,h3⟩,by omega⟩
theorem tW {p:IR}{k:Nat}{b:lR}(hb:p.blocks[k]?=some b) {t:Int}:t∈pT p k↔0≤t∧t < p.temps∧pO p.blocks t b.term:=by
 classical
 unfold pT
 rw [ad0]
 constructor
 ·rintro⟨h1,h2,b',h3,h4⟩
  rw [hb] at h3; cases h3
  rw [show((t.toNat:Nat):Int)=t by omega] at h4
  exact⟨h1,by omega,h4⟩
 ·rintro⟨h1,h2,h3⟩
  refine⟨h1,by omega,b,hb,?_⟩
  rw [show((t.toNat:Nat):Int)=t by omega]
  exact h3
theorem Bi {p:IR}(hp:yT p) {k:Nat}{b:lR}(hb:p.blocks[k]?=some b) {i:Nat}{t:Int}(ht:t∈qD (b.ops.drop i) (sU b (pT p k))):0≤t∧t < p.temps:=by
 have hbm:=List.mem_of_getElem? hb
 have key:∀(ops:List Op),(∀o∈ops,o∈b.ops)→t∈qD ops (sU b (pT p k))→0≤t∧t < p.temps:=by
  intro ops
  induction ops with
  | nil =>
   intro _ h
   rw [yG] at h
   rcases h with ⟨h1,h2⟩ | h1
   ·rw [←h2]; exact hp.term b hbm h1
   ·have:=(tW hb).1 h1; exact⟨this.1,this.2.1⟩
  | cons o r ih =>
   intro ho h
   rw [yG] at h
   rcases h with h1 | ⟨h1,_⟩
   ·exact hp.use b hbm o (ho o (by simp)) t h1
   ·exact ih (fun o' h'=>ho o' (by simp [h'])) (yG.2 h1)
 exact key _ (fun o ho=>List.mem_of_mem_drop ho) ht
theorem Y_ {p:IR}(hp:yT p) {k:Nat}{b:lR}(hb:p.blocks[k]?=some b) (h:kU) :
  KK 31 [.agg b.cells,.slice (ints (pT p k)) .no] h=some (.ret (nD (CH b (pT p k))),h):=by
 have hbm:=List.mem_of_getElem? hb
 have ht:=hp.temps
 refine c31 (fun t h1=>?_) (Nat.le_trans BD (by omega)) (fun o ho=>⟨fun t h1=>?_,by have:=GU o; omega⟩) (fun h1=>?_) (fun i t h1=>?_) (fun i=>?_) (by have:=hp.len b hbm; omega) h
 ·have:=(tW hb).1 h1; omega
 ·have:=hp.use b hbm o ho t h1; omega
 ·have:=hp.term b hbm h1; omega
 ·have:=Bi hp hb h1; omega
 ·exact Nl (wO AD) (fun t h1=>Bi hp hb h1) ht
end Go.Proofs.YtkeoalhglkfbkaaDoor


namespace Go.Proofs.YtkeoalhglkfbkaaDoor
open Go Hk
noncomputable def K_ (K:lD) (m:Nat) (s:List kS×kU):Option R :=
 (fun aA aD aC aB h6=>(kV 2 aA).bind fun t7=>(kW false 1 h6 t7).bind fun t8=>(lS t8).bind fun t9=>(lE .lss aB t9).bind fun aF=>(kT true aF (kY aC h6) (kY (.tuple []) h6)).bind (kZ (fun aH aG=>(kT true aF ((lE .leq aH (.int .i64 200)).bind fun aI=>kY aI aG) (kY (.tuple []) aG)).bind (kZ (fun t14 aE=>(mA aF t14 (.bool false)).bind fun aJ=>lP aJ ((lE .add aC (.int .i64 1)).bind fun aK=>(kV 2 aA).bind fun aL=>(kW false 1 aE aL).bind fun aM=>(kX 5 aM aB).bind fun aN=>(kV 0 aN).bind fun aO=>(kW false 1 aE aO).bind fun aP=>(lS aP).bind fun aQ=>(xO aQ (.int .i64 500)).bind fun aR=>(lE .add aK aR).bind fun aS=>(lE .add aB (.int .i64 1)).bind fun aT=>lJ m .normal [aA,aD,aS,aT] aE) (lJ m (.exit 0) [aA,aD,aC,aB] aE)) (fun _ _=>none))) (fun _ _=>none))) (List.getD s.1 0 .junk) (List.getD s.1 1 .junk) (List.getD s.1 2 .junk) (List.getD s.1 3 .junk) s.2
noncomputable def m38 (K:lD) (a0:kS) (h0:kU):Option (nZ×kU) :=
 (lK (mH 5 h0 a0) fun t0 h1=>(mQ (K_ K (List.length h1)) ([t0,(.bool false),(.int .i64 0),(.int .i64 0)],h1)).bind fun EW=>(fun aF aA aC aG aE=>Ex.mC EW.1 none (fun aH=>Ex.inBlock 0 aH ((lE .leq aC (.int .i64 200)).bind fun aK=>some (.ret,[aK],aE)) (fun aI=>some (aI,[aA],aE)))) (List.getD EW.2.1 0 .junk) (List.getD EW.2.1 1 .junk) (List.getD EW.2.1 2 .junk) (List.getD EW.2.1 3 .junk) EW.2.2).bind fun aD=>(fun aB aJ=>Ex.nK aD.1 (mX (List.length h0) aB aJ)) (List.getD aD.2.1 0 .junk) aD.2.2
theorem ap3 (K:lD) (a0:kS) (h0:kU):qA Tryd.prog nA mQ K 38 [a0] h0=m38 (mP nA K) a0 h0:=by kernel_rfl
noncomputable def m39 (K:lD) (h0:kU):Option (nZ×kU) :=
 ((nE [(.int .i64 0),(.int .i64 0),(.int .i64 0),(.int .i64 0),(.int .i64 0),(.int .i64 0)] [(0,1),(1,1),(2,1),(3,1),(4,1),(5,1)] [(0,(.int .i64 1)),(5,(.int .i64 1))]).bind fun t0=>(nE [(.int .i64 0),(.int .i64 0),(.int .i64 0),(.int .i64 0),(.int .i64 0),(.int .i64 0)] [(0,1),(1,1),(2,1),(3,1),(4,1),(5,1)] [(0,(.int .i64 10)),(1,(.int .i64 1))]).bind fun t1=>(nE [(.int .i64 0),(.int .i64 0),(.int .i64 0),(.int .i64 0),(.int .i64 0),(.int .i64 0)] [(0,1),(1,1),(2,1),(3,1),(4,1),(5,1)] [(0,(.int .i64 10)),(2,(.int .i64 1))]).bind fun t2=>lK (lU 3 6 [(.int .i64 0),(.int .i64 0),(.int .i64 0),(.int .i64 0),(.int .i64 0),(.int .i64 0)] [(0,t0),(1,t1),(2,t2)] h0) fun t3 h4=>(nE [(.int .i64 0),(.int .i64 0),(.int .i64 0),(.int .i64 0)] [(0,1),(1,1),(2,1),(3,1)] [(0,(.int .i64 3))]).bind fun t5=>(nE [(.slice [] .nil),(.int .i64 0),(.int .i64 0),(.int .i64 0),(.int .i64 0)] [(0,1),(1,4)] [(0,t3),(1,t5)]).bind fun t6=>lK (lU 1 5 [(.slice [] .nil),(.int .i64 0),(.int .i64 0),(.int .i64 0),(.int .i64 0)] [(0,t6)] h4) fun t7 h8=>(nE [(.int .i64 0),(.slice [] .nil),(.slice [] .nil),(.int .i64 0),(.int .i64 0)] [(0,1),(1,1),(2,1),(3,1),(4,1)] [(0,(.int .i64 2)),(2,t7)]).bind fun t9=>lK (mH 5 h8 (.agg [(.int .i64 0),(.slice [] .nil),(.slice [] .nil),(.int .i64 0),(.int .i64 0)])) fun aV aW=>(lT 5 aW aV t9).bind fun aK=>(kW true 5 aK aV).bind fun a7=>lL (K 40 [(kS.k8 a7)] aK) (fun t14 aX=>(lZ 0 t14).bind fun a8=>(lZ 1 t14).bind fun a_=>lK (mH 5 aX (.agg [(.int .i64 0),(.slice [] .nil),(.slice [] .nil),(.int .i64 0),(.int .i64 0)])) fun aD aY=>(lT 5 aY aD a8).bind fun aL=>(lE .eql a_ (.int .i64 0)).bind fun aB=>(kT true aB ((kV 2 aD).bind fun bA=>kY bA aL) (kY (.tuple []) aL)).bind (kZ (fun bB aF=>(kT true aB ((kW false 1 aF bB).bind fun bD=>kY bD aF) (kY (.tuple []) aF)).bind (kZ (fun bE aM=>(kT true aB ((lS bE).bind fun bF=>kY bF aM) (kY (.tuple []) aM)).bind (kZ (fun bG aN=>(kT true aB ((lE .eql bG (.int .i64 1)).bind fun bH=>kY bH aN) (kY (.tuple []) aN)).bind (kZ (fun bI aO=>(mA aB bI (.bool false)).bind fun aA=>(kT true aA ((kV 2 aD).bind fun bJ=>kY bJ aO) (kY (.tuple []) aO)).bind (kZ (fun bK aG=>(kT true aA ((kW false 1 aG bK).bind fun bL=>kY bL aG) (kY (.tuple []) aG)).bind (kZ (fun t39 aP=>(kT true aA ((kX 5 t39 (.int .i64 0)).bind fun bM=>kY bM aP) (kY (.tuple []) aP)).bind (kZ (fun bN aQ=>(kT true aA ((kV 0 bN).bind fun bO=>kY bO aQ) (kY (.tuple []) aQ)).bind (kZ (fun bP aH=>(kT true aA ((kW false 1 aH bP).bind fun bQ=>kY bQ aH) (kY (.tuple []) aH)).bind (kZ (fun bR aR=>(kT true aA ((lS bR).bind fun t50=>kY t50 aR) (kY (.tuple []) aR)).bind (kZ (fun bS aS=>(kT true aA ((lE .eql bS (.int .i64 0)).bind fun bT=>kY bT aS) (kY (.tuple []) aS)).bind (kZ (fun bU aT=>(mA aA bU (.bool false)).bind fun aE=>(kT true aE ((kV 0 aD).bind fun bV=>kY bV aT) (kY (.tuple []) aT)).bind (kZ (fun bW aI=>(kT true aE ((kW false 1 aI bW).bind fun bX=>kY bX aI) (kY (.tuple []) aI)).bind (kZ (fun bY aU=>(kT true aE ((lE .eql bY (.int .i64 2)).bind fun bZ=>kY bZ aU) (kY (.tuple []) aU)).bind (kZ (fun t64 aZ=>(mA aE t64 (.bool false)).bind fun b6=>some (.ret,[b6],aZ)) (fun _ _=>none))) (fun _ _=>none))) (fun _ _=>none))) (fun _ _=>none))) (fun _ _=>none))) (fun _ _=>none))) (fun _ _=>none))) (fun _ _=>none))) (fun _ _=>none))) (fun _ _=>none))) (fun _ _=>none))) (fun _ _=>none))) (fun _ _=>none))) (fun _ _=>none))) (fun _ _=>none)).bind fun aJ=>(fun aC a6=>Ex.nK aJ.1 (mX (List.length h0) aC a6)) (List.getD aJ.2.1 0 .junk) aJ.2.2
theorem ap4 (K:lD) (h0:kU):qA Tryd.prog nA mQ K 39 [] h0=m39 (mP nA K) h0:=by kernel_rfl
noncomputable def La (K:lD) (m:Nat) (s:List kS×kU):Option R :=
 (fun aG aH aI aF aE aA aC aD aB aJ=>(lE .lss aB aD).bind fun a7=>lP a7 ((kX 5 aC aB).bind fun t49=>(kW true 5 aJ t49).bind fun t50=>lK (mH 5 aJ (.agg [(.slice [] .nil),(.int .i64 0),(.int .i64 0),(.int .i64 0),(.int .i64 0)])) fun aN aW=>lK (oZ aW t50) fun a8 aX=>(lT 5 aX aN a8).bind fun aK=>(kW true 5 aK aN).bind fun a_=>(kX 1 aF aB).bind fun bA=>(kW false 1 aK bA).bind fun bB=>lL (K 80 [(kS.k8 a_),(kS.k8 bB)] aK) (fun bD aY=>(kX 5 aE aB).bind fun bE=>lK (oZ aY bD) fun bF aZ=>(lT 5 aZ bE bF).bind fun aO=>(kT false aA (kY aE aO) (kY (.tuple []) aO)).bind (kZ (fun bG aP=>(kT false aA (kY aB aP) (kY (.tuple []) aP)).bind (kZ (fun bH aQ=>(kT false aA ((kX 5 bG bH).bind fun bI=>kY bI aQ) (kY (.tuple []) aQ)).bind (kZ (fun bJ aR=>(kT false aA ((kV 0 bJ).bind fun bK=>kY bK aR) (kY (.tuple []) aR)).bind (kZ (fun t73 aL=>(kT false aA ((kW false 1 aL t73).bind fun bL=>kY bL aL) (kY (.tuple []) aL)).bind (kZ (fun bM aS=>(kT false aA ((lS bM).bind fun bN=>kY bN aS) (kY (.tuple []) aS)).bind (kZ (fun bO aT=>(kT false aA ((kV 0 aN).bind fun bP=>kY bP aT) (kY (.tuple []) aT)).bind (kZ (fun bQ aM=>(kT false aA ((kW false 1 aM bQ).bind fun bR=>kY bR aM) (kY (.tuple []) aM)).bind (kZ (fun bS aU=>(kT false aA ((lS bS).bind fun bT=>kY bT aU) (kY (.tuple []) aU)).bind (kZ (fun bU aV=>(kT false aA ((lE .lss bO bU).bind fun bV=>kY bV aV) (kY (.tuple []) aV)).bind (kZ (fun bW a6=>(mA aA (.bool true) bW).bind fun bX=>(lE .add aB (.int .i64 1)).bind fun bY=>lJ m .normal [aG,aH,aI,aF,aE,bX,aC,aD,bY] a6) (fun _ _=>none))) (fun _ _=>none))) (fun _ _=>none))) (fun _ _=>none))) (fun _ _=>none))) (fun _ _=>none))) (fun _ _=>none))) (fun _ _=>none))) (fun _ _=>none))) (fun _ _=>none))) (fun _ _=>none)) (lJ m (.exit 2) [aG,aH,aI,aF,aE,aA,aC,aD,aB] aJ)) (List.getD s.1 0 .junk) (List.getD s.1 1 .junk) (List.getD s.1 2 .junk) (List.getD s.1 3 .junk) (List.getD s.1 4 .junk) (List.getD s.1 5 .junk) (List.getD s.1 6 .junk) (List.getD s.1 7 .junk) (List.getD s.1 8 .junk) s.2
noncomputable def Hw (K:lD) (m:Nat) (s:List kS×kU):Option R :=
 (fun aB aO aP bA=>((kW true 5 bA aB).bind fun bF=>lL (K 27 [(kS.k8 bF)] bA) (fun a8 bB=>(lZ 0 a8).bind fun t27=>(lZ 1 a8).bind fun bG=>(lZ 2 a8).bind fun bM=>(kV 2 aB).bind fun t30=>(kW false 1 bB t30).bind fun bH=>(lS bH).bind fun bI=>lK (nM 5 56 [(.slice [] .nil),(.int .i64 0),(.int .i64 0),(.int .i64 0),(.int .i64 0)] bI bB) fun bJ aX=>(kV 2 aB).bind fun bK=>(kW false 1 aX bK).bind fun bD=>(lS bD).bind fun bL=>(mQ (La K (List.length aX)) ([aB,aO,aP,bG,bJ,(.bool false),bD,bL,(.int .i64 0)],aX)).bind fun aE=>(fun aA aC aI a_ aK aL aQ aR aS aM=>Ex.mC aE.1 none (fun bE=>Ex.inBlock 2 bE ((kV 2 aA).bind fun aY=>lK (oZ aM aK) fun aZ aU=>(lT 1 aU aY aZ).bind fun aJ=>lP aL (some ((.exit 1),[aA,aC,aI],aJ)) ((kW true 5 aJ aA).bind fun a6=>lK (oZ aJ a6) fun a7 aV=>(lT 5 aV aC a7).bind fun aW=>some (.ret,[aA,aC,(.int .i64 0)],aW))) (fun aT=>some (aT,[aA,aC,aI],aM)))) (List.getD aE.2.1 0 .junk) (List.getD aE.2.1 1 .junk) (List.getD aE.2.1 2 .junk) (List.getD aE.2.1 3 .junk) (List.getD aE.2.1 4 .junk) (List.getD aE.2.1 5 .junk) (List.getD aE.2.1 6 .junk) (List.getD aE.2.1 7 .junk) (List.getD aE.2.1 8 .junk) aE.2.2) (fun _ _=>none)).bind fun aD=>(fun aF aG aH aN=>Ex.inBlock 1 aD.1 (lJ m .normal [aF,aG,aH] aN) (fun Gk=>lJ m Gk [aF,aG,aH] aN)) (List.getD aD.2.1 0 .junk) (List.getD aD.2.1 1 .junk) (List.getD aD.2.1 2 .junk) aD.2.2) (List.getD s.1 0 .junk) (List.getD s.1 1 .junk) (List.getD s.1 2 .junk) s.2
noncomputable def m40 (K:lD) (a0:kS) (h0:kU):Option (nZ×kU) :=
 (lK (mH 5 h0 a0) fun t0 h1=>lK (mH 5 h1 (.agg [(.int .i64 0),(.slice [] .nil),(.slice [] .nil),(.int .i64 0),(.int .i64 0)])) fun t2 h3=>(kW true 5 h3 t0).bind fun t4=>lL (K 30 [(kS.k8 t4)] h3) (fun t5 h6=>(lE .neq t5 (.int .i64 0)).bind fun t7=>lP t7 ((nE [(.int .i64 0),(.slice [] .nil),(.slice [] .nil),(.int .i64 0),(.int .i64 0)] [(0,1),(1,1),(2,1),(3,1),(4,1)] []).bind fun t8=>lK (oZ h6 t8) fun t9 aN=>(lT 5 aN t2 t9).bind fun aO=>some (.ret,[t2,t5],aO)) ((kV 1 t0).bind fun aR=>(kW false 1 h6 aR).bind fun aS=>lK (nG 4 32 h6 (.slice [] .nil) aS) fun t14 aP=>(kV 1 t0).bind fun aT=>lK (oZ aP t14) fun aU aQ=>(lT 1 aQ aT aU).bind fun aM=>(mQ (Hw K (List.length aM)) ([t0,t2,(.int .i64 0)],aM)).bind fun aA=>(fun aL aB aC aG=>Ex.mC aA.1 none (fun aI=>Ex.inBlock 0 aI (some (.normal,[aB,aC],aG)) (fun aJ=>some (aJ,[aB,aC],aG)))) (List.getD aA.2.1 0 .junk) (List.getD aA.2.1 1 .junk) (List.getD aA.2.1 2 .junk) aA.2.2)) (fun _ _=>none)).bind fun aD=>(fun aE aF aH=>Ex.nK aD.1 ((kW true 5 aH aE).bind fun aK=>mX (List.length h0) (.tuple [aK,aF]) aH)) (List.getD aD.2.1 0 .junk) (List.getD aD.2.1 1 .junk) aD.2.2
theorem aaM (K:lD) (a0:kS) (h0:kU):qA Tryd.prog nA mQ K 40 [a0] h0=m40 (mP nA K) a0 h0:=by kernel_rfl
noncomputable def Lh (K:lD) (m:Nat) (s:List kS×kU):Option R :=
 (fun aF aE aD aB aC aA aQ=>(lE .lss aA aC).bind fun a8=>lP a8 ((kX 6 aB aA).bind fun a_=>(kW true 6 aQ a_).bind fun bA=>lK (mH 6 aQ (.agg [(.int .i64 0),(.int .i64 0),(.int .i64 0),(.int .i64 0),(.int .i64 0),(.int .i64 0)])) fun aO aW=>(lT 6 aW aO bA).bind fun aR=>(lE .add aA (.int .i64 1)).bind fun bB=>(kX 1 aE bB).bind fun t30=>(kW false 1 aR t30).bind fun bD=>(kV 1 aO).bind fun bE=>(kW false 1 aR bE).bind fun bF=>lL (K 156 [(kS.k8 bD),(kS.k8 bF)] aR) (fun aV aS=>(lZ 0 aV).bind fun bR=>(lZ 1 aV).bind fun aP=>(kT false aP ((kW true 6 aS aO).bind fun bG=>kY bG aS) (kY (.tuple []) aS)).bind (kZ (fun t39 aT=>(kT false aP (lL (K 157 [(kS.k8 t39)] aT) (fun bH aX=>kY bH aX) wS) (kY (.tuple []) aT)).bind (kZ (fun bI aU=>(kT false aP ((xZ .not bI).bind fun bJ=>kY bJ aU) (kY (.tuple []) aU)).bind (kZ (fun bK aN=>(mA aP (.bool true) bK).bind fun bL=>(lP bL ((kV 0 aD).bind fun t49=>(kW false 1 aN t49).bind fun t50=>(kW true 6 aN aO).bind fun bM=>lK (lU 1 6 [(.int .i64 0),(.int .i64 0),(.int .i64 0),(.int .i64 0),(.int .i64 0),(.int .i64 0)] [(0,bM)] aN) fun bN aY=>lK (nG 6 48 aY t50 bN) fun bO aZ=>(kV 0 aD).bind fun bP=>(lT 1 aZ bP bO).bind fun a6=>some (.normal,[aF,aE,aD,aB,aC,aA],a6)) (some (.normal,[aF,aE,aD,aB,aC,aA],aN))).bind fun aG=>(fun aK aL aM aH aI aJ a7=>Ex.uO aG.1 ((lE .add aJ (.int .i64 1)).bind fun bQ=>lJ m .normal [aK,aL,aM,aH,aI,bQ] a7)) (List.getD aG.2.1 0 .junk) (List.getD aG.2.1 1 .junk) (List.getD aG.2.1 2 .junk) (List.getD aG.2.1 3 .junk) (List.getD aG.2.1 4 .junk) (List.getD aG.2.1 5 .junk) aG.2.2) (fun _ _=>none))) (fun _ _=>none))) (fun _ _=>none))) (fun _ _=>none)) (lJ m (.exit 0) [aF,aE,aD,aB,aC,aA] aQ)) (List.getD s.1 0 .junk) (List.getD s.1 1 .junk) (List.getD s.1 2 .junk) (List.getD s.1 3 .junk) (List.getD s.1 4 .junk) (List.getD s.1 5 .junk) s.2
noncomputable def m80 (K:lD) (a0 a1:kS) (h0:kU):Option (nZ×kU) :=
 (lK (mH 5 h0 a0) fun t0 h1=>lK (mH 5 h1 (.agg [(.slice [] .nil),(.int .i64 0),(.int .i64 0),(.int .i64 0),(.int .i64 0)])) fun t2 h3=>(kW true 5 h3 t0).bind fun t4=>lL (K 31 [(kS.k8 t4),(kS.k8 a1)] h3) (fun t5 h6=>(kV 1 t0).bind fun t7=>(kW true 4 h6 t7).bind fun t8=>(nE [(.slice [] .nil),(.int .i64 0),(.int .i64 0),(.int .i64 0),(.int .i64 0)] [(0,1),(1,4)] [(1,t8)]).bind fun t9=>lK (mH 5 h6 (.agg [(.slice [] .nil),(.int .i64 0),(.int .i64 0),(.int .i64 0),(.int .i64 0)])) fun aL aP=>(lT 5 aP aL t9).bind fun aE=>(kV 0 t0).bind fun aR=>(kW false 1 aE aR).bind fun t14=>(lS t14).bind fun aS=>(mQ (Lh K (List.length aE)) ([t2,t5,aL,t14,aS,(.int .i64 0)],aE)).bind fun aB=>(fun aA aM aD aH aI aJ aF=>Ex.mC aB.1 none (fun aN=>Ex.inBlock 0 aN ((kW true 5 aF aD).bind fun aT=>(lT 5 aF aA aT).bind fun aQ=>some (.ret,[aA],aQ)) (fun aO=>some (aO,[aA],aF)))) (List.getD aB.2.1 0 .junk) (List.getD aB.2.1 1 .junk) (List.getD aB.2.1 2 .junk) (List.getD aB.2.1 3 .junk) (List.getD aB.2.1 4 .junk) (List.getD aB.2.1 5 .junk) aB.2.2) (fun _ _=>none)).bind fun aG=>(fun aC aK=>Ex.nK aG.1 ((kW true 5 aK aC).bind fun aU=>mX (List.length h0) aU aK)) (List.getD aG.2.1 0 .junk) aG.2.2
theorem aqV (K:lD) (a0 a1:kS) (h0:kU):qA Tryd.prog nA mQ K 80 [a0,a1] h0=m80 (mP nA K) a0 a1 h0:=by kernel_rfl
noncomputable def Er (K:lD) (m:Nat) (s:List kS×kU):Option R :=
 (fun aB aC aF aG aH aD aE h8=>(lE .lss aD aE).bind fun t9=>lP t9 ((lE .add aD aE).bind fun aS=>(rR .u64 aS).bind fun aT=>(lE .shr aT (.int .u64 1)).bind fun aU=>(rR .i64 aU).bind fun aP=>(kX 1 aB aP).bind fun t14=>(kW false 1 h8 t14).bind fun aV=>lL (K 189 [(kS.k8 aV),(kS.k8 aC)] h8) (fun aW aQ=>(lP aW ((lE .add aP (.int .i64 1)).bind fun aX=>some (.normal,[aB,aC,aF,aG,aH,aX,aE],aQ)) (some (.normal,[aB,aC,aF,aG,aH,aD,aP],aQ))).bind fun aA=>(fun aI aJ aK aL aM aN aO aR=>Ex.uO aA.1 (lJ m .normal [aI,aJ,aK,aL,aM,aN,aO] aR)) (List.getD aA.2.1 0 .junk) (List.getD aA.2.1 1 .junk) (List.getD aA.2.1 2 .junk) (List.getD aA.2.1 3 .junk) (List.getD aA.2.1 4 .junk) (List.getD aA.2.1 5 .junk) (List.getD aA.2.1 6 .junk) aA.2.2) (fun _ _=>none)) (lJ m (.exit 0) [aB,aC,aF,aG,aH,aD,aE] h8)) (List.getD s.1 0 .junk) (List.getD s.1 1 .junk) (List.getD s.1 2 .junk) (List.getD s.1 3 .junk) (List.getD s.1 4 .junk) (List.getD s.1 5 .junk) (List.getD s.1 6 .junk) s.2
noncomputable def ag6 (K:lD) (a0 a1:kS) (h0:kU):Option (nZ×kU) :=
 ((lS a0).bind fun t0=>(mQ (Er K (List.length h0)) ([a0,a1,(.int .i64 0),(.bool false),t0,(.int .i64 0),t0],h0)).bind fun aB=>(fun aD aE aF aH aJ aA a_ aL=>Ex.mC aB.1 none (fun bA=>Ex.inBlock 0 bA ((lE .lss aA aJ).bind fun t39=>(kT true t39 (kY aD aL) (kY (.tuple []) aL)).bind (kZ (fun bH aP=>(kT true t39 (kY aA aP) (kY (.tuple []) aP)).bind (kZ (fun bI aQ=>(kT true t39 ((kX 1 bH bI).bind fun bJ=>kY bJ aQ) (kY (.tuple []) aQ)).bind (kZ (fun bK aM=>(kT true t39 ((kW false 1 aM bK).bind fun bL=>kY bL aM) (kY (.tuple []) aM)).bind (kZ (fun bM aR=>(kT true t39 (kY aE aR) (kY (.tuple []) aR)).bind (kZ (fun t50 aS=>(kT true t39 ((lE .eql bM t50).bind fun bN=>kY bN aS) (kY (.tuple []) aS)).bind (kZ (fun bO aT=>(kT true t39 (kY bO aT) (kY (.tuple []) aT)).bind (kZ (fun aC aU=>(kT false aC (kY aD aU) (kY (.tuple []) aU)).bind (kZ (fun bP aV=>(kT false aC (kY aA aV) (kY (.tuple []) aV)).bind (kZ (fun bQ aW=>(kT false aC ((kX 1 bP bQ).bind fun bR=>kY bR aW) (kY (.tuple []) aW)).bind (kZ (fun bS aN=>(kT false aC ((kW false 1 aN bS).bind fun t64=>kY t64 aN) (kY (.tuple []) aN)).bind (kZ (fun bT aX=>(kT false aC (lL (K 190 [(kS.k8 bT)] aX) (fun bU bD=>kY bU bD) wS) (kY (.tuple []) aX)).bind (kZ (fun bV aY=>(kT false aC (kY bV aY) (kY (.tuple []) aY)).bind (kZ (fun aO aZ=>(kT true aO (kY aE aZ) (kY (.tuple []) aZ)).bind (kZ (fun t73 a6=>(kT true aO (lL (K 190 [(kS.k8 t73)] a6) (fun bW bE=>kY bW bE) wS) (kY (.tuple []) a6)).bind (kZ (fun bX a7=>(kT false aC ((mA aO bX (.bool false)).bind fun bY=>kY bY a7) (kY (.tuple []) a7)).bind (kZ (fun bZ a8=>(kT true t39 ((mA aC (.bool true) bZ).bind fun b6=>kY b6 a8) (kY (.tuple []) a8)).bind (kZ (fun t83 bF=>(mA t39 t83 (.bool false)).bind fun b7=>some (.ret,[aA,b7],bF)) (fun _ _=>none))) (fun _ _=>none))) (fun _ _=>none))) (fun _ _=>none))) (fun _ _=>none))) (fun _ _=>none))) (fun _ _=>none))) (fun _ _=>none))) (fun _ _=>none))) (fun _ _=>none))) (fun _ _=>none))) (fun _ _=>none))) (fun _ _=>none))) (fun _ _=>none))) (fun _ _=>none))) (fun _ _=>none))) (fun _ _=>none))) (fun bB=>some (bB,[aF,aH],aL)))) (List.getD aB.2.1 0 .junk) (List.getD aB.2.1 1 .junk) (List.getD aB.2.1 2 .junk) (List.getD aB.2.1 3 .junk) (List.getD aB.2.1 4 .junk) (List.getD aB.2.1 5 .junk) (List.getD aB.2.1 6 .junk) aB.2.2).bind fun aK=>(fun aG aI bG=>Ex.nK aK.1 (mX (List.length h0) (.tuple [aG,aI]) bG)) (List.getD aK.2.1 0 .junk) (List.getD aK.2.1 1 .junk) aK.2.2
theorem ag7 (K:lD) (a0 a1:kS) (h0:kU):qA Tryd.prog nA mQ K 156 [a0,a1] h0=ag6 (mP nA K) a0 a1 h0:=by kernel_rfl
noncomputable def ag8 (K:lD) (a0:kS) (h0:kU):Option (nZ×kU) :=
 (lK (mH 6 h0 a0) fun t0 h1=>(kV 0 t0).bind fun t2=>(kW false 1 h1 t2).bind fun t3=>(lE .neq t3 (.int .i64 18)).bind fun t4=>(kT true t4 ((kV 0 t0).bind fun t5=>kY t5 h1) (kY (.tuple []) h1)).bind (kZ (fun t6 h7=>(kT true t4 ((kW false 1 h7 t6).bind fun t8=>kY t8 h7) (kY (.tuple []) h7)).bind (kZ (fun t9 aD=>(kT true t4 ((lE .neq t9 (.int .i64 19)).bind fun aI=>kY aI aD) (kY (.tuple []) aD)).bind (kZ (fun aJ aB=>(mA t4 aJ (.bool false)).bind fun t14=>(kT true t14 ((kW true 6 aB t0).bind fun aK=>kY aK aB) (kY (.tuple []) aB)).bind (kZ (fun aL aE=>(kT true t14 (lL (K 73 [(kS.k8 aL)] aE) (fun aM aF=>kY aM aF) wS) (kY (.tuple []) aE)).bind (kZ (fun aN aG=>(mA t14 aN (.bool false)).bind fun aO=>some (.ret,[aO],aG)) (fun _ _=>none))) (fun _ _=>none))) (fun _ _=>none))) (fun _ _=>none))) (fun _ _=>none))).bind fun aC=>(fun aA aH=>Ex.nK aC.1 (mX (List.length h0) aA aH)) (List.getD aC.2.1 0 .junk) aC.2.2
theorem ag9 (K:lD) (a0:kS) (h0:kU):qA Tryd.prog nA mQ K 157 [a0] h0=ag8 (mP nA K) a0 h0:=by kernel_rfl
noncomputable def ax5 (K:lD) (a0:kS) (h0:kU):Option (nZ×kU) :=
 ((lE .neq a0 a0).bind fun t0=>some (.ret,[t0],h0)).bind fun r1=>(fun aA h3=>Ex.nK r1.1 (mX (List.length h0) aA h3)) (List.getD r1.2.1 0 .junk) r1.2.2
theorem ahC (K:lD) (a0:kS) (h0:kU):qA Tryd.prog nA mQ K 162 [a0] h0=ax5 (mP nA K) a0 h0:=by kernel_rfl
noncomputable def ax7 (K:lD) (a0 a1:kS) (h0:kU):Option (nZ×kU) :=
 (lL (K 162 [(kS.k8 a0)] h0) (fun t0 h1=>(kT true t0 (kY a1 h1) (kY (.tuple []) h1)).bind (kZ (fun t2 h3=>(kT true t0 (lL (K 162 [(kS.k8 t2)] h3) (fun t4 h5=>kY t4 h5) wS) (kY (.tuple []) h3)).bind (kZ (fun t6 h7=>(kT true t0 ((xZ .not t6).bind fun t8=>kY t8 h7) (kY (.tuple []) h7)).bind (kZ (fun t9 aD=>(mA t0 t9 (.bool false)).bind fun aB=>(kT false aB (kY a0 aD) (kY (.tuple []) aD)).bind (kZ (fun aI aE=>(kT false aB (kY a1 aE) (kY (.tuple []) aE)).bind (kZ (fun t14 aF=>(kT false aB ((lE .lss aI t14).bind fun aJ=>kY aJ aF) (kY (.tuple []) aF)).bind (kZ (fun aK aG=>(mA aB (.bool true) aK).bind fun aL=>some (.ret,[aL],aG)) (fun _ _=>none))) (fun _ _=>none))) (fun _ _=>none))) (fun _ _=>none))) (fun _ _=>none))) (fun _ _=>none))) (fun _ _=>none)).bind fun aC=>(fun aA aH=>Ex.nK aC.1 (mX (List.length h0) aA aH)) (List.getD aC.2.1 0 .junk) aC.2.2
theorem ahK (K:lD) (a0 a1:kS) (h0:kU):qA Tryd.prog nA mQ K 189 [a0,a1] h0=ax7 (mP nA K) a0 a1 h0:=by kernel_rfl
noncomputable def ax8 (K:lD) (a0:kS) (h0:kU):Option (nZ×kU) :=
 ((lE .neq a0 a0).bind fun t0=>some (.ret,[t0],h0)).bind fun r1=>(fun aA h3=>Ex.nK r1.1 (mX (List.length h0) aA h3)) (List.getD r1.2.1 0 .junk) r1.2.2
theorem ahL (K:lD) (a0:kS) (h0:kU):qA Tryd.prog nA mQ K 190 [a0] h0=ax8 (mP nA K) a0 h0:=by kernel_rfl
end Go.Proofs.YtkeoalhglkfbkaaDoor


namespace Go.Proofs.YtkeoalhglkfbkaaDoor
open Go Hk
def sA (o:Op):Bool:=decide (o.kind≠18) && decide (o.kind≠19) && (mM o.kind).dst
def nN (bs:List lR) (x:Term):Int→Prop:=fun t=>pO bs t x
def Step (bs bs':List lR):Prop:=∃(i:Nat) (b:lR) (pre:List Op) (o:Op) (post:List Op),bs[i]?=some b∧b.ops=pre++o::post∧sA o=true∧¬pA post b.term (nN bs b.term) o.dst∧bs'=bs.set i ⟨pre++post,b.term⟩
inductive vK:List lR→List lR→Prop
 | refl (a):vK a a
 | head {a b c}:Step a b→vK b c→vK a c
theorem vK.trans {a b c:List lR}(h:vK a b) (h':vK b c):vK a c:=by
 induction h with
 | refl=>exact h'
 | head s _ ih=>exact .head s (ih h')
theorem vK.snoc {a b c:List lR}(h:vK a b) (h':Step b c):vK a c:=h.trans (.head h' (.refl _))
def Norm (bs:List lR):Prop:=∀bs',¬Step bs bs'
theorem rL (o:Op) (r:List Op) (x:Term) (S:Int→Prop) (t:Int):pA (o::r) x S t↔t∈mU o∨(pA r x S t∧¬((mM o.kind).dst=true∧o.dst=t)):=Iff.rfl
theorem DV {r r':List Op}{x x':Term}{S S':Int→Prop}(h:∀t,pA r x S t→pA r' x' S' t):∀(l:List Op) (t:Int),pA (l++r) x S t→pA (l++r') x' S' t
 | [],t=>h t
 | o::l,t=>fun ht=>by
  rw [List.cons_append,rL] at ht ⊢
  rcases ht with h1 | ⟨h1,h2⟩
  ·exact .inl h1
  ·exact .inr ⟨DV h l t h1,h2⟩
theorem E9 {o:Op}{post:List Op}{x:Term}{S:Int→Prop}(hd:¬pA post x S o.dst) (pre:List Op) (t:Int):pA (pre++post) x S t→pA (pre++o::post) x S t :=
 DV (fun t ht=>by
  rw [rL]
  exact .inr ⟨ht,fun⟨_,h⟩=>hd (h ▸ ht)⟩) pre t
theorem Un {bs bs':List lR}(h:Step bs bs') {t:Int}{k:Nat}(hr:Reach bs' t k):Reach bs t k:=by
 obtain⟨i,b,pre,o,post,hb,ho,hp,hd,rfl⟩:=h
 refine E5 (W:=fun k t=>Reach bs t k) (fun k b' hb' t ht=>?_) hr
 rw [List.getElem?_set] at hb'
 by_cases hik:i=k
 ·subst hik
  have hi:i < bs.length:=(List.getElem?_eq_some_iff.1 hb).1
  rw [if_pos rfl,if_pos hi] at hb'
  cases hb'
  rw [yD hb]
  unfold Ch at ht ⊢
  rw [ho]
  exact E9 hd pre t ht
 ·rw [if_neg hik] at hb'
  rw [yD hb']
  exact ht
theorem DP {bs bs':List lR}(h:Step bs bs') {x:Term}{t:Int}(hr:nN bs' x t):nN bs x t:=by
 obtain⟨j,hj,h1⟩:=hr
 exact⟨j,hj,Un h h1⟩
theorem Ru {bs bs':List lR}(h:vK bs bs') {x:Term}{t:Int}(hr:nN bs' x t):nN bs x t:=by
 induction h with
 | refl=>exact hr
 | head s _ ih=>exact DP s (ih hr)
theorem PB {bs q1 q2:List lR}(h1:Step bs q1) (h2:Step bs q2):q1=q2∨∃r,Step q1 r∧Step q2 r:=by
 have g1:=h1
 have g2:=h2
 obtain⟨i,b,pre,o,post,hb,ho,hp,hd,rfl⟩:=h1
 obtain⟨j,c,pre2,u,post2,hc,hu,hq,he,rfl⟩:=h2
 have hi:i < bs.length:=(List.getElem?_eq_some_iff.1 hb).1
 have hj:j < bs.length:=(List.getElem?_eq_some_iff.1 hc).1
 have mono1:∀x t,nN (bs.set i ⟨pre++post,b.term⟩) x t→nN bs x t:=fun x t=>DP g1
 have mono2:∀x t,nN (bs.set j ⟨pre2++post2,c.term⟩) x t→nN bs x t:=fun x t=>DP g2
 by_cases hij:i=j
 ·subst hij
  rw [hb] at hc; cases hc
  rw [ho] at hu
  have key:∀(pre post pre2 post2 mid:List Op) (o u:Op),b.ops=pre++o::post→pre2=pre++o::mid→post=mid++u::post2→sA o=true→sA u=true →
    ¬pA post b.term (nN bs b.term) o.dst→¬pA post2 b.term (nN bs b.term) u.dst →
    (∀x t,nN (bs.set i ⟨pre++post,b.term⟩) x t→nN bs x t)→(∀x t,nN (bs.set i ⟨pre2++post2,b.term⟩) x t→nN bs x t) →
    ∃r,Step (bs.set i ⟨pre++post,b.term⟩) r∧Step (bs.set i ⟨pre2++post2,b.term⟩) r:=by
   intro pre post pre2 post2 mid o u ho e1 e2 hp hq hd he m1 m2
   subst e1; subst e2
   refine⟨bs.set i ⟨pre++(mid++post2),b.term⟩,⟨i,⟨pre++(mid++u::post2),b.term⟩,pre++mid,u,post2,?_,?_,hq,?_,?_⟩,⟨i,⟨pre++o::mid++post2,b.term⟩,pre,o,mid++post2,?_,?_,hp,?_,?_⟩⟩
   ·simp [hi]
   ·simp
   ·exact fun h=>he (uC (fun t=>m1 _ t) h)
   ·simp
   ·simp [hi]
   ·simp
   ·intro h
    refine hd (E9 he mid _ (uC (fun t=>m2 _ t) h))
   ·simp
  rcases List.append_eq_append_iff.1 hu with ⟨m,e1,e2⟩ | ⟨m,e1,e2⟩
  ·cases m with
   | nil =>
    simp only [List.append_nil,List.nil_append,List.cons.injEq] at e1 e2
    obtain⟨rfl,rfl⟩:=e2
    subst e1
    exact .inl rfl
   | cons x m =>
    simp only [List.cons_append,List.cons.injEq] at e2
    obtain⟨rfl,e2⟩:=e2
    exact .inr (key pre post pre2 post2 m o u ho e1 e2 hp hq hd he mono1 mono2)
  ·cases m with
   | nil =>
    simp only [List.append_nil,List.nil_append,List.cons.injEq] at e1 e2
    obtain⟨rfl,rfl⟩:=e2
    subst e1
    exact .inl rfl
   | cons x m =>
    simp only [List.cons_append,List.cons.injEq] at e2
    obtain⟨rfl,e2⟩:=e2
    obtain⟨r,r1,r2⟩:=key pre2 post2 pre post m u o (ho.trans hu) e1 e2 hq hp he hd mono2 mono1
    exact .inr ⟨r,r2,r1⟩
 ·refine .inr ⟨(bs.set i ⟨pre++post,b.term⟩).set j ⟨pre2++post2,c.term⟩,⟨j,c,pre2,u,post2,?_,hu,hq,?_,rfl⟩,⟨i,b,pre,o,post,?_,ho,hp,?_,?_⟩⟩
  ·rw [List.getElem?_set_ne hij]; exact hc
  ·exact fun h=>he (uC (fun t=>mono1 _ t) h)
  ·rw [List.getElem?_set_ne (Ne.symm hij)]; exact hb
  ·exact fun h=>hd (uC (fun t=>mono2 _ t) h)
  ·exact List.set_comm _ _ hij
theorem Um {a a' q:List lR}(h:vK a q) (hn:Norm q) (s:Step a a'):vK a' q:=by
 induction h generalizing a' with
 | refl=>exact absurd s (hn _)
 | head s1 _ ih =>
  rcases PB s1 s with rfl | ⟨r,r1,r2⟩
  ·assumption
  ·exact .head r2 (ih hn r1)
theorem Q6 {a q1 q2:List lR}(h1:vK a q1) (n1:Norm q1) (h2:vK a q2) (n2:Norm q2):q1=q2:=by
 induction h1 with
 | refl=>cases h2 with
  | refl=>rfl
  | head s _=>exact absurd s (n1 _)
 | head s _ ih=>exact ih n1 (Um h2 n2 s)
open Classical in
noncomputable def wZ (x:Term) (S:Int→Prop):List Op→List Op
 | []=>[]
 | o::r=>if sA o=true∧¬pA r x S o.dst then wZ x S r else o::wZ x S r
theorem Hi (x:Term) (S:Int→Prop):∀l,(wZ x S l).length≤l.length
 | []=>Nat.le_refl _
 | o::r=>by
  have:=Hi x S r
  unfold wZ
  split <;> simp <;> omega
theorem Hg (x:Term) (S:Int→Prop):∀{l},(wZ x S l).length=l.length→wZ x S l=l∧∀pre o post,l=pre++o::post→¬(sA o=true∧¬pA post x S o.dst)
 | [],_=>⟨rfl,fun pre o post h=>by simp at h⟩
 | o::r,h=>by
  have hl:=Hi x S r
  unfold wZ at h ⊢
  split at h
  ·simp at h; omega
  ·rename_i hc
   rw [if_neg hc]
   obtain⟨i1,i2⟩:=Hg x S (l:=r) (by simpa using h)
   refine⟨by rw [i1],fun pre u post hp=>?_⟩
   cases pre with
   | nil=>simp at hp; obtain⟨rfl,rfl⟩:=hp; exact hc
   | cons y pre=>simp at hp; exact i2 pre u post hp.2
theorem Uk {bs cur:List lR}{i:Nat}{x:Term}(hs:vK bs cur):∀(l acc:List Op),cur[i]?=some ⟨acc++l,x⟩→vK bs (cur.set i ⟨acc++wZ x (nN bs x) l,x⟩):=by
 intro l
 induction l generalizing cur with
 | nil =>
  intro acc h
  have e:cur.set i ⟨acc++wZ x (nN bs x) [],x⟩=cur:=by
   have hi:=(List.getElem?_eq_some_iff.1 h).1
   have hg:=(List.getElem?_eq_some_iff.1 h).2
   show cur.set i ⟨acc++[],x⟩=cur
   rw [←hg,List.set_getElem_self]
  rw [e]; exact hs
 | cons o r ih =>
  intro acc h
  have hi:=(List.getElem?_eq_some_iff.1 h).1
  unfold wZ
  split
  ·rename_i hc
   have st:Step cur (cur.set i ⟨acc++r,x⟩):=⟨i,⟨acc++o::r,x⟩,acc,o,r,h,rfl,hc.1,fun ht=>hc.2 (uC (fun t hb=>Ru hs hb) ht),rfl⟩
   have:=ih (hs.snoc st) acc (by simp [hi])
   rwa [List.set_set] at this
  ·have:=ih hs (acc++[o]) (by rw [h]; simp)
   simpa using this
noncomputable def tP (bs:List lR):List lR:=bs.map fun b=>⟨wZ b.term (nN bs b.term) b.ops,b.term⟩
theorem Ul (bs:List lR):vK bs (tP bs):=by
 have key:∀i,i≤bs.length→vK bs ((tP bs).take i++bs.drop i):=by
  intro i
  induction i with
  | zero=>intro _; simpa using vK.refl bs
  | succ i ih =>
   intro hi
   have h0:=ih (by omega)
   have hl:((tP bs).take i).length=i:=by simp [tP]; omega
   have hb:((tP bs).take i++bs.drop i)[i]?=some (bs[i]):=by
    rw [List.getElem?_append_right (by omega),hl,Nat.sub_self,List.getElem?_drop,Nat.add_zero,List.getElem?_eq_getElem (by omega)]
   have:=Uk (x:=bs[i].term) h0 bs[i].ops [] hb
   have e:((tP bs).take i++bs.drop i).set i ⟨[]++wZ bs[i].term (nN bs bs[i].term) bs[i].ops,bs[i].term⟩=(tP bs).take (i+1)++bs.drop (i+1):=by
    rw [List.set_append_right _ _ (by omega),hl,Nat.sub_self,List.drop_eq_getElem_cons (by omega:i < bs.length),List.set_cons_zero,List.take_succ_eq_append_getElem (by simp [tP]; omega)]
    simp [tP]
   rw [e] at this
   exact this
 have h:=key bs.length (Nat.le_refl _)
 have e:(tP bs).take bs.length=tP bs:=List.take_of_length_le (by simp [tP])
 rw [e,List.drop_length,List.append_nil] at h
 exact h
def Bu (bs:List lR):Nat:=(bs.map fun b=>b.ops.length).sum
theorem Uc {bs:List lR}(h:∀b∈bs,(wZ b.term (nN bs b.term) b.ops).length=b.ops.length):tP bs=bs∧Norm bs:=by
 constructor
 ·unfold tP
  have:bs.map (fun b=>(⟨wZ b.term (nN bs b.term) b.ops,b.term⟩:lR))=bs.map id:=List.map_congr_left fun b hb=>by
   rw [(Hg _ _ (h b hb)).1]; rfl
  rw [this,List.map_id]
 ·rintro q ⟨i,b,pre,o,post,hb,ho,hp,hd,_⟩
  exact(Hg _ _ (h b (List.mem_of_getElem? hb))).2 pre o post ho ⟨hp,hd⟩
end Go.Proofs.YtkeoalhglkfbkaaDoor


namespace Go.Proofs.YtkeoalhglkfbkaaDoor
open Go Hk Go.Proofs.Wd
theorem aA8 (o:Op) (h:kU):KK 157 [.agg o.cells] h=some (.ret (.bool (sA o)),h):=by
 refine mD rfl rfl (mR (ag9 _ _ _) ?_)
 have an:mH 6 [] (.agg o.cells)=some (.ptr 0 0,[.cells o.cells]):=by simp [Op.cells]
 have ag:kV 0 (.ptr 0 0)=some (.ptr 0 0):=rfl
 have l0:kW false 1 [.cells o.cells] (.ptr 0 0)=some (.int .i64 o.kind):=by simp [Op.cells]
 have l1:kW true 6 [.cells o.cells] (.ptr 0 0)=some (.agg o.cells):=by simp [Op.cells]
 have u:(kS.agg o.cells).k8=.agg o.cells:=rfl
 have o6:o.cells.length=6:=rfl
 have o7:o.cells.take 6=o.cells:=rfl
 have g:=c73 o
 by_cases h1:o.kind=18
 ·simp -implicitDefEqProofs [ag8,-lH,-mH,an,ag,l0,l1,o6,o7,u,g,h1,sA,lM]
 ·by_cases h2:o.kind=19
  ·simp -implicitDefEqProofs [ag8,-lH,-mH,an,ag,l0,l1,o6,o7,u,g,h1,h2,sA,lM]
  ·cases hd:(mM o.kind).dst <;> rw [hd] at g <;> simp -implicitDefEqProofs [ag8,-lH,-mH,an,ag,l0,l1,o6,o7,u,g,h1,h2,hd,sA,lM]
theorem aBb (a:Int) (h:kU):KK 162 [.int .i64 a] h=some (.ret (.bool false),h):=by
 refine mD rfl rfl (mR (ahC _ _ _) ?_)
 simp [ax5,lM]
theorem aBf (a:Int) (h:kU):KK 190 [.int .i64 a] h=some (.ret (.bool false),h):=by
 refine mD rfl rfl (mR (ahL _ _ _) ?_)
 simp [ax8,lM]
theorem aBe (a b:Int) (h:kU):KK 189 [.int .i64 a,.int .i64 b] h=some (.ret (.bool (decide (a < b))),h):=by
 refine mD rfl rfl (mR (ahK _ _ _ _) ?_)
 have g:=aBb
 by_cases h1:a < b <;> simp -implicitDefEqProofs [ax7,g,h1,lM]
theorem aj1 {n:Int}(h1:0≤n) (h2:n≤9223372036854775807):IntKind.wrap .u64 n=n:=by
 simp only [IntKind.wrap,IntKind.bits,IntKind.signed]
 simp
 omega
theorem Ww {l:List Int}{t:Int}(hl:l.length≤2000000) (hr:l.Pairwise (· < ·)):∀(d i j:Nat),j - i≤d→i≤j→j≤l.length→(∀k,k < i→∀x,l[k]?=some x→x < t)→(∀k x,j≤k→l[k]?=some x→t≤x) →
  ∃i':Nat,i'≤l.length∧(∀k,k < i'→∀x,l[k]?=some x→x < t)∧(∀k x,i'≤k→l[k]?=some x→t≤x) ∧
  mQ (Er KK 0) ([.slice (ints l) .no,.int .i64 t,.int .i64 0,.bool false,.int .i64 (l.length:Int),.int .i64 (i:Int),.int .i64 (j:Int)],[]) =
  some (.exit 0,[.slice (ints l) .no,.int .i64 t,.int .i64 0,.bool false,.int .i64 (l.length:Int),.int .i64 (i':Int),.int .i64 (i':Int)],[]):=by
 intro d
 induction d with
 | zero =>
  intro i j hd hij hj h1 h2
  obtain rfl:i=j:=by omega
  refine⟨i,hj,h1,h2,nH ?_⟩
  unfold Er
  simp -implicitDefEqProofs [lJ,mS]
 | succ d ih =>
  intro i j hd hij hj h1 h2
  by_cases hlt:i < j
  ·have hm:(i+j) / 2 < l.length:=by omega
   have hm1:i≤(i+j) / 2:=by omega
   have hm2:(i+j) / 2 < j:=by omega
   have hx:=List.getElem?_eq_getElem hm
   generalize l[(i+j) / 2]=x at hx
   have lo:∀k y,l[k]?=some y→k < (i+j) / 2→y < x:=by
    intro k y hy hk
    have hk':=(List.getElem?_eq_some_iff.1 hy).1
    have:=List.pairwise_iff_getElem.1 hr k ((i+j) / 2) hk' hm hk
    rw [(List.getElem?_eq_some_iff.1 hy).2,(List.getElem?_eq_some_iff.1 hx).2] at this
    exact this
   have hi:∀k y,l[k]?=some y→(i+j) / 2 < k→x < y:=by
    intro k y hy hk
    have hk':=(List.getElem?_eq_some_iff.1 hy).1
    have:=List.pairwise_iff_getElem.1 hr ((i+j) / 2) k hm hk' hk
    rw [(List.getElem?_eq_some_iff.1 hy).2,(List.getElem?_eq_some_iff.1 hx).2] at this
    exact this
   have a1:lE .add (.int .i64 (i:Int)) (.int .i64 (j:Int))=some (.int .i64 ((i+j:Nat):Int)):=by
    have:IntKind.i64.wrap ((i:Int)+(j:Int))=((i+j:Nat):Int):=by rw [wrap64 (by omega) (by omega),Int.natCast_add]
    simp [this]
   have a2:rR .u64 (.int .i64 ((i+j:Nat):Int))=some (.int .u64 ((i+j:Nat):Int)):=by
    have:IntKind.u64.wrap ((i+j:Nat):Int)=((i+j:Nat):Int):=aj1 (by omega) (by omega)
    rw [vC,this]
   have a3:lE .shr (.int .u64 ((i+j:Nat):Int)) (.int .u64 1)=some (.int .u64 (((i+j) / 2:Nat):Int)):=by
    have e:min (1:Int).toNat (IntKind.bits .u64)=1:=rfl
    unfold lE
    simp only [e]
    rw [if_neg (by decide),Int.fdiv_eq_ediv_of_nonneg _ (by decide)]
    have:((i+j:Nat):Int) / 2 ^ 1=(((i+j) / 2:Nat):Int):=by omega
    rw [this]
   have a4:rR .i64 (.int .u64 (((i+j) / 2:Nat):Int))=some (.int .i64 (((i+j) / 2:Nat):Int)):=by
    rw [vC,wrap64 (by omega) (by omega)]
   have ix:kX 1 (.slice (ints l) .no) (.int .i64 (((i+j) / 2:Nat):Int))=some (.pptr [.int .i64 x]):=by
    unfold ints
    rw [k_,hx]; rfl
   have g:=aBe x t
   have w1:IntKind.i64.wrap ((((i+j) / 2:Nat):Int)+1)=(((i+j) / 2+1:Nat):Int):=by rw [wrap64 (by omega) (by omega),Int.natCast_add]; rfl
   have hlt':(i:Int) < (j:Int):=by omega
   by_cases hc:x < t
   ·obtain⟨i',q1,q2,q3,q4⟩:=ih ((i+j) / 2+1) j (by omega) (by omega) hj (fun k hk y hy=>by
     by_cases hkm:k=(i+j) / 2
     ·subst hkm; rw [hx] at hy; cases hy; exact hc
     ·have:=lo k y hy (by omega); omega) h2
    refine⟨i',q1,q2,q3,?_⟩
    rw [←q4]
    refine oU ?_
    generalize (((i+j) / 2+1:Nat):Int)=m1 at *
    generalize (((i+j) / 2:Nat):Int)=m0 at *
    generalize ((i+j:Nat):Int)=m2 at *
    unfold Er
    simp -implicitDefEqProofs [-vC,hlt',a1,a2,a3,a4,ix,g,hc,w1,lJ,mS]
   ·obtain⟨i',q1,q2,q3,q4⟩:=ih i ((i+j) / 2) (by omega) (by omega) (by omega) h1 (fun k y hk hy=>by
     by_cases hkm:k=(i+j) / 2
     ·subst hkm; rw [hx] at hy; cases hy; omega
     ·have:=hi k y hy (by omega); omega)
    refine⟨i',q1,q2,q3,?_⟩
    rw [←q4]
    refine oU ?_
    generalize (((i+j) / 2+1:Nat):Int)=m1 at *
    generalize (((i+j) / 2:Nat):Int)=m0 at *
    generalize ((i+j:Nat):Int)=m2 at *
    unfold Er
    simp -implicitDefEqProofs [-vC,hlt',a1,a2,a3,a4,ix,g,hc,lJ,mS]
  ·obtain rfl:i=j:=by omega
   refine⟨i,hj,h1,h2,nH ?_⟩
   unfold Er
   simp -implicitDefEqProofs [lJ,mS]
theorem aA7 {l:List Int}{t:Int}(hl:l.length≤2000000) (hr:l.Pairwise (· < ·)):∃i:Int,∀h,KK 156 [.slice (ints l) .no,.int .i64 t] h=some (.ret (.tuple [.int .i64 i,.bool (decide (t∈l))]),h):=by
 obtain⟨i,q1,q2,q3,g⟩:=Ww (t:=t) hl hr l.length 0 l.length (by omega) (by omega) (Nat.le_refl _) (fun k hk=>by omega) (fun k x hk hx=>by
  have:=(List.getElem?_eq_some_iff.1 hx).1; omega)
 have e0:((0:Nat):Int)=0:=rfl
 rw [e0] at g
 refine⟨i,fun h=>mD rfl rfl (mR (ag7 _ _ _ _) ?_)⟩
 have len:lS (.slice (ints l) .no)=some (.int .i64 (l.length:Int)):=by simp [ints]
 by_cases hi:i < l.length
 ·have hi':(i:Int) < (l.length:Int):=by omega
  have hx:=List.getElem?_eq_getElem hi
  generalize l[i]=x at hx
  have hxt:=q3 i x (Nat.le_refl _) hx
  have ix:kX 1 (.slice (ints l) .no) (.int .i64 (i:Int))=some (.pptr [.int .i64 x]):=by simp [ints,hx]
  have g1:=aBf
  by_cases hc:x=t
  ·have hm:t∈l:=by rw [←hc]; exact List.mem_of_getElem? hx
   subst hc
   simp -implicitDefEqProofs [ag6,len,g,hi',ix,hm,g1,lM]
  ·have hm:¬t∈l:=by
    intro ht
    obtain⟨k,hk⟩:=List.getElem?_of_mem ht
    by_cases h3:k < i
    ·have:=q2 k h3 t hk; omega
    ·by_cases h4:k=i
     ·subst h4; rw [hx] at hk; cases hk; exact hc rfl
     ·have hkl:=(List.getElem?_eq_some_iff.1 hk).1
      have:=List.pairwise_iff_getElem.1 hr i k hi hkl (by omega)
      rw [(List.getElem?_eq_some_iff.1 hx).2,(List.getElem?_eq_some_iff.1 hk).2] at this
      omega
   simp -implicitDefEqProofs [ag6,len,g,hi',ix,hm,hc,g1,lM]
 ·have hi':¬(i:Int) < (l.length:Int):=by omega
  have hm:¬t∈l:=by
   intro ht
   obtain⟨k,hk⟩:=List.getElem?_of_mem ht
   have hkl:=(List.getElem?_eq_some_iff.1 hk).1
   have:=q2 k (by omega) t hk
   omega
  simp -implicitDefEqProofs [ag6,len,g,hi',hm,lM]
end Go.Proofs.YtkeoalhglkfbkaaDoor


namespace Go.Proofs.YtkeoalhglkfbkaaDoor
open Go Hk Go.Proofs.Wd
def BY (E:List Int):List Op→List Op
 | []=>[]
 | o::r=>if sA o=true∧¬o.dst∈qD r E then BY E r else o::BY E r
def Ck (sz n:Nat):mI:=if n=0 then .front 0 0 else .front n sz
theorem Yf {sz n k:Nat}:zD k [Ck sz n]:=by
 unfold Ck; split <;> exact nP oW
theorem JR {α:Type}{enc:α→List kS}{sz by_:Nat}(hby:by_≤100) {h C:kU}{l:List α}{z:α}(hl:l.length≤2000000) {t:Hk.Tok}(hsz:(enc z).length=sz) (hpos:0 < sz) :
  nG sz by_ (h++Ck sz l.length::C) (.slice (l.map enc) (.own h.length)) (.slice [enc z] t)=some (.slice ((l++[z]).map enc) (.own h.length),h++Ck sz (l.length+1)::C):=by
 have hr:∀H:kU,sR sz H (.slice [enc z] t)=some [enc z]:=fun H=>by simp [hsz]
 have hg:∀x,(h++x::C)[h.length]?=some x:=fun x=>by rw [List.getElem?_append_right (Nat.le_refl _),Nat.sub_self]; rfl
 have hs:∀x y,(h++x::C).set h.length y=h++y::C:=fun x y=>by rw [List.set_append_right _ _ (Nat.le_refl _),Nat.sub_self]; rfl
 have hi:(l.map enc).length=l.length:=by simp
 have e1:Ck sz (l.length+1)=.front (l.length+1) sz:=by simp [Ck]
 have e2:(l++[z]).map enc=l.map enc++[enc z]:=by simp
 have hb:(l.length+1) * by_≤140737488355328:=Nat.le_trans (Nat.mul_le_mul (Nat.le_refl _) hby) (by omega)
 unfold nG
 simp only [hr]
 rw [hg,e1,e2]
 by_cases h0:l.length=0
 ·have e3:Ck sz l.length=.front 0 0:=by simp [Ck,h0]
  rw [e3]
  simp only [hi,List.length_singleton,hs]
  rw [if_pos ⟨h0,.inr ⟨trivial,trivial⟩,by omega,by omega⟩,if_neg (by omega),h0]
 ·have e3:Ck sz l.length=.front l.length sz:=by simp [Ck,h0]
  rw [e3]
  simp only [hi,List.length_singleton,hs]
  rw [if_pos ⟨trivial,.inl trivial,by omega,by omega⟩,if_neg (by omega)]
def H8 (b:lR) (l:List Op) (E:kU):kU :=
 .cells b.cells::.cells [.slice [] (.own 2),.int .i64 0,.int .i64 0,.int .i64 0,.int .i64 0]::.front 0 0::.cells (.slice (l.map Op.cells) (.own 4)::b.term.cells)::Ck 6 l.length::E
theorem RS {b:lR}{l:List Op}:zD 5 (H8 b l []) :=
 nY akK (nY (z6 (by omega) (by simp)) (nP (nY (z6 (by omega) (by simp [Term.cells])) Yf)))
theorem VC {b:lR}{l:List Op}{o:Op}{C:kU}(hl:l.length≤2000000) {t:Hk.Tok} :
  ∃H1,nG 6 48 (H8 b l C) (.slice (l.map Op.cells) (.own 4)) (.slice [o.cells] t)=some (.slice ((l++[o]).map Op.cells) (.own 4),H1)∧lT 1 H1 (.ptr 3 0) (.slice ((l++[o]).map Op.cells) (.own 4))=some (H8 b (l++[o]) C):=by
 have:=JR (enc:=Op.cells) (sz:=6) (by_:=48) (by omega) (h:=[.cells b.cells,.cells [.slice [] (.own 2),.int .i64 0,.int .i64 0,.int .i64 0,.int .i64 0],.front 0 0,.cells (.slice (l.map Op.cells) (.own 4)::b.term.cells)]) (C:=C) (l:=l) (z:=o) hl (t:=t) rfl (by omega)
 refine⟨_,this,?_⟩
 simp [H8,Term.cells,qI,kS.isNil]
theorem aa3 {b:lR}{pts:List (List Int)}{l:List Op}{k:Nat}{o:Op}{z:List Int}(hk:b.ops[k]?=some o) (hz:pts[k+1]?=some z) (hr:z.Pairwise (· < ·)) (hzl:z.length≤2000000) (hl:l.length≤2000000) (hkl:k≤2000000) :
  Lh KK 5 ([.ptr 1 0,nD pts,.ptr 3 0,.slice (b.ops.map Op.cells) .no,.int .i64 (b.ops.length:Int),.int .i64 (k:Int)],H8 b l []) =
  some (.normal,[.ptr 1 0,nD pts,.ptr 3 0,.slice (b.ops.map Op.cells) .no,.int .i64 (b.ops.length:Int),.int .i64 ((k+1:Nat):Int)],H8 b (if sA o=true∧¬o.dst∈z then l else l++[o]) []):=by
 have hkb:k < b.ops.length:=(List.getElem?_eq_some_iff.1 hk).1
 have hkb':(k:Int) < (b.ops.length:Int):=by omega
 have w1:IntKind.i64.wrap ((k:Int)+1)=((k+1:Nat):Int):=by rw [wrap64 (by omega) (by omega),Int.natCast_add]; rfl
 have ixo:kX 6 (.slice (b.ops.map Op.cells) .no) (.int .i64 (k:Int))=some (.pptr o.cells):=by simp [hk,Op.cells]
 have l3:∀H,kW true 6 H (.pptr o.cells)=some (.agg o.cells):=by intro H; simp [Op.cells]
 have an:mH 6 (H8 b l []) (.agg [.int .i64 0,.int .i64 0,.int .i64 0,.int .i64 0,.int .i64 0,.int .i64 0])=some (.ptr 5 0,H8 b l [.cells [.int .i64 0,.int .i64 0,.int .i64 0,.int .i64 0,.int .i64 0,.int .i64 0]]):=by simp [H8]
 have st:lT 6 (H8 b l [.cells [.int .i64 0,.int .i64 0,.int .i64 0,.int .i64 0,.int .i64 0,.int .i64 0]]) (.ptr 5 0) (.agg o.cells)=some (H8 b l [.cells o.cells]):=by simp [H8,Op.cells]
 have ixp:kX 1 (nD pts) (.int .i64 ((k+1:Nat):Int))=some (.pptr [.slice (ints z) .no]):=by
  unfold nD
  rw [k_,hz]; rfl
 have lz:∀H,kW false 1 H (.pptr [.slice (ints z) .no])=some (.slice (ints z) .no):=by intro H; simp
 have ag1:kV 1 (.ptr 5 0)=some (.ptr 5 1):=rfl
 have ag0:kV 0 (.ptr 3 0)=some (.ptr 3 0):=rfl
 have ld:kW false 1 (H8 b l [.cells o.cells]) (.ptr 5 1)=some (.int .i64 o.dst):=by simp [H8,Op.cells]
 have lo:∀E,kW true 6 (H8 b l (.cells o.cells::E)) (.ptr 5 0)=some (.agg o.cells):=by intro E; simp [H8,Op.cells]
 have ll:kW false 1 (H8 b l [.cells o.cells]) (.ptr 3 0)=some (.slice (l.map Op.cells) (.own 4)):=by simp [H8]
 have uz:kS.k8 (.slice (ints z) .no)=.slice (ints z) .no:=rfl
 have uo:(kS.agg o.cells).k8=.agg o.cells:=rfl
 obtain⟨i,g156⟩:=aA7 (t:=o.dst) hzl hr
 have g157:=aA8 o
 have bs:lU 1 6 [.int .i64 0,.int .i64 0,.int .i64 0,.int .i64 0,.int .i64 0,.int .i64 0] [(0,.agg o.cells)] (H8 b l [.cells o.cells])=some (.slice [o.cells] (.own 6),H8 b l [.cells o.cells,.front 1 6]):=by
  simp [lU,pD,nB,kS.uV,rowsOf,H8,Op.cells]
 obtain⟨H1,ap,sp⟩:=VC (b:=b) (l:=l) (o:=o) (C:=[.cells o.cells,.front 1 6]) hl (t:=.own 6)
 have sn1:∀h,kS.oL 5 h (nD pts)=nD pts:=fun h=>rfl
 have tr0:mS 5 (H8 b l [.cells o.cells])=some (H8 b l []):=pM (h:=H8 b l []) (C:=[.cells o.cells]) RS
 have tr1:mS 5 (H8 b (l++[o]) [.cells o.cells,.front 1 6])=some (H8 b (l++[o]) []):=pM (h:=H8 b (l++[o]) []) (C:=[.cells o.cells,.front 1 6]) RS
 have lo0:=lo []
 generalize ((k+1:Nat):Int)=k1 at *
 obtain⟨LM,hLM⟩:∃LM,LM=(l++[o]).map Op.cells:=⟨_,rfl⟩
 rw [←hLM] at ap sp
 generalize hX0:H8 b l []=X0 at *
 generalize H8 b l [.cells [.int .i64 0,.int .i64 0,.int .i64 0,.int .i64 0,.int .i64 0,.int .i64 0]]=X1 at *
 generalize H8 b l [.cells o.cells]=X2 at *
 generalize H8 b l [.cells o.cells,.front 1 6]=X3 at *
 unfold Lh
 by_cases hm:o.dst∈z
 ·rw [if_neg (fun h=>h.2 hm)]
  simp -implicitDefEqProofs [-lH,-lV,-oF,-p_,-lY,-mH,hkb',w1,ixo,l3,an,st,ixp,lz,ag1,ag0,ld,lo0,ll,uz,uo,g156,g157,hm,bs,ap,sp,sn1,tr1,lJ,lW,lZ]
 ·cases hp:sA o with
  | true =>
   rw [if_pos ⟨rfl,hm⟩]
   rw [hp] at g157
   simp -implicitDefEqProofs [-lH,-lV,-oF,-p_,-lY,-mH,hkb',w1,ixo,l3,an,st,ixp,lz,ag1,ag0,ld,lo0,ll,uz,uo,g156,g157,hm,hX0,sn1,tr0,lJ,lW,lZ]
  | false =>
   rw [if_neg (by simp)]
   rw [hp] at g157
   simp -implicitDefEqProofs [-lH,-lV,-oF,-p_,-lY,-mH,hkb',w1,ixo,l3,an,st,ixp,lz,ag1,ag0,ld,lo0,ll,uz,uo,g156,g157,hm,bs,ap,sp,sn1,tr1,lJ,lW,lZ]
theorem aa2 {b:lR}{E:List Int}(hE:E.Nodup) (hEl:∀k,(qD (b.ops.drop k) E).length≤1048576) (hbl:b.ops.length≤1048576):∀(d k:Nat) (l:List Op),b.ops.length=k+d→l.length≤k →
  mQ (Lh KK 5) ([.ptr 1 0,nD ((List.range (b.ops.length+1)).map fun k=>rU (qD (b.ops.drop k) E)),.ptr 3 0,.slice (b.ops.map Op.cells) .no,.int .i64 (b.ops.length:Int),.int .i64 (k:Int)],H8 b l []) =
  some (.exit 0,[.ptr 1 0,nD ((List.range (b.ops.length+1)).map fun k=>rU (qD (b.ops.drop k) E)),.ptr 3 0,.slice (b.ops.map Op.cells) .no,.int .i64 (b.ops.length:Int),.int .i64 (b.ops.length:Int)],H8 b (l++BY E (b.ops.drop k)) []):=by
 intro d
 induction d with
 | zero =>
  intro k l hk _
  obtain rfl:k=b.ops.length:=by omega
  rw [List.drop_length]
  refine nH ?_
  have sn1:∀h z,kS.oL 5 h (nD z)=nD z:=fun h z=>rfl
  have tr0:mS 5 (H8 b l [])=some (H8 b l []):=oI (h:=H8 b l []) RS
  unfold Lh
  simp -implicitDefEqProofs [lJ,sn1,tr0,lW,BY]
 | succ d ih =>
  intro k l hk hlk
  have hkb:k < b.ops.length:=by omega
  obtain⟨o,ho⟩:∃o,b.ops[k]?=some o:=⟨_,List.getElem?_eq_getElem hkb⟩
  have ed:b.ops.drop k=o::b.ops.drop (k+1):=by rw [List.drop_eq_getElem_cons hkb,(List.getElem?_eq_some_iff.1 ho).2]
  have hz:((List.range (b.ops.length+1)).map fun k=>rU (qD (b.ops.drop k) E))[k+1]?=some (rU (qD (b.ops.drop (k+1)) E)):=by
   rw [List.getElem?_map,List.getElem?_range (by omega)]; rfl
  have hzl:(rU (qD (b.ops.drop (k+1)) E)).length≤2000000:=by
   have h1:(rU (qD (b.ops.drop (k+1)) E)).length=_:=(List.mergeSort_perm _ _).length_eq
   have:=hEl (k+1)
   omega
  rw [oU (aa3 ho hz (CR (wO hE)) hzl (by omega) (by omega))]
  rw [ed]
  unfold BY
  by_cases hc:sA o=true∧¬o.dst∈qD (b.ops.drop (k+1)) E
  ·have hc':sA o=true∧¬o.dst∈rU (qD (b.ops.drop (k+1)) E):=⟨hc.1,fun h=>hc.2 (EB.1 h)⟩
   rw [if_pos hc,if_pos hc']
   exact ih (k+1) l (by omega) (by omega)
  ·have hc':¬(sA o=true∧¬o.dst∈rU (qD (b.ops.drop (k+1)) E)):=fun h=>hc ⟨h.1,fun h1=>h.2 (EB.2 h1)⟩
   rw [if_neg hc,if_neg hc',ih (k+1) (l++[o]) (by omega) (by simp; omega)]
   simp
theorem c80 {b:lR}{out:List Int}(hEl:∀k,(qD (b.ops.drop k) (sU b out)).length≤1048576) (hbl:b.ops.length≤1048576)
  (h31:∀h,KK 31 [.agg b.cells,.slice (ints out) .no] h=some (.ret (nD (CH b out)),h)) (h:kU) :
  KK 80 [.agg b.cells,.slice (ints out) .no] h=some (.ret (.agg (lR.cells ⟨BY (sU b out) b.ops,b.term⟩)),h):=by
 refine mD rfl rfl (mR (aqV _ _ _ _) ?_)
 have g:=aa2 (b:=b) (E:=sU b out) AD hEl hbl b.ops.length 0 [] (by omega) (by simp)
 have e0:((0:Nat):Int)=0:=rfl
 rw [e0,List.drop_zero,List.nil_append] at g
 have h31':∀h,KK 31 [.agg b.cells,.slice (ints out) .no] h=some (.ret (nD ((List.range (b.ops.length+1)).map fun k=>rU (qD (b.ops.drop k) (sU b out)))),h):=h31
 have a0:mH 5 [] (.agg b.cells)=some (.ptr 0 0,[.cells b.cells]):=by simp [lR.cells]
 have a1:mH 5 [.cells b.cells] (.agg [.slice [] .nil,.int .i64 0,.int .i64 0,.int .i64 0,.int .i64 0])=some (.ptr 1 0,[.cells b.cells,.cells [.slice [] (.own 2),.int .i64 0,.int .i64 0,.int .i64 0,.int .i64 0],.front 0 0]):=by simp
 have l0:∀E,kW true 5 (.cells b.cells::E) (.ptr 0 0)=some (.agg b.cells):=by intro E; simp [lR.cells]
 have ub:(kS.agg b.cells).k8=.agg b.cells:=rfl
 have uo:kS.k8 (.slice (ints out) .no)=.slice (ints out) .no:=rfl
 have ag1:kV 1 (.ptr 0 0)=some (.ptr 0 1):=rfl
 have ag0:kV 0 (.ptr 0 0)=some (.ptr 0 0):=rfl
 have l1:∀E,kW true 4 (.cells b.cells::E) (.ptr 0 1)=some (.agg b.term.cells):=by intro E; simp [lR.cells,Term.cells]
 have bd:nE [.slice [] .nil,.int .i64 0,.int .i64 0,.int .i64 0,.int .i64 0] [(0,1),(1,4)] [(1,.agg b.term.cells)]=some (.agg (.slice [] .nil::b.term.cells)):=by simp [Term.cells]
 have a2:mH 5 [.cells b.cells,.cells [.slice [] (.own 2),.int .i64 0,.int .i64 0,.int .i64 0,.int .i64 0],.front 0 0] (.agg [.slice [] .nil,.int .i64 0,.int .i64 0,.int .i64 0,.int .i64 0]) =
   some (.ptr 3 0,[.cells b.cells,.cells [.slice [] (.own 2),.int .i64 0,.int .i64 0,.int .i64 0,.int .i64 0],.front 0 0,.cells [.slice [] (.own 4),.int .i64 0,.int .i64 0,.int .i64 0,.int .i64 0],.front 0 0]):=by simp
 have s2:lT 5 [.cells b.cells,.cells [.slice [] (.own 2),.int .i64 0,.int .i64 0,.int .i64 0,.int .i64 0],.front 0 0,.cells [.slice [] (.own 4),.int .i64 0,.int .i64 0,.int .i64 0,.int .i64 0],.front 0 0] (.ptr 3 0) (.agg (.slice [] .nil::b.term.cells)) =
   some (H8 b [] []):=by simp [H8,Term.cells,qI,kS.isNil,rP,Ck]
 have l2:kW false 1 (H8 b [] []) (.ptr 0 0)=some (.slice (b.ops.map Op.cells) .no):=by simp [H8,lR.cells]
 have lenB:lS (.slice (b.ops.map Op.cells) .no)=some (.int .i64 (b.ops.length:Int)):=by simp
 have l5:(H8 b [] []).length=5:=rfl
 have l3:∀l,kW true 5 (H8 b l []) (.ptr 3 0)=some (.agg (.slice (l.map Op.cells) (.own 4)::b.term.cells)):=by intro l; simp [H8,Term.cells]
 have fin:∀l,∃H,lT 5 (H8 b l []) (.ptr 1 0) (.agg (.slice (l.map Op.cells) (.own 4)::b.term.cells))=some H∧((kW true 5 H (.ptr 1 0)).bind fun t82=>mX 0 t82 H)=some (.ret (.agg (lR.cells ⟨l,b.term⟩)),[]):=by
  intro l
  cases l with
  | nil=>exact⟨_,by simp [H8,Term.cells,qI,kS.isNil,rP,Ck]; rfl,rfl⟩
  | cons o r=>exact⟨_,by simp [H8,Term.cells,qI,kS.isNil,rP,Ck]; rfl,rfl⟩
 obtain⟨H,f1,f2⟩:=fin (BY (sU b out) b.ops)
 have l3':=l3 (BY (sU b out) b.ops)
 generalize H8 b (BY (sU b out) b.ops) []=HF at *
 generalize H8 b [] []=HI at *
 generalize (List.range (b.ops.length+1)).map (fun k=>rU (qD (b.ops.drop k) (sU b out)))=P at *
 unfold m80
 simp -implicitDefEqProofs [-lH,-lV,-lY,-mH,-nE,a0,a1,l0,ub,uo,h31',ag1,ag0,l1,bd,a2,s2,l2,lenB,l5,g,l3',f1,f2]
end Go.Proofs.YtkeoalhglkfbkaaDoor


namespace Go.Proofs.YtkeoalhglkfbkaaDoor
open Go Hk Go.Proofs.Wd
def wB (p:IR) (bs:List lR):IR:=⟨p.temps,p.arrays,bs,p.inn,p.out⟩
inductive Sub:List Op→List Op→Prop
 | nil:Sub [] []
 | Dc {o l r}:Sub l r→Sub (o::l) (o::r)
 | skip {o l r}:sA o=true→Sub l r→Sub (o::l) r
theorem Sub.refl:∀l,Sub l l
 | []=>.nil
 | _::l=>.Dc (Sub.refl l)
theorem Sub.trans {a b c:List Op}(h:Sub a b) (h':Sub b c):Sub a c:=by
 induction h generalizing c with
 | nil=>exact h'
 | Dc h ih=>cases h' with
  | Dc h2=>exact .Dc (ih h2)
  | skip hp h2=>exact .skip hp (ih h2)
 | skip hp h ih=>exact .skip hp (ih h')
theorem Sub.mem {a b:List Op}(h:Sub a b):∀o∈b,o∈a:=by
 induction h with
 | nil=>simp
 | Dc _ ih =>
  intro o ho
  rcases List.mem_cons.1 ho with rfl | h1
  ·simp
  ·simp [ih o h1]
 | skip _ _ ih=>intro o ho; simp [ih o ho]
theorem Sub.len {a b:List Op}(h:Sub a b):b.length≤a.length:=by
 induction h <;> simp <;> omega
theorem Sub.cut {o:Op}{post:List Op}(hp:sA o=true):∀pre:List Op,Sub (pre++o::post) (pre++post)
 | []=>.skip hp (.refl _)
 | _::pre=>.Dc (Sub.cut hp pre)
def G5 (bs q:List lR):Prop:=bs.length=q.length∧∀(i:Nat) (b c:lR),bs[i]?=some b→q[i]?=some c→b.term=c.term∧Sub b.ops c.ops
theorem G5.refl (bs:List lR):G5 bs bs:=⟨rfl,fun i b c h h'=>by rw [h] at h'; cases h'; exact⟨rfl,.refl _⟩⟩
theorem G5.trans {a b c:List lR}(h:G5 a b) (h':G5 b c):G5 a c:=by
 refine⟨h.1.trans h'.1,fun i x z hx hz=>?_⟩
 obtain⟨y,hy⟩:∃y,b[i]?=some y:=⟨_,List.getElem?_eq_getElem (by rw [←h.1]; exact(List.getElem?_eq_some_iff.1 hx).1)⟩
 obtain⟨e1,s1⟩:=h.2 i x y hx hy
 obtain⟨e2,s2⟩:=h'.2 i y z hy hz
 exact⟨e1.trans e2,s1.trans s2⟩
theorem Ik {a b:List lR}(h:Step a b):G5 a b:=by
 obtain⟨i,x,pre,o,post,hx,ho,hp,_,rfl⟩:=h
 refine⟨by simp,fun j y z hy hz=>?_⟩
 rw [List.getElem?_set] at hz
 have hi:=(List.getElem?_eq_some_iff.1 hx).1
 by_cases hij:i=j
 ·subst hij
  rw [hx] at hy; cases hy
  rw [if_pos rfl,if_pos hi] at hz
  cases hz
  exact⟨rfl,by rw [ho]; exact Sub.cut hp pre⟩
 ·rw [if_neg hij,hy] at hz
  cases hz
  exact⟨rfl,.refl _⟩
theorem Cg {a b:List lR}(h:vK a b):G5 a b:=by
 induction h with
 | refl=>exact .refl _
 | head s _ ih=>exact(Ik s).trans ih
theorem Np:∀{a b:List lR},G5 a b→vF b≤vF a
 | [],b,h=>by
  have:b=[]:=List.eq_nil_of_length_eq_zero h.1.symm
  subst this; exact Int.le_refl _
 | x::a,[],h=>by have:=h.1; simp at this
 | x::a,y::b,h=>by
  have h0:=(h.2 0 x y rfl rfl).2.len
  have h1:=Np (a:=a) (b:=b) ⟨by have:=h.1; simpa using this,fun i u v hu hv=>h.2 (i+1) u v (by simpa using hu) (by simpa using hv)⟩
  simp only [vF]
  omega
theorem x4 {p:IR}{q:List lR}(h:G5 p.blocks q) (h0:mN p=0):mN (wB p q)=0:=by
 obtain⟨l0,lm,hne,harr,hb⟩:=n_ h0
 have hlq:(wB p q).blocks.length=p.blocks.length:=h.1.symm
 have hlim:pC (wB p q)=true:=by
  rw [tV]
  exact⟨l0.t1,l0.a1,by rw [hlq]; exact l0.b1,Int.le_trans (Np h) l0.o1,l0.r1⟩
 have hcond:∀c∈q,(∀o∈c.ops,JB (wB p q) o=true)∧wN (p:=wB p q) c.term=true:=by
  intro c hc
  obtain⟨i,hi⟩:=List.getElem?_of_mem hc
  obtain⟨b,hbi⟩:∃b,p.blocks[i]?=some b:=⟨_,List.getElem?_eq_getElem (by rw [h.1]; exact(List.getElem?_eq_some_iff.1 hi).1)⟩
  obtain⟨e1,s1⟩:=h.2 i b c hbi hi
  obtain⟨g1,g2⟩:=hb b (List.mem_of_getElem? hbi)
  refine⟨fun o ho=>g1 o (s1.mem o ho),?_⟩
  rw [←e1]
  unfold wN at g2 ⊢
  rw [hlq]
  exact g2
 have hqne:q≠[]:=by
  rintro rfl
  exact hne (List.eq_nil_of_length_eq_zero h.1)
 unfold mN at h0 ⊢
 rw [hlim,if_neg (by decide)]
 have hl:pC p=true:=tV.2 l0
 rw [hl,if_neg (by decide)] at h0
 split at h0
 ·rename_i hc
  have hc':(mO (wB p q).temps 0 1048576=true)∨True:=.inr trivial
  rw [if_pos ⟨hc.1,hc.2.1,hc.2.2.1,hc.2.2.2.1,hc.2.2.2.2.1,hqne⟩]
  split at h0
  ·rename_i h2
   rw [if_pos]
   simp only [Bool.and_eq_true,List.all_eq_true] at h2 ⊢
   refine⟨h2.1,fun c hc=>?_⟩
   simp only [Jh,Bool.and_eq_true,List.all_eq_true]
   exact hcond c hc
  ·exact absurd h0 (by decide)
 ·exact absurd h0 (by decide)
theorem QE {p:IR}(hp:yT p) {k:Nat}{b:lR}(hb:p.blocks[k]?=some b):∀(l:List Op),(∀o∈l,o∈b.ops)→BY (sU b (pT p k)) l=wZ b.term (nN p.blocks b.term) l
 | [],_=>rfl
 | o::r,hl=>by
  have ih:=QE hp hb r fun o ho=>hl o (by simp [ho])
  have hbm:=List.mem_of_getElem? hb
  have hiff:sA o=true→(o.dst∈qD r (sU b (pT p k))↔pA r b.term (nN p.blocks b.term) o.dst):=by
   intro hpu
   have hd:(mM o.kind).dst=true:=by
    unfold sA at hpu
    simp only [Bool.and_eq_true] at hpu
    exact hpu.2
   have hr:=hp.made b hbm o (hl o (by simp)) hd
   rw [yG,rZ,rZ,tW hb]
   constructor
   ·rintro(h1 | ⟨h1,_,_,h2⟩)
    ·exact .inl h1
    ·exact .inr ⟨h1,h2⟩
   ·rintro(h1 | ⟨h1,h2⟩)
    ·exact .inl h1
    ·exact .inr ⟨h1,hr.1,hr.2,h2⟩
  unfold BY wZ
  rw [ih]
  by_cases hpu:sA o=true
  ·by_cases hm:o.dst∈qD r (sU b (pT p k))
   ·have hm':=(hiff hpu).1 hm
    rw [if_neg (fun h=>h.2 hm),if_neg (fun h=>h.2 hm')]
   ·have hm':¬_:=fun h=>hm ((hiff hpu).2 h)
    rw [if_pos ⟨hpu,hm⟩,if_pos ⟨hpu,hm'⟩]
  ·rw [if_neg (fun h=>hpu h.1),if_neg (fun h=>hpu h.1)]
end Go.Proofs.YtkeoalhglkfbkaaDoor


namespace Go.Proofs.YtkeoalhglkfbkaaDoor
open Go Hk Go.Proofs.Wd
inductive AF (p:IR):kS→kU→Prop
 | nil (h:p.arrays=[]):AF p (.slice [] .nil) []
 | own:AF p (.slice (p.arrays.map mL.cells) (.own 4)) [.front p.arrays.length 4]
def HD (p:IR) (A:kS) (F:kU) (bs:List lR) (E:kU):kU :=
 .cells [.int .i64 p.temps,A,.slice (bs.map lR.cells) .no,.int .i64 p.inn,.int .i64 p.out]::.cells [.int .i64 0,.slice [] (.own 2),.slice [] (.own 3),.int .i64 0,.int .i64 0]::.front 0 0::.front 0 0::(F++E)
section
variable {p:IR}{A:kS}{F:kU}{bs:List lR}{E:kU}
theorem Bk:(HD p A F bs E).length=F.length+4+E.length:=by simp [HD]; omega
theorem RU {k:Nat}:(HD p A F bs E)[F.length+4+k]?=E[k]?:=by
 unfold HD
 rw [show F.length+4+k=(F.length+k)+1+1+1+1 by omega]
 simp only [List.getElem?_cons_succ]
 rw [List.getElem?_append_right (by omega)]
 congr 1; omega
theorem RV {k:Nat}{x:mI}:(HD p A F bs E).set (F.length+4+k) x=HD p A F bs (E.set k x):=by
 unfold HD
 rw [show F.length+4+k=(F.length+k)+1+1+1+1 by omega]
 simp only [List.set_cons_succ]
 rw [List.set_append_right _ _ (by omega)]
 congr 5; congr 1; omega
theorem NV {C:kU}:HD p A F bs E++C=HD p A F bs (E++C):=by simp [HD]
theorem AF.oL (h:AF p A F) {m:Nat}{H:kU}(hm:F.length+4≤m):A.oH m H=A:=by
 cases h with
 | nil=>rfl
 | own=>simp at hm; simp [show 4 < m by omega]
theorem AF.ok (h:AF p A F):A.mV=true:=by cases h <;> rfl
theorem AF.un (h:AF p A F):A.tT=.slice (p.arrays.map mL.cells) .no:=by
 cases h with
 | nil h=>simp [kS.tT,h]
 | own=>rfl
theorem AF.KB (h:AF p A F) {n:Nat}:zD n F:=by
 cases h with
 | nil=>exact oW
 | own=>exact nP oW
theorem RT (h:AF p A F) {n:Nat}(hn:F.length+4≤n) (hE:zD n E):zD n (HD p A F bs E):=by
 refine nY ?_ (nY (vZ (z6 (by omega) (z6 (by omega) (vZ (vZ Jp))))) (nP (nP (pS h.KB hE))))
 refine vZ ((zZ (fun m x hm=>h.oL (by omega)) h.ok).2 ?_)
 simp
end
def X8:List kS:=[.slice [] .nil,.int .i64 0,.int .i64 0,.int .i64 0,.int .i64 0]
def y_ (q:List lR) (n:Nat):List kS:=(q.map lR.cells++List.replicate (n - q.length) X8).flatten
theorem Eg:∀{l:List (List kS)},(∀r∈l,r.length=5)→l.flatten.length=5 * l.length
 | [],_=>rfl
 | x::r,h=>by
  rw [List.flatten_cons,List.length_append,h x (by simp),Eg fun y hy=>h y (by simp [hy]),List.length_cons]; omega
theorem Xu {q:List lR}{n:Nat}:∀r∈(q.map lR.cells++List.replicate (n - q.length) X8),r.length=5:=by
 intro r hr
 rcases List.mem_append.1 hr with h | h
 ·obtain⟨b,_,rfl⟩:=List.mem_map.1 h; rfl
 ·rw [(List.mem_replicate.1 h).2]; rfl
theorem Nv {q:List lR}{n:Nat}(h:q.length≤n):(y_ q n).length=5 * n:=by
 unfold y_
 rw [Eg Xu]
 simp; omega
theorem Xw {q:List lR}{n:Nat}(h:q.length < n) (c:lR):putCells (y_ q n) (q.length * 5) c.cells=y_ (q++[c]) n:=by
 have e1:n - q.length=(n - (q++[c]).length)+1:=by simp; omega
 have hl:(q.map lR.cells).flatten.length=q.length * 5:=by
  rw [Eg fun r hr=>by obtain⟨b,_,rfl⟩:=List.mem_map.1 hr; rfl]
  simp; omega
 unfold y_
 rw [e1,List.replicate_succ,List.flatten_append,List.flatten_cons]
 generalize hX:(q.map lR.cells).flatten=X at *
 generalize hR:(List.replicate (n - (q++[c]).length) X8).flatten=R
 unfold putCells
 rw [←hl,List.take_left,←List.drop_drop,List.drop_left]
 have hd:List.drop c.cells.length (X8++R)=R:=by
  have:c.cells.length=X8.length:=rfl
  rw [this,List.drop_left]
 rw [hd,List.map_append,List.append_assoc,List.flatten_append,List.flatten_append,hX,hR]
 simp
theorem Xv {q:List lR}{n:Nat}(c:lR):(y_ (q++[c]) n)[q.length * 5]?=some (.slice (c.ops.map Op.cells) .no):=by
 have hl:(q.map lR.cells).flatten.length=q.length * 5:=by
  rw [Eg fun r hr=>by obtain⟨b,_,rfl⟩:=List.mem_map.1 hr; rfl]
  simp; omega
 unfold y_
 rw [List.map_append,List.append_assoc,List.flatten_append,List.getElem?_append_right (by omega),hl,Nat.sub_self]
 rfl
def CP (c:kS):Prop:=∃rows,c=.slice rows .no∨c=.slice rows .nil∨∃k z,c=.int k z
theorem amE {n:Nat}{cs:List kS}(h:∀c∈cs,CP c):zT n cs:=Fa fun c hc=>by
 obtain⟨r,rfl | rfl | ⟨k,z,rfl⟩⟩:=h c hc <;> exact⟨fun m h _=>rfl,rfl⟩
theorem acB {q:List lR}{n:Nat}:∀c∈y_ q n,CP c:=by
 intro c hc
 unfold y_ at hc
 obtain⟨r,hr,hcr⟩:=List.mem_flatten.1 hc
 rcases List.mem_append.1 hr with h | h
 ·obtain⟨b,_,rfl⟩:=List.mem_map.1 h
  simp only [lR.cells,List.mem_cons,List.not_mem_nil,or_false] at hcr
  rcases hcr with rfl | rfl | rfl | rfl | rfl
  ·exact⟨_,.inl rfl⟩
  all_goals exact⟨[],.inr (.inr ⟨_,_,rfl⟩)⟩
 ·rw [(List.mem_replicate.1 h).2] at hcr
  simp only [X8,List.mem_cons,List.not_mem_nil,or_false] at hcr
  rcases hcr with rfl | rfl | rfl | rfl | rfl
  ·exact⟨_,.inr (.inl rfl)⟩
  all_goals exact⟨[],.inr (.inr ⟨_,_,rfl⟩)⟩
end Go.Proofs.YtkeoalhglkfbkaaDoor


namespace Go.Proofs.YtkeoalhglkfbkaaDoor
open Go Hk Go.Proofs.Wd
section
variable {p:IR}{A:kS}{F:kU}{bs:List lR}
def VB (q:List lR) (n:Nat):mI:=.vec n 5 (y_ q n)
theorem YG {q:List lR}{n k:Nat}:zD k [VB q n]:=F8 (amE acB) oW
set_option maxHeartbeats 1000000 in
theorem aaN (hA:AF p A F) {outs:List (List Int)}{q:List lR}{b c:lR}{z:List Int}{less:Bool}{n:Nat}(hn:bs.length=n) (hb:bs[q.length]?=some b) (hz:outs[q.length]?=some z) (hq:n≤2000000)
  (h80:∀h,KK 80 [.agg b.cells,.slice (ints z) .no] h=some (.ret (.agg c.cells),h)) :
  La KK (F.length+5) ([.ptr 0 0,.ptr 1 0,.int .i64 0,nD outs,.vslice (F.length+4) n 0 n 5,.bool less,.slice (bs.map lR.cells) .no,.int .i64 (n:Int),.int .i64 (q.length:Int)],HD p A F bs [VB q n]) =
  some (.normal,[.ptr 0 0,.ptr 1 0,.int .i64 0,nD outs,.vslice (F.length+4) n 0 n 5,.bool (less || decide (c.ops.length < b.ops.length)),.slice (bs.map lR.cells) .no,.int .i64 (n:Int),.int .i64 ((q.length+1:Nat):Int)],HD p A F bs [VB (q++[c]) n]):=by
 have hqn:q.length < n:=by rw [←hn]; exact(List.getElem?_eq_some_iff.1 hb).1
 have hqi:(q.length:Int) < (n:Int):=by omega
 have w1:IntKind.i64.wrap ((q.length:Int)+1)=((q.length+1:Nat):Int):=by rw [wrap64 (by omega) (by omega),Int.natCast_add]; rfl
 have ixb:kX 5 (.slice (bs.map lR.cells) .no) (.int .i64 (q.length:Int))=some (.pptr b.cells):=by
  rw [k_,hb]; rfl
 have lb:∀H,kW true 5 H (.pptr b.cells)=some (.agg b.cells):=by intro H; simp [lR.cells]
 have an:mH 5 (HD p A F bs [VB q n]) (.agg [.slice [] .nil,.int .i64 0,.int .i64 0,.int .i64 0,.int .i64 0]) =
   some (.ptr (F.length+5) 0,HD p A F bs [VB q n,.cells [.slice [] (.own (F.length+6)),.int .i64 0,.int .i64 0,.int .i64 0,.int .i64 0],.front 0 0]):=by
  simp [Bk,NV]
 have fz:∀H,oZ H (.agg b.cells)=some (.agg b.cells,H):=fun H=>rfl
 have fz2:∀H,oZ H (.agg c.cells)=some (.agg c.cells,H):=fun H=>rfl
 have gb:∀X Y Z,nC (HD p A F bs [X,.cells Y,Z]) (F.length+5)=some Y:=by
  intro X Y Z
  have:=RU (p:=p) (A:=A) (F:=F) (bs:=bs) (E:=[X,.cells Y,Z]) (k:=1)
  simp only [nC]
  rw [show F.length+5=F.length+4+1 by omega,this]; rfl
 have sb:∀X Y Z W,(HD p A F bs [X,Y,Z]).set (F.length+5) W=HD p A F bs [X,W,Z]:=by
  intro X Y Z W
  have:=RV (p:=p) (A:=A) (F:=F) (bs:=bs) (E:=[X,Y,Z]) (k:=1) (x:=W)
  rw [show F.length+5=F.length+4+1 by omega,this]; rfl
 have st:lT 5 (HD p A F bs [VB q n,.cells [.slice [] (.own (F.length+6)),.int .i64 0,.int .i64 0,.int .i64 0,.int .i64 0],.front 0 0]) (.ptr (F.length+5) 0) (.agg b.cells) =
   some (HD p A F bs [VB q n,.cells b.cells,.front 0 0]):=by
  rw [lY,gb]
  simp [lR.cells,qI,kS.isNil,sb]
 have l1:∀V,kW true 5 (HD p A F bs [V,.cells b.cells,.front 0 0]) (.ptr (F.length+5) 0)=some (.agg b.cells):=by
  intro V
  rw [lV,gb]
  simp [lR.cells]
 have ixo:kX 1 (nD outs) (.int .i64 (q.length:Int))=some (.pptr [.slice (ints z) .no]):=by
  unfold nD
  rw [k_,hz]; rfl
 have lz:∀H,kW false 1 H (.pptr [.slice (ints z) .no])=some (.slice (ints z) .no):=by intro H; simp
 have ub:(kS.agg b.cells).k8=.agg b.cells:=rfl
 have uz:kS.k8 (.slice (ints z) .no)=.slice (ints z) .no:=rfl
 have ixv:kX 5 (.vslice (F.length+4) n 0 n 5) (.int .i64 (q.length:Int))=some (.vptr (F.length+4) n (q.length * 5)):=by
  simp [hqn]
 have gv:∀r E,mZ (HD p A F bs (VB r n::E)) (F.length+4) n=some (5,y_ r n):=by
  intro r E
  have:=RU (p:=p) (A:=A) (F:=F) (bs:=bs) (E:=VB r n::E) (k:=0)
  simp only [Nat.add_zero,List.getElem?_cons_zero] at this
  simp only [mZ]
  rw [this]
  simp [VB]
 have sv:∀r E W,(HD p A F bs (VB r n::E)).set (F.length+4) W=HD p A F bs (W::E):=by
  intro r E W
  have:=RV (p:=p) (A:=A) (F:=F) (bs:=bs) (E:=VB r n::E) (k:=0) (x:=W)
  simpa using this
 have hrl:=Nv (q:=q) (n:=n) (by omega)
 have sv1:∀E,lT 5 (HD p A F bs (VB q n::E)) (.vptr (F.length+4) n (q.length * 5)) (.agg c.cells)=some (HD p A F bs (VB (q++[c]) n::E)):=by
  intro E
  rw [lC,gv]
  simp only [Option.bind_some]
  have hc:(kS.agg c.cells).cells=c.cells:=rfl
  rw [hc,if_pos ⟨rfl,by omega,by simp [lR.cells,kS.mV]⟩,sv,Xw hqn]
  rfl
 have agv:kV 0 (.vptr (F.length+4) n (q.length * 5))=some (.vptr (F.length+4) n (q.length * 5)):=rfl
 have ag0:kV 0 (.ptr (F.length+5) 0)=some (.ptr (F.length+5) 0):=rfl
 have lv:∀E,kW false 1 (HD p A F bs (VB (q++[c]) n::E)) (.vptr (F.length+4) n (q.length * 5))=some (.slice (c.ops.map Op.cells) .no):=by
  intro E
  rw [lG,gv]
  exact Xv c
 have lo:∀V,kW false 1 (HD p A F bs [V,.cells b.cells,.front 0 0]) (.ptr (F.length+5) 0)=some (.slice (b.ops.map Op.cells) .no):=by
  intro V
  rw [lH,gb]; rfl
 have lc:∀l:List Op,lS (.slice (l.map Op.cells) .no)=some (.int .i64 (l.length:Int)):=by intro l; simp
 have sn1:∀h,kS.oL (F.length+5) h (nD outs)=nD outs:=fun h=>rfl
 have sn2:∀h,kS.oL (F.length+5) h (.vslice (F.length+4) n 0 n 5)=.vslice (F.length+4) n 0 n 5:=fun h=>by
  simp [kS.oL,kS.oH]
 have tr:mS (F.length+5) (HD p A F bs [VB (q++[c]) n,.cells b.cells,.front 0 0])=some (HD p A F bs [VB (q++[c]) n]):=by
  have h1:=pM (h:=HD p A F bs [VB (q++[c]) n]) (C:=[.cells b.cells,.front 0 0]) (by
   show zD (HD p A F bs [VB (q++[c]) n]).length _
   rw [Bk]
   exact RT hA (by simp) YG)
  rw [Bk,NV] at h1
  exact h1
 have lc1:=lc b.ops
 have lc2:=lc c.ops
 have st1:=sv1 [.cells b.cells,.front 0 0]
 have lv1:=lv [.cells b.cells,.front 0 0]
 have lo1:=lo (VB (q++[c]) n)
 have l11:=l1 (VB q n)
 have nat:((c.ops.length:Int) < (b.ops.length:Int))↔c.ops.length < b.ops.length:=by omega
 generalize ((q.length+1:Nat):Int)=q1 at *
 generalize c.ops.map Op.cells=CO at *
 generalize b.ops.map Op.cells=BO at *
 generalize HD p A F bs [VB q n]=X0 at *
 generalize HD p A F bs [VB (q++[c]) n]=X5 at *
 generalize HD p A F bs [VB q n,.cells [.slice [] (.own (F.length+6)),.int .i64 0,.int .i64 0,.int .i64 0,.int .i64 0],.front 0 0]=X1 at *
 generalize HD p A F bs [VB q n,.cells b.cells,.front 0 0]=X2 at *
 generalize HD p A F bs [VB (q++[c]) n,.cells b.cells,.front 0 0]=X3 at *
 unfold La
 cases less <;> by_cases hc:c.ops.length < b.ops.length <;>
  simp -implicitDefEqProofs [-lH,-lV,-oF,-p_,-lG,-lN,-lY,-lC,-mH,-Dn,hqi,w1,ixb,lb,an,fz,fz2,st,l11,ixo,lz,ub,uz,h80,ixv,st1,agv,ag0,lv1,lo1,lc1,lc2,nat,hc,sn1,sn2,tr,lJ,lW]
end
end Go.Proofs.YtkeoalhglkfbkaaDoor


namespace Go.Proofs.YtkeoalhglkfbkaaDoor
open Go Hk Go.Proofs.Wd
section
variable {p:IR}{A:kS}{F:kU}{bs:List lR}
theorem WW (hA:AF p A F) {outs:List (List Int)}{cs:List lR}(hcs:cs.length=bs.length) (hn:bs.length≤2000000)
  (h80:∀(i:Nat) (b c:lR),bs[i]?=some b→cs[i]?=some c→∃z,outs[i]?=some z∧∀h,KK 80 [.agg b.cells,.slice (ints z) .no] h=some (.ret (.agg c.cells),h)) :
  ∀(d i:Nat) (less:Bool),bs.length=i+d→∃less':Bool,(less'=false↔less=false∧∀(k:Nat) (b c:lR),i≤k→bs[k]?=some b→cs[k]?=some c→¬c.ops.length < b.ops.length) ∧
  mQ (La KK (F.length+5)) ([.ptr 0 0,.ptr 1 0,.int .i64 0,nD outs,.vslice (F.length+4) bs.length 0 bs.length 5,.bool less,.slice (bs.map lR.cells) .no,.int .i64 (bs.length:Int),.int .i64 (i:Int)],HD p A F bs [VB (cs.take i) bs.length]) =
  some (.exit 2,[.ptr 0 0,.ptr 1 0,.int .i64 0,nD outs,.vslice (F.length+4) bs.length 0 bs.length 5,.bool less',.slice (bs.map lR.cells) .no,.int .i64 (bs.length:Int),.int .i64 (bs.length:Int)],HD p A F bs [VB cs bs.length]):=by
 intro d
 induction d with
 | zero =>
  intro i less hi
  obtain rfl:i=bs.length:=by omega
  refine⟨less,⟨fun h=>⟨h,fun k b c h1 h2=>?_⟩,fun h=>h.1⟩,nH ?_⟩
  ·have:=(List.getElem?_eq_some_iff.1 h2).1; omega
  ·rw [←hcs,List.take_length]
   have sn1:∀h,kS.oL (F.length+5) h (nD outs)=nD outs:=fun h=>rfl
   have sn2:∀n h,kS.oL (F.length+5) h (.vslice (F.length+4) n 0 n 5)=.vslice (F.length+4) n 0 n 5:=fun n h=>by
    simp [kS.oL,kS.oH]
   have tr:mS (F.length+5) (HD p A F bs [VB cs cs.length])=some (HD p A F bs [VB cs cs.length]):=by
    have h1:=oI (h:=HD p A F bs [VB cs cs.length]) (by
     show zD (HD p A F bs [VB cs cs.length]).length _
     rw [Bk]
     exact RT hA (by simp) YG)
    rw [Bk] at h1
    exact h1
   unfold La
   simp -implicitDefEqProofs [lJ,tr,sn1,sn2,lW]
 | succ d ih =>
  intro i less hi
  have hib:i < bs.length:=by omega
  obtain⟨b,hb⟩:∃b,bs[i]?=some b:=⟨_,List.getElem?_eq_getElem hib⟩
  obtain⟨c,hc⟩:∃c,cs[i]?=some c:=⟨_,List.getElem?_eq_getElem (by omega)⟩
  obtain⟨z,hz,hk⟩:=h80 i b c hb hc
  have hl:(cs.take i).length=i:=by rw [List.length_take]; omega
  have st:=aaN (p:=p) hA (outs:=outs) (q:=cs.take i) (b:=b) (c:=c) (z:=z) (less:=less) rfl (by rw [hl]; exact hb) (by rw [hl]; exact hz) hn hk
  rw [hl] at st
  have et:cs.take i++[c]=cs.take (i+1):=by
   rw [List.take_succ_eq_append_getElem (by omega),(List.getElem?_eq_some_iff.1 hc).2]
  rw [et] at st
  obtain⟨less',h1,h2⟩:=ih (i+1) (less || decide (c.ops.length < b.ops.length)) (by omega)
  refine⟨less',?_,?_⟩
  ·rw [h1]
   simp only [Bool.or_eq_false_iff,decide_eq_false_iff_not]
   constructor
   ·rintro⟨⟨g1,g2⟩,g3⟩
    refine⟨g1,fun k b' c' hik hb' hc'=>?_⟩
    by_cases hki:k=i
    ·subst hki; rw [hb] at hb'; rw [hc] at hc'; cases hb'; cases hc'; exact g2
    ·exact g3 k b' c' (by omega) hb' hc'
   ·rintro⟨g1,g2⟩
    exact⟨⟨g1,g2 i b c (Nat.le_refl _) hb hc⟩,fun k b' c' hik=>g2 k b' c' (by omega)⟩
  ·rw [←h2]
   exact oU st
end
end Go.Proofs.YtkeoalhglkfbkaaDoor


namespace Go.Proofs.YtkeoalhglkfbkaaDoor
open Go Hk Go.Proofs.Wd
theorem I4:∀(l:List (List kS)),(∀r∈l,r.length=5)→rowsOf l.length 5 l.flatten=l
 | [],_=>rfl
 | x::r,h=>by
  have hx:=h x (by simp)
  simp only [List.length_cons,List.flatten_cons,rowsOf]
  rw [←hx,List.take_left,List.drop_left,hx,I4 r fun y hy=>h y (by simp [hy])]
theorem TZ {cs:List kS}(h:∀c∈cs,(∃rows,c=.slice rows .no)∨∃k z,c=.int k z):nB cs=some cs:=by
 induction cs with
 | nil=>rfl
 | cons c r ih =>
  have hi:=ih fun c hc=>h c (by simp [hc])
  rcases h c (by simp) with ⟨rows,rfl⟩ | ⟨k,z,rfl⟩ <;> simp only [nB,hi,kS.uV]
section
variable {p:IR}{A:kS}{F:kU}{bs:List lR}
theorem VD {cs:List lR}:oZ (HD p A F bs [VB cs cs.length]) (.vslice (F.length+4) cs.length 0 cs.length 5)=some (.slice (cs.map lR.cells) .no,HD p A F bs [.gone]):=by
 have hg:=RU (p:=p) (A:=A) (F:=F) (bs:=bs) (E:=[VB cs cs.length]) (k:=0)
 have hs:=RV (p:=p) (A:=A) (F:=F) (bs:=bs) (E:=[VB cs cs.length]) (k:=0) (x:=.gone)
 simp only [Nat.add_zero,List.getElem?_cons_zero,List.set_cons_zero] at hg hs
 have gv:mZ (HD p A F bs [VB cs cs.length]) (F.length+4) cs.length=some (5,y_ cs cs.length):=by
  simp only [mZ]
  rw [hg]
  simp [VB]
 have er:y_ cs cs.length=(cs.map lR.cells).flatten:=by simp [y_]
 have hl:=Nv (q:=cs) (n:=cs.length) (Nat.le_refl _)
 have hp:nB (y_ cs cs.length)=some (y_ cs cs.length):=TZ fun c hc=>by
  rw [er] at hc
  obtain⟨r,hr,hcr⟩:=List.mem_flatten.1 hc
  obtain⟨b,_,rfl⟩:=List.mem_map.1 hr
  simp only [lR.cells,List.mem_cons,List.not_mem_nil,or_false] at hcr
  rcases hcr with rfl | rfl | rfl | rfl | rfl
  ·exact .inl ⟨_,rfl⟩
  all_goals exact .inr ⟨_,_,rfl⟩
 have hro:rowsOf cs.length 5 (y_ cs cs.length)=cs.map lR.cells:=by
  have:=I4 (cs.map lR.cells) fun r hr=>by obtain⟨b,_,rfl⟩:=List.mem_map.1 hr; rfl
  rw [List.length_map,←er] at this
  exact this
 unfold oZ
 simp only [gv,List.drop_zero]
 rw [List.take_of_length_le (by omega),hp]
 simp only [Nat.zero_add]
 rw [if_pos (by omega),hro,hs]
def QR (A:kS):kS:=if A.isNil then .slice [] (.own 2) else A
def HR (p:IR) (A:kS) (F:kU) (bs:List lR) (E:kU):kU :=
 .cells [.int .i64 p.temps,A,.slice (bs.map lR.cells) .no,.int .i64 p.inn,.int .i64 p.out]::.cells [.int .i64 p.temps,QR A,.slice (bs.map lR.cells) .no,.int .i64 p.inn,.int .i64 p.out]::.front 0 0::.front 0 0::(F++E)
theorem Na {rows:List (List kS)}{k:Nat}:QR (.slice rows (.own k))=.slice rows (.own k):=by cases rows <;> rfl
theorem Yj (hA:AF p A F) {E:kU}:lT 5 (HD p A F bs E) (.ptr 1 0) (.agg [.int .i64 p.temps,A,.slice (bs.map lR.cells) .no,.int .i64 p.inn,.int .i64 p.out])=some (HR p A F bs E):=by
 cases hA <;> simp [HD,HR,QR,qI,kS.isNil,rP,kS.mV]
theorem amM (hA:AF p A F) {n:Nat}(hn:F.length+4≤n) {E:kU}(hE:zD n E):zD n (HR p A F bs E):=by
 have c1:zT n [.int .i64 p.temps,A,.slice (bs.map lR.cells) .no,.int .i64 p.inn,.int .i64 p.out]:=by
  refine vZ ((zZ (fun m x hm=>hA.oL (by omega)) hA.ok).2 ?_)
  simp
 have c2:zT n [.int .i64 p.temps,QR A,.slice (bs.map lR.cells) .no,.int .i64 p.inn,.int .i64 p.out]:=by
  cases hA with
  | nil=>exact vZ (z6 (by omega) (by simp))
  | own=>rw [Na]; exact c1
 exact nY c1 (nY c2 (nP (nP (pS hA.KB hE))))
theorem amN (hA:AF p A F):((kW true 5 (HR p A F bs []) (.ptr 1 0)).bind fun t=>mX 0 (.tuple [t,.int .i64 0]) (HR p A F bs []))=some (.ret (.tuple [.agg (wB p bs).cells,.int .i64 0]),[]):=by
 have l:kW true 5 (HR p A F bs []) (.ptr 1 0)=some (.agg [.int .i64 p.temps,QR A,.slice (bs.map lR.cells) .no,.int .i64 p.inn,.int .i64 p.out]):=by simp [HR]
 rw [l]
 simp only [Option.bind_some]
 rw [lM]
 cases hA with
 | nil h=>simp only [IR.cells,wB,h]; rfl
 | own=>rw [Na]; rfl
set_option maxHeartbeats 1000000 in
theorem WY (hA:AF p A F) (h0:mN (wB p bs)=0) {cs:List lR}(hcs:cs.length=bs.length) (hn:bs.length≤2000000)
  (h80:∀(i:Nat) (b c:lR),bs[i]?=some b→cs[i]?=some c→∃z,(rN (wB p bs))[i]?=some z∧∀h,KK 80 [.agg b.cells,.slice (ints z) .no] h=some (.ret (.agg c.cells),h)) :
  ((∃(k:Nat) (b c:lR),bs[k]?=some b∧cs[k]?=some c∧c.ops.length < b.ops.length)∧Hw KK (F.length+4) ([.ptr 0 0,.ptr 1 0,.int .i64 0],HD p A F bs [])=some (.normal,[.ptr 0 0,.ptr 1 0,.int .i64 0],HD p A F cs [])) ∨
  ((∀(k:Nat) (b c:lR),bs[k]?=some b→cs[k]?=some c→¬c.ops.length < b.ops.length)∧Hw KK (F.length+4) ([.ptr 0 0,.ptr 1 0,.int .i64 0],HD p A F bs [])=some (.ret,[.ptr 0 0,.ptr 1 0,.int .i64 0],HR p A F cs [])):=by
 obtain⟨less,hless,g⟩:=WW hA hcs hn h80 bs.length 0 false (by omega)
 have e0:((0:Nat):Int)=0:=rfl
 rw [e0,List.take_zero] at g
 have g27:=c27 (wB p bs)
 rw [h0] at g27
 have la:∀bs,kW true 5 (HD p A F bs []) (.ptr 0 0)=some (.agg [.int .i64 p.temps,A,.slice (bs.map lR.cells) .no,.int .i64 p.inn,.int .i64 p.out]):=by intro bs; simp [HD]
 have lg:kW true 5 (HD p A F cs [.gone]) (.ptr 0 0)=some (.agg [.int .i64 p.temps,A,.slice (cs.map lR.cells) .no,.int .i64 p.inn,.int .i64 p.out]):=by simp [HD]
 have un:(kS.agg [.int .i64 p.temps,A,.slice (bs.map lR.cells) .no,.int .i64 p.inn,.int .i64 p.out]).k8=.agg (wB p bs).cells:=by
  simp only [kS.k8,List.map_cons,hA.un]; rfl
 have fza:∀H (l:List kS),oZ H (.agg l)=some (.agg l,H):=fun H l=>rfl
 have ag2:kV 2 (.ptr 0 0)=some (.ptr 0 2):=rfl
 have lb:∀E,kW false 1 (HD p A F bs E) (.ptr 0 2)=some (.slice (bs.map lR.cells) .no):=by intro E; simp [HD]
 have lenB:lS (.slice (bs.map lR.cells) .no)=some (.int .i64 (bs.length:Int)):=by simp
 have mk:nM 5 56 [(.slice [] .nil),(.int .i64 0),(.int .i64 0),(.int .i64 0),(.int .i64 0)] (.int .i64 (bs.length:Int)) (HD p A F bs [])=some (.vslice (F.length+4) bs.length 0 bs.length 5,HD p A F bs [VB [] bs.length]):=by
  unfold nM
  simp only [Int.toNat_natCast]
  rw [if_pos ⟨by omega,by omega,by omega⟩,Bk,NV]
  rfl
 have hl5:(HD p A F bs [VB [] bs.length]).length=F.length+5:=by rw [Bk]; rfl
 have fz:oZ (HD p A F bs [VB cs bs.length]) (.vslice (F.length+4) bs.length 0 bs.length 5)=some (.slice (cs.map lR.cells) .no,HD p A F bs [.gone]):=by rw [←hcs]; exact VD
 have st:lT 1 (HD p A F bs [.gone]) (.ptr 0 2) (.slice (cs.map lR.cells) .no)=some (HD p A F cs [.gone]):=by simp [HD,qI,kS.isNil]
 have st2:=Yj (bs:=cs) hA (E:=[.gone])
 have tr:mS (F.length+4) (HD p A F cs [.gone])=some (HD p A F cs []):=by
  have h1:=pM (h:=HD p A F cs []) (C:=[.gone]) (by
   show zD (HD p A F cs []).length _
   rw [Bk]
   exact RT hA (by simp) oW)
  rw [Bk,NV] at h1
  exact h1
 have tr2:mS (F.length+4) (HR p A F cs [.gone])=some (HR p A F cs []):=by
  have hl:(HR p A F cs []).length=F.length+4:=by simp [HR]
  have h1:=pM (h:=HR p A F cs []) (C:=[.gone]) (by
   show zD (HR p A F cs []).length _
   rw [hl]
   exact amM hA (by simp) oW)
  rw [hl] at h1
  have e:HR p A F cs []++[mI.gone]=HR p A F cs [.gone]:=by simp [HR]
  rw [e] at h1
  exact h1
 generalize qW (wB p bs)=li at *
 generalize rN (wB p bs)=lo at *
 have la0:=la bs
 generalize (kS.agg [.int .i64 p.temps,A,.slice (bs.map lR.cells) .no,.int .i64 p.inn,.int .i64 p.out])=AG at *
 have lb0:=lb []
 have lb1:=lb [VB [] bs.length]
 cases less with
 | true =>
  refine .inl ⟨?_,?_⟩
  ·apply Classical.byContradiction
   intro hno
   have:true=false:=hless.2 ⟨rfl,fun k b c _ hb hc hlt=>hno ⟨k,b,c,hb,hc,hlt⟩⟩
   cases this
  ·unfold Hw
   simp -implicitDefEqProofs [-lH,-lV,-lY,-mH,-Dn,la0,un,g27,ag2,lb0,lb1,lenB,mk,hl5,g,fz,st,tr,lJ,lW,lZ]
 | false =>
  refine .inr ⟨fun k b c hb hc=>(hless.1 rfl).2 k b c (by omega) hb hc,?_⟩
  unfold Hw
  simp -implicitDefEqProofs [-lH,-lV,-lY,-mH,-Dn,la0,un,g27,ag2,lb0,lb1,lenB,mk,hl5,g,fz,fza,st,lg,st2,tr2,lJ,lW,lZ]
end
end Go.Proofs.YtkeoalhglkfbkaaDoor


namespace Go.Proofs.YtkeoalhglkfbkaaDoor
open Go Hk Go.Proofs.Wd
theorem Vg:∀{bs cs:List lR},G5 bs cs→(∃(k:Nat) (b c:lR),bs[k]?=some b∧cs[k]?=some c∧c.ops.length < b.ops.length)→Bu cs < Bu bs:=by
 have le:∀{bs cs:List lR},G5 bs cs→Bu cs≤Bu bs:=by
  intro bs
  induction bs with
  | nil =>
   intro cs h
   have:cs=[]:=List.eq_nil_of_length_eq_zero h.1.symm
   subst this; exact Nat.le_refl _
  | cons b bs ih =>
   intro cs h
   cases cs with
   | nil=>have:=h.1; simp at this
   | cons c cs =>
    have h0:=(h.2 0 b c rfl rfl).2.len
    have h1:=ih (cs:=cs) ⟨by have:=h.1; simpa using this,fun i u v hu hv=>h.2 (i+1) u v (by simpa using hu) (by simpa using hv)⟩
    simp only [Bu,List.map_cons,List.sum_cons] at h1 ⊢
    omega
 intro bs
 induction bs with
 | nil=>rintro cs h ⟨k,b,c,hb,_⟩; simp at hb
 | cons b bs ih =>
  rintro cs h ⟨k,b',c',hb,hc,hlt⟩
  cases cs with
  | nil=>have:=h.1; simp at this
  | cons c cs =>
   have hs:G5 bs cs:=⟨by have:=h.1; simpa using this,fun i u v hu hv=>h.2 (i+1) u v (by simpa using hu) (by simpa using hv)⟩
   have h0:=(h.2 0 b c rfl rfl).2.len
   have h1:=le hs
   cases k with
   | zero =>
    simp at hb hc; subst hb; subst hc
    simp only [Bu,List.map_cons,List.sum_cons] at h1 ⊢
    omega
   | succ k =>
    have:=ih hs ⟨k,b',c',by simpa using hb,by simpa using hc,hlt⟩
    simp only [Bu,List.map_cons,List.sum_cons] at this ⊢
    omega
section
variable {p:IR}{A:kS}{F:kU}
theorem WX (hA:AF p A F):∀(N:Nat) (bs:List lR),Bu bs < N→mN (wB p bs)=0 →
  ∃q,vK bs q∧Norm q∧mQ (Hw KK (F.length+4)) ([.ptr 0 0,.ptr 1 0,.int .i64 0],HD p A F bs [])=some (.ret,[.ptr 0 0,.ptr 1 0,.int .i64 0],HR p A F q []):=by
 intro N
 induction N with
 | zero=>intro bs hN _; omega
 | succ N ih =>
  intro bs hN h0
  have hp:=(qJ h0).1
  have hnb:bs.length≤1048576:=hp.nb
  have hti:=hp.temps
  have hlen:(tP bs).length=bs.length:=by simp [tP]
  have hget:∀(i:Nat) (b c:lR),bs[i]?=some b→(tP bs)[i]?=some c→c=⟨wZ b.term (nN bs b.term) b.ops,b.term⟩:=by
   intro i b c hb hc
   unfold tP at hc
   rw [List.getElem?_map,hb] at hc
   exact(Option.some.inj hc).symm
  have eO:rN (wB p bs)=(List.range bs.length).map (pT (wB p bs)):=if_pos h0
  have hs:=Ul bs
  have hsub:=Cg hs
  rcases WY hA h0 hlen (by omega) (fun i b c hb hc=>by
   have hib:=(List.getElem?_eq_some_iff.1 hb).1
   have hb':(wB p bs).blocks[i]?=some b:=hb
   refine⟨pT (wB p bs) i,by rw [eO,List.getElem?_map,List.getElem?_range hib]; rfl,fun h=>?_⟩
   have g:=c80 (b:=b) (out:=pT (wB p bs) i) (fun k=>Nl (wO AD) (fun t h1=>Bi hp hb' h1) hti) (hp.len b (List.mem_of_getElem? hb')) (Y_ hp hb') h
   rw [QE hp hb' b.ops (fun o ho=>ho)] at g
   rw [hget i b c hb hc]
   exact g) with ⟨hless,g⟩ | ⟨hno,g⟩
  ·obtain⟨q,s1,n1,g1⟩:=ih (tP bs) (by have:=Vg hsub hless; omega) (x4 (p:=wB p bs) hsub h0)
   exact⟨q,hs.trans s1,n1,by rw [oU g]; exact g1⟩
  ·have hfix:∀b∈bs,(wZ b.term (nN bs b.term) b.ops).length=b.ops.length:=by
    intro b hbm
    obtain⟨i,hb⟩:=List.getElem?_of_mem hbm
    have h1:=hno i b ⟨wZ b.term (nN bs b.term) b.ops,b.term⟩ hb (by unfold tP; rw [List.getElem?_map,hb]; rfl)
    have h2:=Hi b.term (nN bs b.term) b.ops
    simp only at h1
    omega
   obtain⟨e1,n1⟩:=Uc hfix
   rw [e1] at g
   exact⟨bs,.refl _,n1,vM g⟩
end
theorem Qg {α:Type}{enc:α→List kS}{sz by_:Nat}{h:kU}{xs:List α}{t:Hk.Tok}(hsz:∀x,(enc x).length=sz) (hx:xs≠[]) (hl:xs.length≤1048576) (hby:by_≤1000) :
  nG sz by_ h (.slice [] .nil) (.slice (xs.map enc) t)=some (.slice (xs.map enc) (.own h.length),h++[.front xs.length sz]):=by
 have hr:sR sz h (.slice (xs.map enc) t)=some (xs.map enc):=by simp [hsz]
 have hn:xs.length≠0:=fun e=>hx (List.eq_nil_of_length_eq_zero e)
 have hb:xs.length * by_≤140737488355328:=Nat.le_trans (Nat.mul_le_mul hl hby) (by omega)
 unfold nG
 simp only [hr,List.length_map]
 rw [if_neg hn,if_pos ⟨hb,by omega⟩]
theorem c40 (p:IR):(mN p≠0∧∀h,KK 40 [.agg p.cells] h=some (.ret (.tuple [.agg (IR.cells ⟨0,[],[],0,0⟩),.int .i64 (mN p)]),h)) ∨
  (mN p=0∧∃q,vK p.blocks q∧Norm q∧∀h,KK 40 [.agg p.cells] h=some (.ret (.tuple [.agg (wB p q).cells,.int .i64 0]),h)):=by
 have a0:mH 5 [] (.agg p.cells)=some (.ptr 0 0,[.cells p.cells]):=by simp [IR.cells]
 have a1:mH 5 [.cells p.cells] (.agg [.int .i64 0,.slice [] .nil,.slice [] .nil,.int .i64 0,.int .i64 0])=some (.ptr 1 0,[.cells p.cells,.cells [.int .i64 0,.slice [] (.own 2),.slice [] (.own 3),.int .i64 0,.int .i64 0],.front 0 0,.front 0 0]):=by simp
 have l0:∀E,kW true 5 (.cells p.cells::E) (.ptr 0 0)=some (.agg p.cells):=by intro E; simp [IR.cells]
 have u0:(kS.agg p.cells).k8=.agg p.cells:=rfl
 have g30:=c30 p
 have ag1:kV 1 (.ptr 0 0)=some (.ptr 0 1):=rfl
 by_cases h0:mN p=0
 ·refine .inr ⟨h0,?_⟩
  have lar:∀E,kW false 1 (.cells p.cells::E) (.ptr 0 1)=some (.slice (p.arrays.map mL.cells) .no):=by intro E; simp [IR.cells]
  obtain⟨l00,_,_⟩:=n_ h0
  have hal:=l00.a1
  have key:∀(A:kS) (F:kU) (H1:kU),AF p A F→nG 4 32 [.cells p.cells,.cells [.int .i64 0,.slice [] (.own 2),.slice [] (.own 3),.int .i64 0,.int .i64 0],.front 0 0,.front 0 0] (.slice [] .nil) (.slice (p.arrays.map mL.cells) .no)=some (A,H1) →
    oZ H1 A=some (A,H1)→lT 1 H1 (.ptr 0 1) A=some (HD p A F p.blocks [])→∃q,vK p.blocks q∧Norm q∧∀h,KK 40 [.agg p.cells] h=some (.ret (.tuple [.agg (wB p q).cells,.int .i64 0]),h):=by
   intro A F H1 hA e1 e2 e3
   obtain⟨q,s1,n1,g⟩:=WX hA (Bu p.blocks+1) p.blocks (Nat.lt_succ_self _) h0
   refine⟨q,s1,n1,fun h=>mD rfl rfl (mR (aaM _ _ _) ?_)⟩
   have hl:(HD p A F p.blocks []).length=F.length+4:=by rw [Bk]; rfl
   have f1:=amN (bs:=q) hA
   rw [h0] at g30
   have l01:=l0 [.cells [.int .i64 0,.slice [] (.own 2),.slice [] (.own 3),.int .i64 0,.int .i64 0],.front 0 0,.front 0 0]
   have lar1:=lar [.cells [.int .i64 0,.slice [] (.own 2),.slice [] (.own 3),.int .i64 0,.int .i64 0],.front 0 0,.front 0 0]
   generalize HR p A F q []=HX at *
   generalize HD p A F p.blocks []=HY at *
   unfold m40
   simp -implicitDefEqProofs [-lH,-lV,-lY,-mH,-nE,a0,a1,l01,u0,g30,ag1,lar1,e1,e2,e3,hl,g,f1]
  cases ha:p.arrays with
  | nil =>
   refine key (.slice [] .nil) [] _ (.nil ha) (by rw [ha]; simp [nG]; rfl) rfl ?_
   simp [HD,IR.cells,qI,kS.isNil,rP]
  | cons x r =>
   refine key (.slice (p.arrays.map mL.cells) (.own 4)) [.front p.arrays.length 4] [.cells p.cells,.cells [.int .i64 0,.slice [] (.own 2),.slice [] (.own 3),.int .i64 0,.int .i64 0],.front 0 0,.front 0 0,.front p.arrays.length 4] .own ?_ rfl ?_
   ·exact Qg (fun _=>rfl) (by rw [ha]; simp) (by omega) (by omega)
   ·simp [HD,IR.cells,qI,ha,kS.isNil]
 ·refine .inl ⟨h0,fun h=>mD rfl rfl (mR (aaM _ _ _) ?_)⟩
  have l01:=l0 [.cells [.int .i64 0,.slice [] (.own 2),.slice [] (.own 3),.int .i64 0,.int .i64 0],.front 0 0,.front 0 0]
  have bz:nE [.int .i64 0,.slice [] .nil,.slice [] .nil,.int .i64 0,.int .i64 0] [(0,1),(1,1),(2,1),(3,1),(4,1)] []=some (.agg [.int .i64 0,.slice [] .nil,.slice [] .nil,.int .i64 0,.int .i64 0]):=rfl
  have st:lT 5 [.cells p.cells,.cells [.int .i64 0,.slice [] (.own 2),.slice [] (.own 3),.int .i64 0,.int .i64 0],.front 0 0,.front 0 0] (.ptr 1 0) (.agg [.int .i64 0,.slice [] .nil,.slice [] .nil,.int .i64 0,.int .i64 0]) =
    some [.cells p.cells,.cells [.int .i64 0,.slice [] (.own 2),.slice [] (.own 3),.int .i64 0,.int .i64 0],.front 0 0,.front 0 0]:=by simp [qI,kS.isNil,rP]
  have f1:(kW true 5 [.cells p.cells,.cells [.int .i64 0,.slice [] (.own 2),.slice [] (.own 3),.int .i64 0,.int .i64 0],.front 0 0,.front 0 0] (.ptr 1 0)).bind (fun t=>mX 0 (.tuple [t,.int .i64 (mN p)]) [.cells p.cells,.cells [.int .i64 0,.slice [] (.own 2),.slice [] (.own 3),.int .i64 0,.int .i64 0],.front 0 0,.front 0 0]) =
    some (.ret (.tuple [.agg (IR.cells ⟨0,[],[],0,0⟩),.int .i64 (mN p)]),[]):=rfl
  generalize ([.cells p.cells,.cells [.int .i64 0,.slice [] (.own 2),.slice [] (.own 3),.int .i64 0,.int .i64 0],.front 0 0,.front 0 0]:kU)=HX at *
  unfold m40
  simp -implicitDefEqProofs [-lH,-lV,-lY,-mH,-nE,a0,a1,l01,u0,g30,h0,bz,st,f1]
end Go.Proofs.YtkeoalhglkfbkaaDoor


namespace Go.Proofs.YtkeoalhglkfbkaaDoor
open Go Hk Go.Proofs.Wd
end Go.Proofs.YtkeoalhglkfbkaaDoor


namespace Go.Proofs.YtkeoalhglkfbkaaDoor
open Go Hk Go.Proofs.Wd
end Go.Proofs.YtkeoalhglkfbkaaDoor


namespace Go.Proofs.YtkeoalhglkfbkaaDoor
open Go Hk Go.Proofs.Wd
end Go.Proofs.YtkeoalhglkfbkaaDoor


namespace Go.Proofs.YtkeoalhglkfbkaaDoor
open Go Hk Go.Proofs.Wd
end Go.Proofs.YtkeoalhglkfbkaaDoor


namespace Go.Proofs.YtkeoalhglkfbkaaDoor
open Go Hk Go.Proofs.Wd
end Go.Proofs.YtkeoalhglkfbkaaDoor


namespace Go.Proofs.YtkeoalhglkfbkaaDoor
open Go Hk Go.Proofs.Wd
end Go.Proofs.YtkeoalhglkfbkaaDoor


namespace Go.Proofs.YtkeoalhglkfbkaaDoor
open Go Hk Go.Proofs.Wd
end Go.Proofs.YtkeoalhglkfbkaaDoor


namespace Go.Proofs.YtkeoalhglkfbkaaDoor
open Go Hk Go.Proofs.Wd
end Go.Proofs.YtkeoalhglkfbkaaDoor


namespace Go.Proofs.YtkeoalhglkfbkaaDoor
open Go Hk Go.Proofs.Wd
theorem aaL {p:IR}:∀(d i:Nat) (n:Int),i≤n→n≤701→701 - n.toNat < d→∃(n':Int) (i':Int),
  mQ (K_ KK 1) ([.ptr 0 0,.bool false,.int .i64 n,.int .i64 (i:Int)],[.cells p.cells])=some (.exit 0,[.ptr 0 0,.bool false,.int .i64 n',.int .i64 i'],[.cells p.cells]):=by
 intro d
 have htr:mS 1 [.cells p.cells]=some [.cells p.cells]:=by simp [mS,IR.cells]
 have ag:kV 2 (.ptr 0 0)=some (.ptr 0 2):=rfl
 have l1:kW false 1 [.cells p.cells] (.ptr 0 2)=some (.slice (p.blocks.map lR.cells) .no):=by simp [IR.cells]
 have lenB:lS (.slice (p.blocks.map lR.cells) .no)=some (.int .i64 (p.blocks.length:Int)):=by simp
 induction d with
 | zero=>intro i n _ _ h; omega
 | succ d ih =>
  intro i n hi hn hd
  by_cases h1:i < p.blocks.length
  ·by_cases h2:n≤200
   ·have hb:=List.getElem?_eq_getElem h1
    generalize p.blocks[i]=b at hb
    obtain⟨n',i',hr⟩:=ih (i+1) (n+1+min (b.ops.length:Int) 500) (by omega) (by omega) (by omega)
    refine⟨n',i',?_⟩
    rw [←hr]
    refine oU ?_
    have hl:(i:Int) < (p.blocks.length:Int):=by omega
    have ix:kX 5 (.slice (p.blocks.map lR.cells) .no) (.int .i64 (i:Int))=some (.pptr b.cells):=by simp [hb,lR.cells]
    have ag1:kV 0 (.pptr b.cells)=some (.pptr b.cells):=by simp [kV]
    have l2:kW false 1 [.cells p.cells] (.pptr b.cells)=some (.slice (b.ops.map Op.cells) .no):=by simp [lR.cells]
    have lenO:lS (.slice (b.ops.map Op.cells) .no)=some (.int .i64 (b.ops.length:Int)):=by simp
    have mn:xO (.int .i64 (b.ops.length:Int)) (.int .i64 500)=some (.int .i64 (min (b.ops.length:Int) 500)):=by
     simp [xO]
     try (split <;> omega)
    have w0:IntKind.i64.wrap (n+1)=n+1:=wrap64 (by omega) (by omega)
    have w1:IntKind.i64.wrap (n+1+min (b.ops.length:Int) 500)=n+1+min (b.ops.length:Int) 500:=wrap64 (by omega) (by omega)
    have w2:IntKind.i64.wrap ((i:Int)+1)=((i+1:Nat):Int):=by rw [wrap64 (by omega) (by omega),Int.natCast_add]; rfl
    generalize ((i+1:Nat):Int)=i1 at *
    unfold K_
    simp -implicitDefEqProofs [-lH,lJ,htr,ag,l1,lenB,hl,h2,ix,ag1,l2,lenO,mn,w0,w1,w2,lW]
   ·refine⟨n,i,nH ?_⟩
    have hl:(i:Int) < (p.blocks.length:Int):=by omega
    unfold K_
    simp -implicitDefEqProofs [-lH,lJ,htr,ag,l1,lenB,hl,h2,lW]
  ·refine⟨n,i,nH ?_⟩
   have hl:¬(i:Int) < (p.blocks.length:Int):=by omega
   unfold K_
   simp -implicitDefEqProofs [-lH,lJ,htr,ag,l1,lenB,hl,lW]
theorem c38 (p:IR):∃b:Bool,∀h,KK 38 [.agg p.cells] h=some (.ret (.bool b),h):=by
 obtain⟨n,i,g⟩:=aaL (p:=p) 900 0 0 (by omega) (by omega) (by omega)
 have e0:((0:Nat):Int)=0:=rfl
 rw [e0] at g
 refine⟨decide (n≤200),fun h=>mD rfl rfl (mR (ap3 _ _ _) ?_)⟩
 have an:mH 5 [] (.agg p.cells)=some (.ptr 0 0,[.cells p.cells]):=by simp [IR.cells]
 by_cases h2:n≤200 <;> simp -implicitDefEqProofs [m38,-lH,-mH,an,g,h2,lM]
section
variable {p:IR}
end
end Go.Proofs.YtkeoalhglkfbkaaDoor


namespace Go.Proofs.YtkeoalhglkfbkaaDoor
open Go Hk Go.Proofs.Wd
def abG:Op:=⟨1,0,0,0,0,1⟩
def aiE:Op:=⟨10,1,0,0,0,0⟩
def arL:Op:=⟨10,0,1,0,0,0⟩
def t39:Term:=⟨3,0,0,0⟩
def p39:IR:=⟨2,[],[⟨[abG,aiE,arL],t39⟩],0,0⟩
theorem as4:vK p39.blocks [⟨[],t39⟩]:=by
 have hb:∀bs t,¬nN bs t39 t:=by
  intro bs t ⟨j,hj,_⟩
  simp [pW,t39] at hj
 have key:∀pre o,sA o=true→Step [⟨pre++[o],t39⟩] [⟨pre,t39⟩]:=by
  intro pre o ho
  refine⟨0,⟨pre++[o],t39⟩,pre,o,[],rfl,rfl,ho,?_,by simp⟩
  intro h
  rcases h with ⟨h1,_⟩ | h
  ·simp [t39] at h1
  ·exact hb _ _ h
 exact .head (key [abG,aiE] arL (by decide)) (.head (key [abG] aiE (by decide)) (.head (key [] abG (by decide)) (.refl _)))
theorem arI:Norm [⟨[],t39⟩]:=by
 rintro q ⟨i,b,pre,o,post,hb,ho,_⟩
 match i with
 | 0=>simp at hb; subst hb; simp at ho
 | i+1=>simp at hb
theorem c39 (h:kU):KK 39 [] h=some (.ret (.bool true),h):=by
 refine mD rfl rfl (mR (ap4 _ _) ?_)
 have h0:mN p39=0:=by
  decide
 rcases c40 p39 with ⟨h1,_⟩ | ⟨_,q,hs,hn,g40⟩
 ·exact absurd h0 h1
 ·obtain rfl:=Q6 hs hn as4 arI
  simp only [p39,abG,aiE,arL,t39,IR.cells,lR.cells,Op.cells,wB,List.map_cons,List.map_nil] at g40
  simp -implicitDefEqProofs [m39,lU,pD,nB,kS.uV,rowsOf,g40,lZ,kX,lM]
end Go.Proofs.YtkeoalhglkfbkaaDoor


namespace Go.Proofs.YtkeoalhglkfbkaaDoor
open Go Hk
structure Sx where
 temps:List Int
 arrs:List (List Int)
inductive Out where
 | budget | trap | done (arrs:List (List Int))
def mk8 (b:Int):Int:=IntKind.wrap .i64 (((BitVec.ofInt 64 b &&& BitVec.ofInt 64 255).toNat:Nat):Int)
def tg (l:List Int) (t:Int):Int:=l.getD t.toNat 0
def rV (l:List Int) (t v:Int):List Int:=l.set t.toNat v
theorem Iv {l:List Int}{t u v:Int}(ht:0≤t) (hu:0≤u) (hl:t.toNat < l.length):tg (rV l t v) u=if u=t then v else tg l u:=by
 unfold tg rV
 by_cases h:u=t
 ·subst h
  rw [if_pos rfl,List.getD_eq_getElem?_getD,List.getElem?_set_self hl]; rfl
 ·rw [if_neg h,List.getD_eq_getElem?_getD,List.getElem?_set_ne (by omega),List.getD_eq_getElem?_getD]
section
variable (val:Op→Int→Int→Int→Option Int)
def pQ (l:List Int) (o:Op) (i:Nat):Int:=match (mU o)[i]? with
 | some t=>tg l t
 | none=>0
def xF (arrays:List mL) (o:Op) (s:Sx):Option Sx :=
 match val o (pQ s.temps o 0) (pQ s.temps o 1) (pQ s.temps o 2) with
 | some v=>some ⟨rV s.temps o.dst v,s.arrs⟩
 | none =>
  if ((s.arrs.getD o.imm.toNat []).length:Int)≤pQ s.temps o 0 then none
  else if o.kind=18 then some ⟨rV s.temps o.dst (tg (s.arrs.getD o.imm.toNat []) (pQ s.temps o 0)),s.arrs⟩
  else some ⟨s.temps,s.arrs.set o.imm.toNat (rV (s.arrs.getD o.imm.toNat []) (pQ s.temps o 0) (if (arrays[o.imm.toNat]?).map (·.elem)=some 1 then mk8 (pQ s.temps o 1) else pQ s.temps o 1))⟩
def rS (x:Term) (l:List Int):Int:=if x.kind=1 then x.yes else if tg l x.a=4294967295 then x.yes else if tg l x.a=0 then x.no else -1
def C8 (arrays:List mL) (bs:List lR):Nat→Term→List Op→Sx→Out
 | 0,_,_,_=>.budget
 | n+1,x,o::r,s=>match xF val arrays o s with
  | some s'=>C8 arrays bs n x r s'
  | none=>.trap
 | n+1,x,[],s=>if x.kind=3 then .done s.arrs else
  if rS x s.temps < 0 then .trap else match bs[(rS x s.temps).toNat]? with
  | some b=>C8 arrays bs n b.term b.ops s
  | none=>.trap
end
def aiF (n:Int) (o:Op):Prop:=(∀t∈mU o,0≤t∧t < n)∧((mM o.kind).dst=true→0≤o.dst∧o.dst < n)
def HT (n:Int) (m:Nat) (x:Term):Prop:=(x.kind=1∧x.yes < m∨x.kind=2∧0≤x.a∧x.a < n∧x.yes < m∧x.no < m∨x.kind=3)
def abN (n:Int) (m:Nat) (b:lR):Prop:=(∀o∈b.ops,aiF n o)∧HT n m b.term
section
variable {val:Op→Int→Int→Int→Option Int}
structure YJ (val:Op→Int→Int→Int→Option Int):Prop where
 makes:∀o a b c v,val o a b c=some v→(mM o.kind).dst=true
 loads:∀o a b c,val o a b c=none→o.kind=18∨o.kind=19∨(mM o.kind).ok=false
theorem SL:(mM 18).dst=true:=by decide
theorem Zt:(mM 19).dst=false:=by decide
theorem IH {bs:List lR}{x:Term}{l:List Int}{b:lR}{m:Nat}{n:Int}(hx:HT n m x) (h3:x.kind≠3) (hn:¬rS x l < 0) (hb:bs[(rS x l).toNat]?=some b) {t:Int}(ht:pA b.ops b.term (nN bs b.term) t):nN bs x t:=by
 refine⟨rS x l,?_,(yD hb).2 ht⟩
 unfold pW
 unfold rS at hn ⊢
 rcases hx with ⟨h1,_⟩ | ⟨h1,_⟩ | h1
 ·simp only [h1,if_true] at hn ⊢
  exact List.mem_filter.2 ⟨List.mem_singleton.2 rfl,decide_eq_true (by omega)⟩
 ·have e1:¬x.kind=1:=by omega
  simp only [e1,if_false,h1,if_true] at hn ⊢
  refine List.mem_filter.2 ?_
  by_cases hc:tg l x.a=4294967295
  ·rw [if_pos hc] at hn ⊢
   exact⟨by simp,decide_eq_true (by omega)⟩
  ·rw [if_neg hc] at hn ⊢
   by_cases hd:tg l x.a=0
   ·rw [if_pos hd] at hn ⊢
    exact⟨by simp,decide_eq_true (by omega)⟩
   ·rw [if_neg hd] at hn
    omega
 ·exact absurd h1 h3
end
end Go.Proofs.YtkeoalhglkfbkaaDoor


namespace Go.Proofs.YtkeoalhglkfbkaaDoor
open Go Hk
section
variable {val:Op→Int→Int→Int→Option Int}
theorem Zh {k:Int}(h:(mM k).dst=true):(mM k).ok=true:=by
 revert h; unfold mM; (repeat' split) <;> simp
def Left (i i':Nat) (o:Op) (post0 post post':List Op):Prop:=post'=post∨i'=i∧∃q,post=q++o::post0∧post'=q++post0
theorem U5 (hv:YJ val) {arrays:List mL}{bs:List lR}{i:Nat}{b0:lR}{pre0:List Op}{o:Op}{post0:List Op}{n:Int}(hb0:bs[i]?=some b0) (hops0:b0.ops=pre0++o::post0) (hp:sA o=true)
  (hd:¬pA post0 b0.term (nN bs b0.term) o.dst) (hok:∀b∈bs,abN n bs.length b)
  (hnn:∀(i:Nat) (b:lR),bs[i]?=some b→∀(pre post:List Op),b.ops=pre++post→∀t,pA post b.term (nN bs b.term) t→0≤t∧t < n) :
  ∀(k k':Nat) (i':Nat) (b:lR) (pre post post':List Op) (s s':Sx),k≤k'→bs[i']?=some b→b.ops=pre++post→Left i i' o post0 post post'→s.arrs=s'.arrs→(s.temps.length:Int)=n→s'.temps.length=s.temps.length →
   (∀t,pA post b.term (nN bs b.term) t→tg s'.temps t=tg s.temps t)→C8 val arrays bs k b.term post s≠.budget →
   C8 val arrays (bs.set i ⟨pre0++post0,b0.term⟩) k' b.term post' s'=C8 val arrays bs k b.term post s:=by
 have hi:i < bs.length:=(List.getElem?_eq_some_iff.1 hb0).1
 intro k
 induction k with
 | zero=>intro k' i' b pre post post' s s' _ _ _ _ _ _ _ _ h; exact absurd rfl h
 | succ k ih =>
  intro k' i' b pre post post' s s' hk hb hops hL harr hl hl' heq hne
  have hmb:=hok b (List.mem_of_getElem? hb)
  have same:∀(u:Op) (r r':List Op),post=u::r→post'=u::r'→Left i i' o post0 r r' →
    C8 val arrays (bs.set i ⟨pre0++post0,b0.term⟩) k' b.term post' s'=C8 val arrays bs (k+1) b.term post s:=by
   rintro u r r' rfl rfl hL'
   obtain⟨m,rfl⟩:∃m,k'=m+1:=⟨k' - 1,by omega⟩
   have hmem:u∈b.ops:=by rw [hops]; simp
   have hou:=hmb.1 u hmem
   have hops':b.ops=(pre++[u])++r:=by rw [hops]; simp
   have hV:∀j,pQ s'.temps u j=pQ s.temps u j:=by
    intro j
    unfold pQ
    cases ht:(mU u)[j]? with
    | none=>rfl
    | some t=>exact heq t ((rL u r b.term _ t).2 (.inl (List.mem_of_getElem? ht)))
   have made:∀v,(mM u.kind).dst=true→∀t,pA r b.term (nN bs b.term) t→tg (rV s'.temps u.dst v) t=tg (rV s.temps u.dst v) t:=by
    intro v hdd t ht
    obtain⟨t0,t1⟩:=hnn i' b hb (pre++[u]) r hops' t ht
    obtain⟨g0,g1⟩:=hou.2 hdd
    rw [Iv g0 t0 (by omega),Iv g0 t0 (by omega)]
    by_cases hte:t=u.dst
    ·simp [hte]
    ·rw [if_neg hte,if_neg hte]
     exact heq t ((rL u r b.term _ t).2 (.inr ⟨ht,fun⟨_,h⟩=>hte h.symm⟩))
   simp only [C8,xF] at hne ⊢
   rw [hV,hV,hV,←harr]
   cases hval:val u (pQ s.temps u 0) (pQ s.temps u 1) (pQ s.temps u 2) with
   | some v =>
    simp only [hval] at hne ⊢
    exact ih m i' b (pre++[u]) r r' _ _ (by omega) hb hops' hL' rfl (by simpa [rV] using hl) (by simpa [rV] using hl') (made v (hv.makes _ _ _ _ _ hval)) hne
   | none =>
    simp only [hval] at hne ⊢
    by_cases hc:((s.arrs.getD u.imm.toNat []).length:Int)≤pQ s.temps u 0
    ·simp only [hc,if_true]
    ·simp only [hc,if_false] at hne ⊢
     by_cases h18:u.kind=18
     ·simp only [h18,if_true] at hne ⊢
      have hdd:(mM u.kind).dst=true:=by rw [h18]; exact SL
      exact ih m i' b (pre++[u]) r r' _ _ (by omega) hb hops' hL' rfl (by simpa [rV] using hl) (by simpa [rV] using hl') (made _ hdd) hne
     ·simp only [h18,if_false] at hne ⊢
      refine ih m i' b (pre++[u]) r r' _ _ (by omega) hb hops' hL' rfl hl hl' (fun t ht=>heq t ((rL u r b.term _ t).2 (.inr ⟨ht,fun⟨hdd,_⟩=>?_⟩))) hne
      rcases hv.loads _ _ _ _ hval with h1 | h1 | h1
      ·exact h18 h1
      ·rw [h1,Zt] at hdd; cases hdd
      ·rw [Zh hdd] at h1; cases h1
  rcases hL with rfl | ⟨rfl,q,rfl,rfl⟩
  ·cases post' with
   | cons u r=>exact same u r r rfl rfl (.inl rfl)
   | nil =>
    obtain⟨m,rfl⟩:∃m,k'=m+1:=⟨k' - 1,by omega⟩
    have hnx:b.term.kind≠3→rS b.term s'.temps=rS b.term s.temps:=by
     intro h3
     unfold rS
     rcases hmb.2 with ⟨h1,_⟩ | ⟨h1,_⟩ | h1
     ·simp [h1]
     ·have:=heq b.term.a (by unfold pA I7; exact .inl ⟨h1,rfl⟩)
      rw [this]
     ·exact absurd h1 h3
    simp only [C8] at hne ⊢
    by_cases h3:b.term.kind=3
    ·simp [h3,harr]
    ·simp only [h3,if_false] at hne ⊢
     rw [hnx h3]
     by_cases hn:rS b.term s.temps < 0
     ·simp [hn]
     ·simp only [hn,if_false] at hne ⊢
      cases hb2:bs[(rS b.term s.temps).toNat]? with
      | none =>
       have:(bs.set i ⟨pre0++post0,b0.term⟩)[(rS b.term s.temps).toNat]?=none:=by
        rw [List.getElem?_eq_none_iff] at hb2 ⊢; simpa using hb2
       rw [this]
      | some b2 =>
       simp only [hb2] at hne
       have heq2:∀t,pA b2.ops b2.term (nN bs b2.term) t→tg s'.temps t=tg s.temps t :=
        fun t ht=>heq t (by unfold pA I7; exact .inr (IH hmb.2 h3 hn hb2 ht))
       by_cases hij:i=(rS b.term s.temps).toNat
       ·rw [←hij] at hb2
        rw [hb0] at hb2; cases hb2
        rw [←hij,List.getElem?_set_self hi]
        exact ih m i b0 [] b0.ops (pre0++post0) s s' (by omega) hb0 rfl (.inr ⟨rfl,pre0,hops0,rfl⟩) harr hl hl' heq2 hne
       ·rw [List.getElem?_set_ne hij,hb2]
        exact ih m _ b2 [] b2.ops b2.ops s s' (by omega) hb2 rfl (.inl rfl) harr hl hl' heq2 hne
  ·rw [hb0] at hb; cases hb
   cases q with
   | cons u q=>exact same u (q++o::post0) (q++post0) rfl rfl (.inr ⟨rfl,q,rfl,rfl⟩)
   | nil =>
    simp only [List.nil_append] at *
    have hdd:(mM o.kind).dst=true:=by
     unfold sA at hp; simp only [Bool.and_eq_true] at hp; exact hp.2
    have hk:o.kind≠18∧o.kind≠19:=by
     unfold sA at hp; simp only [Bool.and_eq_true,decide_eq_true_eq] at hp; exact hp.1
    have hmem:o∈b0.ops:=by rw [hops]; simp
    obtain⟨g0,g1⟩:=(hmb.1 o hmem).2 hdd
    simp only [C8,xF] at hne ⊢
    cases hval:val o (pQ s.temps o 0) (pQ s.temps o 1) (pQ s.temps o 2) with
    | none =>
     rcases hv.loads _ _ _ _ hval with h1 | h1 | h1
     ·exact absurd h1 hk.1
     ·exact absurd h1 hk.2
     ·rw [Zh hdd] at h1; cases h1
    | some v =>
     simp only [hval] at hne ⊢
     have hops':b0.ops=(pre++[o])++post0:=by rw [hops]; simp
     refine ih k' _ b0 (pre++[o]) post0 post0 _ _ (by omega) hb0 hops' (.inl rfl) harr (by simpa [rV] using hl) (by simpa [rV] using hl') (fun t ht=>?_) hne
     obtain⟨t0,t1⟩:=hnn _ b0 hb0 (pre++[o]) post0 hops' t ht
     have hte:t≠o.dst:=fun e=>hd (e ▸ ht)
     rw [Iv g0 t0 (by omega),if_neg hte]
     exact heq t ((rL o post0 b0.term _ t).2 (.inr ⟨ht,fun⟨_,h⟩=>hte h.symm⟩))
end
end Go.Proofs.YtkeoalhglkfbkaaDoor
