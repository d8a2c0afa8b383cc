/-
  The texts YM.P6, one behind another. No conditions.
-/
import Derived.Test.YtgllbnabmglcfaaGreatDoorYm3
import Derived.Test.YtgllbnabmglcfaaGreatDoorIm3
set_option linter.unusedVariables false
set_option linter.unusedSimpArgs false
set_option linter.all false
open Int renaming natCast_add → ax3
open List renaming append_assoc → aw8, cons_append → ax4, getElem?_eq_getElem → ag8, getElem?_map → ak4, getElem_mem → ax5, map_cons → as6, mem_of_getElem? → aj8, replicate → ak7
namespace Go.Proofs.YtgllbnabmglcfaaGreatDoor
noncomputable section
open Go Hk
def tch (o:Op) (t:Nat):Bool:=xC (pK o) t || ((oH o.kind).dst&&decide (t=o.dst.toNat))
def tE (b:mU) (t:Nat):Bool:=decide (b.term.kind=2)&&decide (t=b.term.a.toNat)
def Cj (c:Bool):List Bool→List Bool
 | []=>[]
 | x::r=>(c || x)::r
def mB (inn out:Bool) (b:mU) (t:Nat):List Bool:=Cj inn (b.ops.map (fun o=>tch o t)++[tE b t || out])
theorem Kp (l:List Bool):Cj false l=l:=by cases l <;> simp [Cj]
theorem Pk (c:Bool) (l:List Bool):(Cj c l).length=l.length:=by cases l <;> rfl
theorem aoA {i o:Bool}{b:mU}{t:Nat}:(mB i o b t).length=b.ops.length+1:=by simp [mB,Pk]
open Classical in
def Sr (p:IR) (k:Nat) (t:Nat):List Bool:=match p.blocks[k]? with
 | some b=>mB (decide (Reach p.blocks (t:Int) k)) (decide (EX p.blocks (t:Int) b.term)) b t
 | none=>[]
def GO (p:IR) (k:Nat) (t:Nat):List Bool:=(List.range k).flatMap fun i=>Sr p i t
theorem KV {p:IR}{k t:Nat}:GO p (k+1) t=GO p k t++Sr p k t:=by simp [GO,List.range_succ]
def wQ (p:IR):List Span:=LS p.temps.toNat (GO p p.blocks.length)
theorem Om {N:Nat}{f:Nat→List Bool}:(LS N fun t=>f t++[false])=LS N f:=by
 unfold LS;refine List.map_congr_left fun t _=>?_;rw [x_];rfl
section
variable {p:IR}(hp:A_ p) {N:Nat}(hN:(N:Int)=p.temps)
include hp hN
theorem VZ {b:mU}(hb:b∈p.blocks) {l38:List Span}(hl:l38.length=N):∀(d k a:Nat) (D:Nat→List Bool) (c:Nat→Bool),b.ops.length=k+d→(∀t,(D t).length=a)→a+d≤4000000000000 →
  ∃(D':Nat→List Bool) (c':Nat→Bool),sG (A5 l38 b ((b.ops.length:Nat):Int)) ((a:Int),(k:Int),LS N fun t=>D t++[c t])=some (.x 4,(((a+d:Nat):Int),(b.ops.length:Int),LS N fun t=>D' t++[c' t])) ∧
   (∀t,(D' t).length=a+d)∧∀t e,D' t++[c' t || e]=D t++Cj (c t) ((b.ops.drop k).map (fun o=>tch o t)++[e]):=by
 intro d
 induction d with
 | zero =>
  intro k a D c hk hD ha
  obtain rfl:k=b.ops.length:=by omega
  refine⟨D,c,pM ?_ (by simp),hD,fun t e=>by simp [Cj]⟩
  simp [A5]
 | succ d ih =>
  intro k a D c hk hD ha
  have hil:k<b.ops.length:=by omega
  have hm:=ax5 hil
  have h1:=hp.len b hb
  have hset:∀(f:Nat→List Bool),LS N f=LS N fun t=>f t++[false]:=fun f=>by
   unfold LS;refine List.map_congr_left fun t _=>?_;rw [x_];rfl
  obtain⟨D',c',e1,e2,e3⟩:=ih (k+1) (a+1) (fun t=>D t++[c t || tch b.ops[k] t]) (fun _=>false) (by omega) (fun t=>by simp [hD]) (by omega)
  refine⟨D',c',?_,fun t=>by rw [e2];omega,fun t e=>?_⟩
  ·rw [show a+(d+1)=a+1+d by omega,←e1]
   refine p5 ?_
   have ei:o8 b.ops (k:Int)=some b.ops[k]:=by rw [pJ,ag8 hil]
   have hii:(k:Int)<(b.ops.length:Int):=by omega
   have w1:IntKind.i64.wrap ((k:Int)+1)=((k+1:Nat):Int):=by rw [wrap64 (by omega) (by omega),ax3];rfl
   have w2:IntKind.i64.wrap ((a:Int)+1)=((a+1:Nat):Int):=by rw [wrap64 (by omega) (by omega),ax3];rfl
   have hu:=hp.use b hb _ hm
   have hd:=hp.made b hb _ hm
   have hul:(pK b.ops[k]).length≤2000000:=by
    unfold pK;rw [List.length_take];simp;omega
   generalize b.ops[k]=o at *
   have h83:=JN (l:=LS N fun t=>D t++[c t]) (n:=N) (a:=(a:Int)) (ts:=pK o) Ax (by omega) hul (fun t ht=>by have:=hu t ht;omega)
   rw [B_ hD] at h83
   simp only [A5,hl,ei,hii,decide_true,nV,mN,Kv,JO,h83,w1,w2]
   cases hdst:(oH o.kind).dst with
   | false =>
    have hj:A4 false (LS N fun t=>D t++[c t || xC (pK o) t]) o l38 (a:Int)=some (LS N fun t=>D t++[c t || xC (pK o) t]):=by simp [A4]
    rw [hj,mN,hset (fun t=>D t++[c t || xC (pK o) t])]
    simp only [tch,hdst,Bool.false_and,Bool.or_false]
   | true =>
    have hd':=hd hdst
    have h83':=JN (l:=LS N fun t=>D t++[c t || xC (pK o) t]) (n:=N) (a:=(a:Int)) (ts:=[o.dst]) Ax (by omega) (by simp) (fun t ht=>by simp at ht;subst ht;omega)
    have h2:=B_ (N:=N) hD [o.dst] (fun t=>c t || xC (pK o) t)
    rw [h2] at h83'
    have hj:A4 true (LS N fun t=>D t++[c t || xC (pK o) t]) o l38 (a:Int)=some (LS N fun t=>D t++[(c t || xC (pK o) t) || xC [o.dst] t]):=by
     simp only [A4,nV,hl,h83',mN]
    rw [hj,mN,hset (fun t=>D t++[(c t || xC (pK o) t) || xC [o.dst] t])]
    simp only [tch,hdst,Bool.true_and,xC,List.any_cons,List.any_nil,Bool.or_false,Bool.or_assoc]
  ·rw [e3,Kp,List.drop_eq_getElem_cons hil,as6,ax4,aw8]
   rfl
open Classical in
theorem acQ {k:Nat}(hk:k<p.blocks.length) {t:Nat}(ht:t<N):xC (wN p k) t=decide (Reach p.blocks (t:Int) k):=by
 rw [Bool.eq_iff_iff]
 unfold xC
 rw [List.any_eq_true,decide_eq_true_iff]
 constructor
 ·rintro⟨u,hu,h⟩
  obtain⟨h0,_,h2⟩:=AH.1 hu
  have:(t:Int)=u:=by have:=of_decide_eq_true h;omega
  rw [this];exact h2
 ·intro h
  exact⟨(t:Int),AH.2 ⟨by omega,by omega,h⟩,by simp⟩
open Classical in
theorem Xn {k:Nat}{b:mU}(hb:p.blocks[k]?=some b) {t:Nat}(ht:t<N):xC (sE p k) t=decide (EX p.blocks (t:Int) b.term):=by
 rw [Bool.eq_iff_iff]
 unfold xC
 rw [List.any_eq_true,decide_eq_true_iff]
 constructor
 ·rintro⟨u,hu,h⟩
  obtain⟨h0,_,h2⟩:=(uO hb).1 hu
  have:(t:Int)=u:=by have:=of_decide_eq_true h;omega
  rw [this];exact h2
 ·intro h
  exact⟨(t:Int),(uO hb).2 ⟨by omega,by omega,h⟩,by simp⟩
theorem VX {k a:Nat}{b:mU}(hb:p.blocks[k]?=some b) (h0:pB p=0) {l38:List Span}(hl:l38.length=N) {D:Nat→List Bool}(hD:∀t,(D t).length=a) (ha:a≤2000000000000) :
  ET p (k:Int) (LS N fun t=>D t++[false]) (Aa p) l38 (a:Int) (Ab p)=some (.n,(((a+(b.ops.length+1):Nat):Int),LS N fun t=>(D t++Sr p k t)++[false])):=by
 have hbm:=aj8 hb
 have hkl:k<p.blocks.length:=(List.getElem?_eq_some_iff.1 hb).1
 have hlen:=hp.len b hbm
 have eb:o8 p.blocks (k:Int)=some b:=by rw [pJ,hb]
 have ei:o8 (Aa p) (k:Int)=some (wN p k):=by
  rw [pJ,Aa,if_pos h0,ak4,List.getElem?_range hkl];rfl
 have eo:o8 (Ab p) (k:Int)=some (sE p k):=by
  rw [pJ,Ab,if_pos h0,ak4,List.getElem?_range hkl];rfl
 have hin:∀t∈wN p k,0≤t∧t.toNat<N:=fun t ht=>by obtain⟨h1,h2,_⟩:=AH.1 ht;omega
 have hout:∀t∈sE p k,0≤t∧t.toNat<N:=fun t ht=>by obtain⟨h1,h2,_⟩:=(uO hb).1 ht;omega
 have hil:(wN p k).length≤2000000:=(U_ p).1 _ (aj8 (by rw [←pJ];exact ei))
 have hol:(sE p k).length≤2000000:=(Va p).1 _ (aj8 (by rw [←pJ];exact eo))
 have s1:=JN (l:=LS N fun t=>D t++[false]) (n:=N) (a:=(a:Int)) (ts:=wN p k) Ax (by omega) hil hin
 rw [B_ hD] at s1
 obtain⟨D',c',g1,g2,g3⟩:=VZ hp hN hbm hl b.ops.length 0 a D (fun t=>false || xC (wN p k) t) (by omega) hD (by omega)
 have n0:((0:Nat):Int)=0:=rfl
 rw [n0] at g1
 have s2:∃c2:Nat→Bool,Ar (decide (b.term.kind=2)) (LS N fun t=>D' t++[c' t]) b l38 ((a+b.ops.length:Nat):Int)=some (LS N fun t=>D' t++[c2 t])∧∀t,c2 t=(c' t || tE b t):=by
  by_cases hk2:b.term.kind=2
  ·have ht:=hp.term b hbm hk2
   have s:=JN (l:=LS N fun t=>D' t++[c' t]) (n:=N) (a:=((a+b.ops.length:Nat):Int)) (ts:=[b.term.a]) Ax (by omega) (by simp) (fun t h=>by simp at h;subst h;omega)
   rw [B_ g2] at s
   refine⟨fun t=>c' t || xC [b.term.a] t,?_,fun t=>by simp [tE,hk2,xC]⟩
   simp only [Ar,hk2,decide_true,nV,hl,s,mN]
  ·refine⟨c',?_,fun t=>by simp [tE,hk2]⟩
   simp only [Ar,hk2,decide_false,oJ]
 obtain⟨c2,s2,hc2⟩:=s2
 have s3:=JN (l:=LS N fun t=>D' t++[c2 t]) (n:=N) (a:=((a+b.ops.length:Nat):Int)) (ts:=sE p k) Ax (by omega) hol hout
 rw [B_ g2] at s3
 have w1:IntKind.i64.wrap (((a+b.ops.length:Nat):Int)+1)=((a+(b.ops.length+1):Nat):Int):=by rw [wrap64 (by omega) (by omega)];omega
 unfold ET
 simp only [eb,ei,mN,hl,s1,g1,uW,vA,beq_self_eq_true,cond_true,s2,eo,s3,w1]
 have hfin:(LS N fun t=>D' t++[c2 t || xC (sE p k) t])=LS N fun t=>(D t++Sr p k t)++[false]:=by
  rw [Om]
  refine Ol fun t ht=>?_
  have:=g3 t (tE b t || xC (sE p k) t)
  rw [List.drop_zero] at this
  rw [hc2,Bool.or_assoc,this]
  unfold Sr
  rw [hb]
  simp only [mB,Bool.false_or,acQ hp hN hkl ht,Xn hp hN hb ht]
 rw [hfin]
omit hN in
theorem IU:∀(k t:Nat),k≤p.blocks.length→(GO p k t).length=((p.blocks.take k).map fun b=>b.ops.length+1).sum∧((p.blocks.take k).map fun b=>b.ops.length+1).sum≤k*1048577
 | 0,t,_=>by simp [GO]
 | k+1,t,hk=>by
  have hkl:k<p.blocks.length:=by omega
  obtain⟨h1,h2⟩:=IU k t (by omega)
  have h3:=hp.len _ (ax5 hkl)
  rw [KV,List.length_append,h1,List.take_succ_eq_append_getElem hkl,List.map_append,List.sum_append]
  have:(Sr p k t).length=p.blocks[k].ops.length+1:=by unfold Sr;rw [ag8 hkl];exact aoA
  rw [this]
  simp only [as6,List.map_nil,List.sum_cons,List.sum_nil]
  omega
theorem Td (h0:pB p=0) {l38:List Span}(hl:l38.length=N):∀(d k:Nat),p.blocks.length=k+d →
  sG (As (Aa p) (Ab p) l38 p ((p.blocks.length:Nat):Int)) (((((p.blocks.take k).map fun b=>b.ops.length+1).sum:Nat):Int),(k:Int),LS N fun t=>GO p k t++[false]) =
   some (.x 2,(((((p.blocks.take p.blocks.length).map fun b=>b.ops.length+1).sum:Nat):Int),(p.blocks.length:Int),LS N fun t=>GO p p.blocks.length t++[false])):=by
 intro d
 induction d with
 | zero =>
  intro k hk
  obtain rfl:k=p.blocks.length:=by omega
  refine pM ?_ (by simp)
  simp [As]
 | succ d ih =>
  intro k hk
  have hkl:k<p.blocks.length:=by omega
  rw [←ih (k+1) (by omega)]
  refine p5 ?_
  have hnb:=hp.nb
  have hle:∀t,(GO p k t).length=((p.blocks.take k).map fun b=>b.ops.length+1).sum:=fun t=>(IU hp k t (by omega)).1
  have hle2:=(IU hp k 0 (by omega)).2
  have hb:p.blocks[k]?=some p.blocks[k]:=ag8 hkl
  have hs:((p.blocks.take (k+1)).map fun b=>b.ops.length+1).sum=((p.blocks.take k).map fun b=>b.ops.length+1).sum+(p.blocks[k].ops.length+1):=by
   rw [List.take_succ_eq_append_getElem hkl,List.map_append,List.sum_append];simp
  have hg:=VX hp hN hb h0 hl hle (by have:k*1048577≤1048576*1048577:=Nat.mul_le_mul_right _ (by omega);omega)
  have hii:(k:Int)<(p.blocks.length:Int):=by omega
  have w1:IntKind.i64.wrap ((k:Int)+1)=((k+1:Nat):Int):=by rw [wrap64 (by omega) (by omega),ax3];rfl
  simp only [As,hii,decide_true,nV,hg,mN,vA,w1,hs,KV]
theorem VY {l38:List Span}(hl:l38.length=N) (hN2:N≤2000000):∀(d k:Nat) (R:List Span),N=k+d→R.length=d →
  sG (CC l38 ((l38.length:Nat):Int)) ((k:Int),ak7 k ⟨-1,-1⟩++R)=some (.x 0,((N:Int),ak7 N ⟨-1,-1⟩)):=by
 intro d
 induction d with
 | zero =>
  intro k R hk hR
  obtain rfl:k=N:=by omega
  have:R=[]:=List.eq_nil_of_length_eq_zero hR
  subst this
  refine pM ?_ (by simp)
  simp [CC,hl]
 | succ d ih =>
  intro k R hk hR
  obtain⟨x,R,rfl⟩:∃x r,R=x::r:=by cases R with | nil=>simp at hR | cons x r=>exact⟨x,r,rfl⟩
  rw [←ih (k+1) R (by omega) (by simpa using hR)]
  refine p5 ?_
  have hii:(k:Int)<(l38.length:Int):=by omega
  have w1:IntKind.i64.wrap ((k:Int)+1)=((k+1:Nat):Int):=by rw [wrap64 (by omega) (by omega),ax3];rfl
  have e1:DF l38.length (k:Int)=some k:=by unfold DF;rw [if_pos (by omega)];rfl
  have hlen:(ak7 k (⟨-1,-1⟩:Span)++x::R).length=l38.length:=by simp at hR ⊢;omega
  have e2:vC l38.length (ak7 k ⟨-1,-1⟩++x::R) k=some x:=by
   unfold vC;rw [if_pos hlen,List.getElem?_append_right (by simp)];simp
  have e3:DG l38.length (ak7 k ⟨-1,-1⟩++x::R) k ⟨-1,-1⟩=some (ak7 (k+1) ⟨-1,-1⟩++R):=by
   unfold DG
   rw [if_pos ⟨hlen,by rw [hlen];omega⟩,List.set_append_right _ _ (by simp),List.length_replicate,Nat.sub_self,List.set_cons_zero,List.replicate_succ',aw8]
   rfl
  simp only [CC,hii,decide_true,nV,e1,mN,e2,e3,w1]
end
theorem Gv:∀{a b x y:List lS},oM a=some x→oM b=some y→oM (a++b)=some (x++y)
 | [],b,x,y,h1,h2=>by simp only [oM,Option.some.injEq] at h1;subst h1;exact h2
 | v::a,b,x,y,h1,h2=>by
  simp only [oM] at h1
  split at h1
  ·rename_i u w e1 e2
   cases h1
   simp only [ax4,oM,e1,Gv e2 h2]
  ·cases h1
theorem IZ {α:Type}{enc:α→List lS}(hp:∀x,oM (enc x)=some (enc x)):∀xs:List α,oM (Rw enc xs).flatten=some (Rw enc xs).flatten
 | []=>rfl
 | x::r=>by
  have e:(Rw enc (x::r)).flatten=enc x++(Rw enc r).flatten:=rfl
  rw [e];exact Gv (hp x) (IZ hp r)
theorem Lb {α:Type}{enc:α→List lS}{sz:Nat}(he:∀x,(enc x).length=sz):∀xs:List α,rowsOf xs.length sz (Rw enc xs).flatten=Rw enc xs
 | []=>rfl
 | x::r=>by
  have e:(Rw enc (x::r)).flatten=enc x++(Rw enc r).flatten:=rfl
  rw [List.length_cons,rowsOf,e,←he x,List.take_left,List.drop_left,he x,Lb he r];rfl
theorem af6 {α:Type}{enc:α→List lS}{sz id m:Nat}{h:lT}{xs:List α}(hm:¬id<m) (he:∀x,(enc x).length=sz) (hp:∀x,oM (enc x)=some (enc x)) (hb:h[id]?=some (Vc enc sz xs)) :
  lS.oL m h (.vslice id xs.length 0 xs.length sz)=.slice (Rw enc xs) .no:=by
 have hl:=wC he xs
 have ht:(((Rw enc xs).flatten.drop 0).take (xs.length*sz))=(Rw enc xs).flatten:=by rw [List.drop_zero,List.take_of_length_le (by rw [hl];exact Nat.le_refl _)]
 have hd:decide (id<m)=false:=decide_eq_false hm
 unfold lS.oL
 simp only [hd,cond_false,hb,Vc,ht,IZ hp,Lb he,hl,Nat.zero_add,Nat.le_refl,and_self,decide_true,cond_true]
theorem c39 (p:IR) (h:lT):KK 39 [.agg [.int .i64 p.temps,.slice (Rw nH.cells p.arrays) .no,.slice (Rw mU.cells p.blocks) .no,.int .i64 p.inn,.int .i64 p.out]] h =
  some (.ret (.tuple [.slice (Rw Span.cells (if pB p=0 then wQ p else [])) .no,.int .i64 (pB p)]),h):=by
 refine nN rfl rfl (oN (anN _ _ _) ?_)
 by_cases h0:pB p=0
 ·obtain⟨hp,hl⟩:=Ae h0
  obtain⟨_,lp,_,_,_⟩:=uK h0
  have ht0:=lp.t0
  have ht1:=lp.t1
  have hN:((p.temps.toNat:Nat):Int)=p.temps:=by omega
  have hmk:ZD 16 (⟨0,0⟩:Span) p.temps=some (ak7 p.temps.toNat ⟨0,0⟩):=by
   unfold ZD;rw [if_pos ⟨by omega,by omega,by omega⟩]
  generalize hl38:ak7 p.temps.toNat (⟨0,0⟩:Span)=l38 at hmk
  have hlen:l38.length=p.temps.toNat:=by rw [←hl38];simp
  have l2:=VY hp hN (l38:=l38) hlen (by omega) p.temps.toNat 0 l38 (by omega) hlen
  have l14:=Td hp hN h0 (l38:=l38) hlen p.blocks.length 0 (by omega)
  have n0:((0:Nat):Int)=0:=rfl
  have hR:(LS p.temps.toNat fun t=>GO p 0 t++[false])=ak7 p.temps.toNat ⟨-1,-1⟩:=by
   unfold LS GO
   rw [List.eq_replicate_iff]
   refine⟨by simp,fun x hx=>?_⟩
   obtain⟨t,_,rfl⟩:=List.mem_map.1 hx
   rfl
  rw [hR] at l14
  simp only [n0,List.replicate_zero,List.nil_append,List.take_zero,List.map_nil,List.sum_nil] at l2 l14
  rw [Om] at l14
  have hs:(LS p.temps.toNat (GO p p.blocks.length))=wQ p:=rfl
  rw [hs] at l14
  have hsl:(wQ p).length=l38.length:=by rw [hlen];exact Ax
  rw [if_pos h0]
  have hfz:∀(b0 b1:mT) (R:lT),lS.oL 0 (b0::b1::Vc Span.cells 2 (wQ p)::R) (.vslice 2 l38.length 0 l38.length 2)=.slice (Rw Span.cells (wQ p)) .no:=by
   intro b0 b1 R
   rw [←hsl]
   exact af6 (enc:=Span.cells) (by omega) (fun _=>rfl) (fun _=>rfl) rfl
  simp -implicitDefEqProofs [-l9,-lV,-lU,-lW,-lZ,-lY,-lX,m39,awV,agB,h0,aoB,hmk,afT,Zj,l2,l14,Yc]
  simp only [lS.qJ,as6,List.map_nil,hfz]
  rfl
 ·rw [if_neg h0]
  simp -implicitDefEqProofs [-l9,-lV,-lU,-lW,-lZ,-lY,-lX,m39,awV,agB,h0,Yc]
end
end Go.Proofs.YtgllbnabmglcfaaGreatDoor
