/-
  The texts YM.P6, one behind another. No conditions.
-/
import Derived.Test.YtgllbnabmglcfaaGreatDoorYm3
import Derived.Test.YtgllbnabmglcfaaGreatDoorIm4
set_option linter.unusedVariables false
set_option linter.unusedSimpArgs false
set_option linter.all false
open Int renaming natCast_add → as1
open List renaming getElem?_eq_getElem → ac6, getElem?_map → af7, getElem_mem → as2, map_cons → aq7, mem_of_getElem? → af3, replicate → al7
namespace Go.Proofs.YtgllbnabmglcfaaGreatDoor
noncomputable section
open Go Hk
def tch (o:Op) (t:Nat):Bool:=wK (oO o) t || ((nK o.kind).dst&&decide (t=o.dst.toNat))
def tE (b:mF) (t:Nat):Bool:=decide (b.term.kind=2)&&decide (t=b.term.a.toNat)
def BX (c:Bool):List Bool→List Bool
 | []=>[]
 | x::r=>(c || x)::r
def mB (inn out:Bool) (b:mF) (t:Nat):List Bool:=BX inn (b.ops.map (fun o=>tch o t)++[tE b t || out])
theorem Jj (l:List Bool):BX false l=l:=by cases l <;> simp [BX]
theorem NZ (c:Bool) (l:List Bool):(BX c l).length=l.length:=by cases l <;> rfl
theorem aiV {i o:Bool}{b:mF}{t:Nat}:(mB i o b t).length=b.ops.length+1:=by simp [mB,NZ]
open Classical in
def QJ (p:IR) (k:Nat) (t:Nat):List Bool:=match p.blocks[k]? with
 | some b=>mB (decide (Reach p.blocks (t:Int) k)) (decide (Ej p.blocks (t:Int) b.term)) b t
 | none=>[]
def F3 (p:IR) (k:Nat) (t:Nat):List Bool:=(List.range k).flatMap fun i=>QJ p i t
theorem JQ {p:IR}{k t:Nat}:F3 p (k+1) t=F3 p k t++QJ p k t:=by simp [F3,List.range_succ]
def v7 (p:IR):List Span:=LS p.temps.toNat (F3 p p.blocks.length)
theorem M1 {N:Nat}{f:Nat→List Bool}:(LS N fun t=>f t++[false])=LS N f:=by
 unfold LS;refine List.map_congr_left fun t _=>?_;rw [xK];rfl
section
variable {p:IR}(hp:AK p) {N:Nat}(hN:(N:Int)=p.temps)
include hp hN
theorem Ul {b:mF}(hb:b∈p.blocks) {l38:List Span}(hl:l38.length=N):∀(d k a:Nat) (D:Nat→List Bool) (c:Nat→Bool),b.ops.length=k+d→(∀t,(D t).length=a)→a+d≤4000000000000 →
  ∃(D':Nat→List Bool) (c':Nat→Bool),tY (AF l38 b ((b.ops.length:Nat):Int)) ((a:Int),(k:Int),LS N fun t=>D t++[c t])=some (.x 4,(((a+d:Nat):Int),(b.ops.length:Int),LS N fun t=>D' t++[c' t])) ∧
   (∀t,(D' t).length=a+d)∧∀t e,D' t++[c' t || e]=D t++BX (c t) ((b.ops.drop k).map (fun o=>tch o t)++[e]):=by
 intro d
 induction d with
 | zero =>
  intro k a D c hk hD ha
  obtain rfl:k=b.ops.length:=by omega
  refine⟨D,c,p5 ?_ (by simp),hD,fun t e=>by simp [BX]⟩
  simp [AF]
 | succ d ih =>
  intro k a D c hk hD ha
  have hil:k<b.ops.length:=by omega
  have hm:=as2 hil
  have h1:=hp.len b hb
  have hset:∀(f:Nat→List Bool),LS N f=LS N fun t=>f t++[false]:=fun f=>by
   unfold LS;refine List.map_congr_left fun t _=>?_;rw [xK];rfl
  obtain⟨D',c',e1,e2,e3⟩:=ih (k+1) (a+1) (fun t=>D t++[c t || tch b.ops[k] t]) (fun _=>false) (by omega) (fun t=>by simp [hD]) (by omega)
  refine⟨D',c',?_,fun t=>by rw [e2];omega,fun t e=>?_⟩
  ·rw [show a+(d+1)=a+1+d by omega,←e1]
   refine q_ ?_
   have ei:oV b.ops (k:Int)=some b.ops[k]:=by rw [o_,ac6 hil]
   have hii:(k:Int)<(b.ops.length:Int):=by omega
   have w1:IntKind.i64.wrap ((k:Int)+1)=((k+1:Nat):Int):=by rw [wrap64 (by omega) (by omega),as1];rfl
   have w2:IntKind.i64.wrap ((a:Int)+1)=((a+1:Nat):Int):=by rw [wrap64 (by omega) (by omega),as1];rfl
   have hu:=hp.use b hb _ hm
   have hd:=hp.made b hb _ hm
   have hul:(oO b.ops[k]).length≤2000000:=by
    unfold oO;rw [List.length_take];simp;omega
   generalize b.ops[k]=o at *
   have h83:=IE (l:=LS N fun t=>D t++[c t]) (n:=N) (a:=(a:Int)) (ts:=oO o) Aa (by omega) hul (fun t ht=>by have:=hu t ht;omega)
   rw [BN hD] at h83
   simp only [AF,hl,ei,hii,decide_true,oM,mR,Jq,IF,h83,w1,w2]
   cases hdst:(nK o.kind).dst with
   | false =>
    have hj:AE false (LS N fun t=>D t++[c t || wK (oO o) t]) o l38 (a:Int)=some (LS N fun t=>D t++[c t || wK (oO o) t]):=by simp [AE]
    rw [hj,mR,hset (fun t=>D t++[c t || wK (oO o) t])]
    simp only [tch,hdst,Bool.false_and,Bool.or_false]
   | true =>
    have hd':=hd hdst
    have h83':=IE (l:=LS N fun t=>D t++[c t || wK (oO o) t]) (n:=N) (a:=(a:Int)) (ts:=[o.dst]) Aa (by omega) (by simp) (fun t ht=>by simp at ht;subst ht;omega)
    have h2:=BN (N:=N) hD [o.dst] (fun t=>c t || wK (oO o) t)
    rw [h2] at h83'
    have hj:AE true (LS N fun t=>D t++[c t || wK (oO o) t]) o l38 (a:Int)=some (LS N fun t=>D t++[(c t || wK (oO o) t) || wK [o.dst] t]):=by
     simp only [AE,oM,hl,h83',mR]
    rw [hj,mR,hset (fun t=>D t++[(c t || wK (oO o) t) || wK [o.dst] t])]
    simp only [tch,hdst,Bool.true_and,wK,List.any_cons,List.any_nil,Bool.or_false,Bool.or_assoc]
  ·rw [e3,Jj,List.drop_eq_getElem_cons hil,aq7,List.cons_append,List.append_assoc]
   rfl
open Classical in
theorem Zu {k:Nat}(hk:k<p.blocks.length) {t:Nat}(ht:t<N):wK (vX p k) t=decide (Reach p.blocks (t:Int) k):=by
 rw [Bool.eq_iff_iff]
 unfold wK
 rw [List.any_eq_true,decide_eq_true_iff]
 constructor
 ·rintro⟨u,hu,h⟩
  obtain⟨h0,_,h2⟩:=Ak.1 hu
  have:(t:Int)=u:=by have:=of_decide_eq_true h;omega
  rw [this];exact h2
 ·intro h
  exact⟨(t:Int),Ak.2 ⟨by omega,by omega,h⟩,by simp⟩
open Classical in
theorem VD {k:Nat}{b:mF}(hb:p.blocks[k]?=some b) {t:Nat}(ht:t<N):wK (rN p k) t=decide (Ej p.blocks (t:Int) b.term):=by
 rw [Bool.eq_iff_iff]
 unfold wK
 rw [List.any_eq_true,decide_eq_true_iff]
 constructor
 ·rintro⟨u,hu,h⟩
  obtain⟨h0,_,h2⟩:=(tX hb).1 hu
  have:(t:Int)=u:=by have:=of_decide_eq_true h;omega
  rw [this];exact h2
 ·intro h
  exact⟨(t:Int),(tX hb).2 ⟨by omega,by omega,h⟩,by simp⟩
theorem Uj {k a:Nat}{b:mF}(hb:p.blocks[k]?=some b) (h0:oR p=0) {l38:List Span}(hl:l38.length=N) {D:Nat→List Bool}(hD:∀t,(D t).length=a) (ha:a≤2000000000000) :
  Ee p (k:Int) (LS N fun t=>D t++[false]) (zH p) l38 (a:Int) (zI p)=some (.n,(((a+(b.ops.length+1):Nat):Int),LS N fun t=>(D t++QJ p k t)++[false])):=by
 have hbm:=af3 hb
 have hkl:k<p.blocks.length:=(List.getElem?_eq_some_iff.1 hb).1
 have hlen:=hp.len b hbm
 have eb:oV p.blocks (k:Int)=some b:=by rw [o_,hb]
 have ei:oV (zH p) (k:Int)=some (vX p k):=by
  rw [o_,zH,if_pos h0,af7,List.getElem?_range hkl];rfl
 have eo:oV (zI p) (k:Int)=some (rN p k):=by
  rw [o_,zI,if_pos h0,af7,List.getElem?_range hkl];rfl
 have hin:∀t∈vX p k,0≤t∧t.toNat<N:=fun t ht=>by obtain⟨h1,h2,_⟩:=Ak.1 ht;omega
 have hout:∀t∈rN p k,0≤t∧t.toNat<N:=fun t ht=>by obtain⟨h1,h2,_⟩:=(tX hb).1 ht;omega
 have hil:(vX p k).length≤2000000:=(Tv p).1 _ (af3 (by rw [←o_];exact ei))
 have hol:(rN p k).length≤2000000:=(Tw p).1 _ (af3 (by rw [←o_];exact eo))
 have s1:=IE (l:=LS N fun t=>D t++[false]) (n:=N) (a:=(a:Int)) (ts:=vX p k) Aa (by omega) hil hin
 rw [BN hD] at s1
 obtain⟨D',c',g1,g2,g3⟩:=Ul hp hN hbm hl b.ops.length 0 a D (fun t=>false || wK (vX p k) t) (by omega) hD (by omega)
 have n0:((0:Nat):Int)=0:=rfl
 rw [n0] at g1
 have s2:∃c2:Nat→Bool,zY (decide (b.term.kind=2)) (LS N fun t=>D' t++[c' t]) b l38 ((a+b.ops.length:Nat):Int)=some (LS N fun t=>D' t++[c2 t])∧∀t,c2 t=(c' t || tE b t):=by
  by_cases hk2:b.term.kind=2
  ·have ht:=hp.term b hbm hk2
   have s:=IE (l:=LS N fun t=>D' t++[c' t]) (n:=N) (a:=((a+b.ops.length:Nat):Int)) (ts:=[b.term.a]) Aa (by omega) (by simp) (fun t h=>by simp at h;subst h;omega)
   rw [BN g2] at s
   refine⟨fun t=>c' t || wK [b.term.a] t,?_,fun t=>by simp [tE,hk2,wK]⟩
   simp only [zY,hk2,decide_true,oM,hl,s,mR]
  ·refine⟨c',?_,fun t=>by simp [tE,hk2]⟩
   simp only [zY,hk2,decide_false,pS]
 obtain⟨c2,s2,hc2⟩:=s2
 have s3:=IE (l:=LS N fun t=>D' t++[c2 t]) (n:=N) (a:=((a+b.ops.length:Nat):Int)) (ts:=rN p k) Aa (by omega) hol hout
 rw [BN g2] at s3
 have w1:IntKind.i64.wrap (((a+b.ops.length:Nat):Int)+1)=((a+(b.ops.length+1):Nat):Int):=by rw [wrap64 (by omega) (by omega)];omega
 unfold Ee
 simp only [eb,ei,mR,hl,s1,g1,xD,xF,beq_self_eq_true,cond_true,s2,eo,s3,w1]
 have hfin:(LS N fun t=>D' t++[c2 t || wK (rN p k) t])=LS N fun t=>(D t++QJ p k t)++[false]:=by
  rw [M1]
  refine M0 fun t ht=>?_
  have:=g3 t (tE b t || wK (rN p k) t)
  rw [List.drop_zero] at this
  rw [hc2,Bool.or_assoc,this]
  unfold QJ
  rw [hb]
  simp only [mB,Bool.false_or,Zu hp hN hkl ht,VD hp hN hb ht]
 rw [hfin]
omit hN in
theorem HM:∀(k t:Nat),k≤p.blocks.length→(F3 p k t).length=((p.blocks.take k).map fun b=>b.ops.length+1).sum∧((p.blocks.take k).map fun b=>b.ops.length+1).sum≤k*1048577
 | 0,t,_=>by simp [F3]
 | k+1,t,hk=>by
  have hkl:k<p.blocks.length:=by omega
  obtain⟨h1,h2⟩:=HM k t (by omega)
  have h3:=hp.len _ (as2 hkl)
  rw [JQ,List.length_append,h1,List.take_succ_eq_append_getElem hkl,List.map_append,List.sum_append]
  have:(QJ p k t).length=p.blocks[k].ops.length+1:=by unfold QJ;rw [ac6 hkl];exact aiV
  rw [this]
  simp only [aq7,List.map_nil,List.sum_cons,List.sum_nil]
  omega
theorem Rm (h0:oR p=0) {l38:List Span}(hl:l38.length=N):∀(d k:Nat),p.blocks.length=k+d →
  tY (zZ (zH p) (zI p) l38 p ((p.blocks.length:Nat):Int)) (((((p.blocks.take k).map fun b=>b.ops.length+1).sum:Nat):Int),(k:Int),LS N fun t=>F3 p k t++[false]) =
   some (.x 2,(((((p.blocks.take p.blocks.length).map fun b=>b.ops.length+1).sum:Nat):Int),(p.blocks.length:Int),LS N fun t=>F3 p p.blocks.length t++[false])):=by
 intro d
 induction d with
 | zero =>
  intro k hk
  obtain rfl:k=p.blocks.length:=by omega
  refine p5 ?_ (by simp)
  simp [zZ]
 | succ d ih =>
  intro k hk
  have hkl:k<p.blocks.length:=by omega
  rw [←ih (k+1) (by omega)]
  refine q_ ?_
  have hnb:=hp.nb
  have hle:∀t,(F3 p k t).length=((p.blocks.take k).map fun b=>b.ops.length+1).sum:=fun t=>(HM hp k t (by omega)).1
  have hle2:=(HM hp k 0 (by omega)).2
  have hb:p.blocks[k]?=some p.blocks[k]:=ac6 hkl
  have hs:((p.blocks.take (k+1)).map fun b=>b.ops.length+1).sum=((p.blocks.take k).map fun b=>b.ops.length+1).sum+(p.blocks[k].ops.length+1):=by
   rw [List.take_succ_eq_append_getElem hkl,List.map_append,List.sum_append];simp
  have hg:=Uj hp hN hb h0 hl hle (by have:k*1048577≤1048576*1048577:=Nat.mul_le_mul_right _ (by omega);omega)
  have hii:(k:Int)<(p.blocks.length:Int):=by omega
  have w1:IntKind.i64.wrap ((k:Int)+1)=((k+1:Nat):Int):=by rw [wrap64 (by omega) (by omega),as1];rfl
  simp only [zZ,hii,decide_true,oM,hg,mR,xF,w1,hs,JQ]
theorem Uk {l38:List Span}(hl:l38.length=N) (hN2:N≤2000000):∀(d k:Nat) (R:List Span),N=k+d→R.length=d →
  tY (B8 l38 ((l38.length:Nat):Int)) ((k:Int),al7 k ⟨-1,-1⟩++R)=some (.x 0,((N:Int),al7 N ⟨-1,-1⟩)):=by
 intro d
 induction d with
 | zero =>
  intro k R hk hR
  obtain rfl:k=N:=by omega
  have:R=[]:=List.eq_nil_of_length_eq_zero hR
  subst this
  refine p5 ?_ (by simp)
  simp [B8,hl]
 | succ d ih =>
  intro k R hk hR
  obtain⟨x,R,rfl⟩:∃x r,R=x::r:=by cases R with | nil=>simp at hR | cons x r=>exact⟨x,r,rfl⟩
  rw [←ih (k+1) R (by omega) (by simpa using hR)]
  refine q_ ?_
  have hii:(k:Int)<(l38.length:Int):=by omega
  have w1:IntKind.i64.wrap ((k:Int)+1)=((k+1:Nat):Int):=by rw [wrap64 (by omega) (by omega),as1];rfl
  have e1:MH l38.length (k:Int)=some k:=by unfold MH;rw [if_pos (by omega)];rfl
  have hlen:(al7 k (⟨-1,-1⟩:Span)++x::R).length=l38.length:=by simp at hR ⊢;omega
  have e2:xR l38.length (al7 k ⟨-1,-1⟩++x::R) k=some x:=by
   unfold xR;rw [if_pos hlen,List.getElem?_append_right (by simp)];simp
  have e3:FN l38.length (al7 k ⟨-1,-1⟩++x::R) k ⟨-1,-1⟩=some (al7 (k+1) ⟨-1,-1⟩++R):=by
   unfold FN
   rw [if_pos ⟨hlen,by rw [hlen];omega⟩,List.set_append_right _ _ (by simp),List.length_replicate,Nat.sub_self,List.set_cons_zero,List.replicate_succ',List.append_assoc]
   rfl
  simp only [B8,hii,decide_true,oM,e1,mR,e2,e3,w1]
end
theorem FJ:∀{a b x y:List lC},nP a=some x→nP b=some y→nP (a++b)=some (x++y)
 | [],b,x,y,h1,h2=>by simp only [nP,Option.some.injEq] at h1;subst h1;exact h2
 | v::a,b,x,y,h1,h2=>by
  simp only [nP] at h1
  split at h1
  ·rename_i u w e1 e2
   cases h1
   simp only [List.cons_append,nP,e1,FJ e2 h2]
  ·cases h1
theorem HU {α:Type}{enc:α→List lC}(hp:∀x,nP (enc x)=some (enc x)):∀xs:List α,nP (Rw enc xs).flatten=some (Rw enc xs).flatten
 | []=>rfl
 | x::r=>by
  have e:(Rw enc (x::r)).flatten=enc x++(Rw enc r).flatten:=rfl
  rw [e];exact FJ (hp x) (HU hp r)
theorem JY {α:Type}{enc:α→List lC}{sz:Nat}(he:∀x,(enc x).length=sz):∀xs:List α,rowsOf xs.length sz (Rw enc xs).flatten=Rw enc xs
 | []=>rfl
 | x::r=>by
  have e:(Rw enc (x::r)).flatten=enc x++(Rw enc r).flatten:=rfl
  rw [List.length_cons,rowsOf,e,←he x,List.take_left,List.drop_left,he x,JY he r];rfl
theorem abS {α:Type}{enc:α→List lC}{sz id m:Nat}{h:lD}{xs:List α}(hm:¬id<m) (he:∀x,(enc x).length=sz) (hp:∀x,nP (enc x)=some (enc x)) (hb:h[id]?=some (Vc enc sz xs)) :
  lC.nO m h (.vslice id xs.length 0 xs.length sz)=.slice (Rw enc xs) .no:=by
 have hl:=vL he xs
 have ht:(((Rw enc xs).flatten.drop 0).take (xs.length*sz))=(Rw enc xs).flatten:=by rw [List.drop_zero,List.take_of_length_le (by rw [hl];exact Nat.le_refl _)]
 have hd:decide (id<m)=false:=decide_eq_false hm
 unfold lC.nO
 simp only [hd,cond_false,hb,Vc,ht,HU hp,JY he,hl,Nat.zero_add,Nat.le_refl,and_self,decide_true,cond_true]
theorem c39 (p:IR) (h:lD):KK 39 [.agg [.int .i64 p.temps,.slice (Rw mV.cells p.arrays) .no,.slice (Rw mF.cells p.blocks) .no,.int .i64 p.inn,.int .i64 p.out]] h =
  some (.ret (.tuple [.slice (Rw Span.cells (if oR p=0 then v7 p else [])) .no,.int .i64 (oR p)]),h):=by
 refine nG rfl rfl (oF (ah8 _ _ _) ?_)
 by_cases h0:oR p=0
 ·obtain⟨hp,hl⟩:=zL h0
  obtain⟨_,lp,_,_,_⟩:=xY h0
  have ht0:=lp.t0
  have ht1:=lp.t1
  have hN:((p.temps.toNat:Nat):Int)=p.temps:=by omega
  have hmk:tmk 16 (⟨0,0⟩:Span) p.temps=some (al7 p.temps.toNat ⟨0,0⟩):=by
   unfold tmk;rw [if_pos ⟨by omega,by omega,by omega⟩]
  generalize hl38:al7 p.temps.toNat (⟨0,0⟩:Span)=l38 at hmk
  have hlen:l38.length=p.temps.toNat:=by rw [←hl38];simp
  have l2:=Uk hp hN (l38:=l38) hlen (by omega) p.temps.toNat 0 l38 (by omega) hlen
  have l14:=Rm hp hN h0 (l38:=l38) hlen p.blocks.length 0 (by omega)
  have n0:((0:Nat):Int)=0:=rfl
  have hR:(LS p.temps.toNat fun t=>F3 p 0 t++[false])=al7 p.temps.toNat ⟨-1,-1⟩:=by
   unfold LS F3
   rw [List.eq_replicate_iff]
   refine⟨by simp,fun x hx=>?_⟩
   obtain⟨t,_,rfl⟩:=List.mem_map.1 hx
   rfl
  rw [hR] at l14
  simp only [n0,List.replicate_zero,List.nil_append,List.take_zero,List.map_nil,List.sum_nil] at l2 l14
  rw [M1] at l14
  have hs:(LS p.temps.toNat (F3 p p.blocks.length))=v7 p:=rfl
  rw [hs] at l14
  have hsl:(v7 p).length=l38.length:=by rw [hlen];exact Aa
  rw [if_pos h0]
  have hfz:∀(b0 b1:mC) (R:lD),lC.nO 0 (b0::b1::Vc Span.cells 2 (v7 p)::R) (.vslice 2 l38.length 0 l38.length 2)=.slice (Rw Span.cells (v7 p)) .no:=by
   intro b0 b1 R
   rw [←hsl]
   exact abS (enc:=Span.cells) (by omega) (fun _=>rfl) (fun _=>rfl) rfl
  simp -implicitDefEqProofs [-lM,-lF,-lE,-lG,-lK,-lI,-lH,m39,aqG,abW,h0,aiW,hmk,abF,Xk,l2,l14,Wg]
  simp only [lC.pV,aq7,List.map_nil,hfz]
  rfl
 ·rw [if_neg h0]
  simp -implicitDefEqProofs [-lM,-lF,-lE,-lG,-lK,-lI,-lH,m39,aqG,abW,h0,Wg]
end
end Go.Proofs.YtgllbnabmglcfaaGreatDoor
