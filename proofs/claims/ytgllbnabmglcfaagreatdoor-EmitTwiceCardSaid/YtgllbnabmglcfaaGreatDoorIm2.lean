/-
  The texts IM.K11, IM.R1, one behind another. No conditions.
-/
import Derived.Test.YtgllbnabmglcfaaGreatDoorIm1
import Derived.KernelRfl
set_option linter.unusedVariables false
set_option linter.unusedSimpArgs false
set_option linter.all false
open Bool renaming and_eq_true → am4
open List renaming all_eq_true → am7, getD_eq_getElem?_getD → ae9, getElem?_eq_getElem → ac6, getElem?_map → af7, getElem_mem → as2, nil_append → ar5, range → aq5, replicate → al7
open Option renaming bind_some → ai3
namespace Go.Proofs.YtgllbnabmglcfaaGreatDoor
noncomputable section
open Go Hk Go.Proofs.Wd
theorem xY {p:IR}(h:oR p=0):anG p∧XX p∧p.blocks≠[]∧Jz p.inn p.out 0 p.arrays=true∧∀b∈p.blocks,(∀o∈b.ops,WZ p o=true)∧Eb (p:=p) b.term=true:=by
 unfold oR at h
 cases hl:o9 p
 ·rw [hl,if_pos rfl] at h;exact absurd h (by decide)
 ·rw [hl,if_neg (by decide)] at h
  have l:=Bb.1 hl
  split at h
  ·rename_i hc
   obtain⟨c1,c2,c3,c4,c5,c6⟩:=hc
   simp only [mQ,am4,decide_eq_true_eq] at c1 c2
   split at h
   ·rename_i h2
    simp only [am4,am7] at h2
    refine⟨l,⟨c5,l.t1,l.a1,l.b1,c1.1,c1.2,c2.1,c2.2⟩,c6,h2.1,fun b hb=>?_⟩
    have:=h2.2 b hb
    simp only [Te,am4,am7] at this
    exact this
   ·exact absurd h (by decide)
  ·exact absurd h (by decide)
theorem zL {p:IR}(h:oR p=0):AK p∧∀b∈p.blocks,qH b.term=tO b.term:=by
 obtain⟨l,lp,hne,_,hb⟩:=xY h
 have ht0:=lp.t0
 have ht1:=lp.t1
 have hu:∀b∈p.blocks,∀o∈b.ops,(∀t∈oO o,0≤t∧t<p.temps)∧o.dst≤2000000∧((nK o.kind).dst=true→0≤o.dst∧o.dst<p.temps):=by
  intro b hbm o ho
  have h1:=(hb b hbm).1 o ho
  unfold WZ at h1
  simp only [am4,am7,decide_eq_true_eq,Bool.or_eq_true,Bool.not_eq_true',mQ] at h1
  obtain⟨_,_,h2,⟨h3,_⟩,h4,_⟩:=h1
  refine⟨fun t ht=>by have:=h2 t ht;omega,?_,fun hd=>?_⟩
  ·rcases h4 with h4 | h4
   ·rw [h4] at h3;simp at h3;omega
   ·omega
  ·rcases h4 with h4 | h4
   ·rw [hd] at h4;cases h4
   ·omega
 have hlead:∀b∈p.blocks,∀j∈qH b.term,0≤j∧j.toNat<p.blocks.length:=by
  intro b hbm j hj
  have h1:=(hb b hbm).2
  unfold Eb at h1
  unfold qH at hj
  by_cases k1:b.term.kind=1
  ·rw [if_pos k1] at h1 hj
   simp only [am4,decide_eq_true_eq,mQ] at h1
   have:=List.mem_filter.1 hj
   simp at this
   omega
  ·rw [if_neg k1] at h1 hj
   by_cases k2:b.term.kind=2
   ·rw [if_pos k2] at h1 hj
    simp only [am4,decide_eq_true_eq,mQ] at h1
    have:=List.mem_filter.1 hj
    simp at this
    omega
   ·rw [if_neg k2] at hj;simp at hj
 refine⟨⟨fun b hb o ho=>(hu b hb o ho).1,fun b hb o ho=>(hu b hb o ho).2.1,fun b hb o ho=>(hu b hb o ho).2.2,fun b hbm k2=>?_,hlead,ht1,by have:=lp.b1;omega,fun b hb=>by have:=NY hb;have:=l.o1;omega⟩,fun b hbm=>VJ (hb b hbm).2⟩
 have h1:=(hb b hbm).2
 unfold Eb at h1
 rw [if_neg (by omega),if_pos k2] at h1
 simp only [am4,decide_eq_true_eq,mQ] at h1
 omega
def slW (ws:List Wd):lC:=.slice (ints (zs (nX ws))) .no
def sG (l:List Cl) (i:Nat):List (List lC):=(aq5 i).map fun k=>[slW (Wk l k)]
theorem E6 {l:List Cl}{i:Nat}:(sG l i).length=i:=by simp [sG]
theorem Ii {l:List Cl}{i:Nat}:sG l (i+1)=sG l i++[[slW (Wk l i)]]:=by simp [sG,List.range_succ]
section
variable {p:IR}(hp:AK p) {ins outs:List Cl}(hi:ins.length=p.blocks.length) (ho:outs.length=p.blocks.length) (hsi:∀c∈ins,(rC c).length≤20000) (hso:∀c∈outs,(rC c).length≤20000)
include hp hi ho hsi hso
theorem TN:∀(d i:Nat),p.blocks.length=i+d →
  mX (L3 KK 7) ([T1,T2,.int .i64 0,.mslice 3 0 p.blocks.length 1,.mslice 4 0 p.blocks.length 1,.slice (sG ins i) (.own 5),.slice (sG outs i) (.own 6),.int .i64 (p.blocks.length:Int),.int .i64 (i:Int)],HB p (ins.map mA) (outs.map mA)++[FR i,FR i]) =
   some (.exit 8,[T1,T2,.int .i64 0,.mslice 3 0 p.blocks.length 1,.mslice 4 0 p.blocks.length 1,.slice (sG ins p.blocks.length) (.own 5),.slice (sG outs p.blocks.length) (.own 6),.int .i64 (p.blocks.length:Int),.int .i64 (p.blocks.length:Int)],
    HB p (ins.map mA) (outs.map mA)++[FR p.blocks.length,FR p.blocks.length]):=by
 have q1:=fun h=>sT1 (m:=7) (h:=h) (by omega)
 have q2:=fun h=>sT2 (m:=7) (h:=h) (by omega)
 have q3:=fun h=>sMI (m:=7) (h:=h) (n:=p.blocks.length) (by omega)
 have q4:=fun h=>sMO (m:=7) (h:=h) (n:=p.blocks.length) (by omega)
 have q5:∀h rows,lC.pV 7 h (.slice rows (.own 5))=.slice rows (.own 5):=fun h rows=>by simp
 have q6:∀h rows,lC.pV 7 h (.slice rows (.own 6))=.slice rows (.own 6):=fun h rows=>by simp
 have hnb:=hp.nb
 have hT:∀n k:Nat,TH (HB p (ins.map mA) (outs.map mA)++[FR n,FR k]):=fun n k=>by
  have e:HB p (ins.map mA) (outs.map mA)++[FR n,FR k]=HB p (ins.map mA) (outs.map mA)++([FR n]++[FR k]):=rfl
  unfold TH;rw [e]
  exact p8 (CA (o7 _) (o7 _)) (p8 AJ AJ)
 have htr:∀n k C,oD 7 (.cells p.cells::.front 0 0::.front 0 0::.cells (ins.map mA)::.cells (outs.map mA)::FR n::FR k::C)=some [.cells p.cells,.front 0 0,.front 0 0,.cells (ins.map mA),.cells (outs.map mA),FR n,FR k]:=fun n k C=>sW (C:=C) (hT n k)
 intro d
 induction d with
 | zero =>
  intro i hd
  obtain rfl:p.blocks.length=i:=by omega
  refine tI ?_
  simp only [HB,List.cons_append,ar5]
  unfold L3
  simp -implicitDefEqProofs [lX,htr,q1,q2,q3,q4,q5,q6]
 | succ d ih =>
  intro i hd
  have hil:i<p.blocks.length:=by omega
  have hil':(i:Int)<(p.blocks.length:Int):=by omega
  rw [←ih (i+1) (by omega)]
  refine AM ?_
  have hci:ins[i]?=some ins[i]:=ac6 (by omega)
  have hco:outs[i]?=some outs[i]:=ac6 (by omega)
  have hWi:rC ins[i]=Wk ins i:=by unfold Wk;rw [ae9,hci];rfl
  have hWo:rC outs[i]=Wk outs i:=by unfold Wk;rw [ae9,hco];rfl
  have ixi:lU 1 (.mslice 3 0 p.blocks.length 1) (.int .i64 (i:Int))=some (.ptr 3 i):=by rw [rR,if_pos ⟨hil,rfl⟩];simp
  have ixo:lU 1 (.mslice 4 0 p.blocks.length 1) (.int .i64 (i:Int))=some (.ptr 4 i):=by rw [rR,if_pos ⟨hil,rfl⟩];simp
  have ldi:∀X Y Z W C,lP false 1 (X::Y::Z::.cells (ins.map mA)::W::C) (.ptr 3 i)=some (mA ins[i]):=fun X Y Z W C=>by
   rw [qL]
   have:nW (X::Y::Z::.cells (ins.map mA)::W::C) 3=some (ins.map mA):=rfl
   rw [this,ai3,af7,hci];rfl
  have ldo:∀X Y Z W C,lP false 1 (X::Y::Z::W::.cells (outs.map mA)::C) (.ptr 4 i)=some (mA outs[i]):=fun X Y Z W C=>by
   rw [qL]
   have:nW (X::Y::Z::W::.cells (outs.map mA)::C) 4=some (outs.map mA):=rfl
   rw [this,ai3,af7,hco];rfl
  have hTh:TH ([.cells p.cells,.front 0 0,.front 0 0,.cells (ins.map mA),.gone,FR i,FR i]:lD):=by
   have e:([.cells p.cells,.front 0 0,.front 0 0,.cells (ins.map mA),.gone,FR i,FR i]:lD)=[.cells p.cells,.front 0 0,.front 0 0,.cells (ins.map mA),.gone]++([FR i]++[FR i]):=rfl
   unfold TH;rw [e]
   exact p8 (rV GC (oP (oP (rV (o7 _) (z8.2 rD))))) (p8 AJ AJ)
  have g1:=c85 hTh (G_ ins[i]) (hsi _ (as2 _))
  rw [hWi] at g1
  have hT2:TH ([.cells p.cells,.front 0 0,.front 0 0,.cells (ins.map mA),.cells (outs.map mA),FR (i+1),FR i,.front 1 1]:lD):=by
   have e:([.cells p.cells,.front 0 0,.front 0 0,.cells (ins.map mA),.cells (outs.map mA),FR (i+1),FR i,.front 1 1]:lD)=HB p (ins.map mA) (outs.map mA)++([FR (i+1)]++([FR i]++[.front 1 1])):=rfl
   unfold TH;rw [e]
   exact p8 (CA (o7 _) (o7 _)) (p8 AJ (p8 AJ (oP rD)))
  have g2:=c85 hT2 (G_ outs[i]) (hso _ (as2 _))
  rw [hWo] at g2
  have w1:IntKind.i64.wrap ((i:Int)+1)=((i+1:Nat):Int):=by rw [wrap64 (by omega) (by omega),Int.natCast_add];rfl
  have row:∀(z:List Int) (h:lD),lR 1 1 [.slice [] .nil] [(0,.slice (ints z) .no)] h=some (.slice [[.slice (ints z) .no]] (.own h.length),h++[.front 1 1]):=fun z h=>rfl
  have a1:=fun t=>OX (h:=[.cells p.cells,.front 0 0,.front 0 0,.cells (ins.map mA),.gone]) (C:=[FR i,.front 1 1]) (rows:=sG ins i) (v:=.slice (ints (zs (nX (Wk ins i)))) .no) (by_:=24) (by omega) (by rw [E6];omega) (t:=t)
  have a2:=fun t=>OX (h:=[.cells p.cells,.front 0 0,.front 0 0,.cells (ins.map mA),.cells (outs.map mA),FR (i+1)]) (C:=[.front 1 1,.front 1 1]) (rows:=sG outs i) (v:=.slice (ints (zs (nX (Wk outs i)))) .no) (by_:=24) (by omega) (by rw [E6];omega) (t:=t)
  have r1:sG ins i++[[.slice (ints (zs (nX (Wk ins i)))) .no]]=sG ins (i+1):=Ii.symm
  have r2:sG outs i++[[.slice (ints (zs (nX (Wk outs i)))) .no]]=sG outs (i+1):=Ii.symm
  simp only [E6,r1,r2,List.length_cons,List.length_nil,Nat.zero_add,Nat.reduceAdd,List.cons_append,ar5] at a1 a2
  simp only [HB,List.cons_append,ar5]
  generalize ((i+1:Nat):Int)=i1 at *
  generalize sG ins (i+1)=R1 at *
  generalize sG outs (i+1)=R2 at *
  generalize sG ins i=R3 at *
  generalize sG outs i=R4 at *
  generalize zs (nX (Wk ins i))=z1 at *
  generalize zs (nX (Wk outs i))=z2 at *
  generalize mA ins[i]=c1 at *
  generalize mA outs[i]=c2 at *
  unfold L3
  simp -implicitDefEqProofs [-qL,hil',ixi,ixo,ldi,ldo,g1,g2,row,a1,a2,w1,lX,htr,q1,q2,q3,q4,q5,q6]
end
open Classical in
def vX (p:IR) (k:Nat):List Int:=zs ((aq5 p.temps.toNat).filter fun t=>decide (Reach p.blocks (t:Int) k))
open Classical in
def rN (p:IR) (k:Nat):List Int:=zs ((aq5 p.temps.toNat).filter fun t=>decide (∃b,p.blocks[k]?=some b∧Ej p.blocks (t:Int) b.term))
def zH (p:IR):List (List Int):=if oR p=0 then(aq5 p.blocks.length).map (vX p) else []
def zI (p:IR):List (List Int):=if oR p=0 then(aq5 p.blocks.length).map (rN p) else []
def EN (l:List (List Int)):lC:=.slice (l.map fun z=>[.slice (ints z) .no]) .no
theorem FB {ws:List Wd}{n:Nat}{P:Nat→Prop} [DecidablePred P] (h:∀t,oY ws t=true↔P t) (hn:∀t,P t→t<n):nX ws=(aq5 n).filter fun t=>decide (P t):=by
 rw [Bc fun t ht=>hn t ((h t).1 ht)]
 apply List.filter_congr
 intro t _
 cases hx:oY ws t
 ·have:¬P t:=fun hp=>by rw [(h t).2 hp] at hx;cases hx
  simp [this]
 ·simp [(h t).1 hx]
theorem c71 (p:IR) (h:lD):KK 71 [.agg p.cells] h=some (.ret (.tuple [EN (zH p),EN (zI p),.int .i64 (oR p)]),h):=by
 classical
 refine nG rfl rfl (oF (aiK _ _ _) ?_)
 have g30:=c9 p
 by_cases h0:oR p=0
 ·obtain⟨hp,hl⟩:=zL h0
  obtain⟨_,lp,_⟩:=xY h0
  have hM:∀ins,SI p ins→wB ins≤p.blocks.length*1280000:=fun ins hI=>by have:=On ins hI.sz;rwa [hI.len] at this
  obtain⟨ins,outs,g1,g2,g3,g4⟩:=TM hp hl _ hM _ (al7 p.blocks.length (false,[])) (al7 p.blocks.length (false,[])) true (Nat.lt_succ_self _) (SI.start hp hl) (by simp) (fun h=>by cases h)
  have hso:∀c∈outs,(rC c).length≤20000:=fun c hc=>by
   obtain⟨k,hk⟩:=List.getElem?_of_mem hc
   have hkl:k<p.blocks.length:=by rw [←g3];exact(List.getElem?_eq_some_iff.1 hk).1
   have:=(g4 k _ (ac6 hkl)).1
   rw [ae9,hk] at this
   simp at this
   rw [this]
   exact zD 20000 _ [] (by simp) fun s hs'=>by
    obtain⟨j,_,rfl⟩:=List.mem_map.1 hs'
    exact ab9 g2.sz j.toNat
  have g5:=TN hp g2.len g3 g2.sz hso p.blocks.length 0 (by omega)
  have e1:sG ins p.blocks.length=(zH p).map fun z=>[.slice (ints z) .no]:=by
   unfold sG zH
   rw [if_pos h0,List.map_map]
   apply List.map_congr_left
   intro k hk
   simp only [Function.comp,slW,vX]
   rw [FB (n:=p.temps.toNat) (P:=fun t:Nat=>Reach p.blocks (t:Int) k) (fun t=>SI.complete hp hl g2 g4 k t) (fun t ht=>by have:=(FK hp ht).2;omega)]
  have e2:sG outs p.blocks.length=(zI p).map fun z=>[.slice (ints z) .no]:=by
   unfold sG zI
   rw [if_pos h0,List.map_map]
   apply List.map_congr_left
   intro k hk
   have hkl:=List.mem_range.1 hk
   have hb:p.blocks[k]?=some p.blocks[k]:=ac6 hkl
   have hbm:=as2 hkl
   have hw:Wk outs k=AR ins p.blocks[k]:=by unfold Wk;rw [(g4 k _ hb).1];rfl
   simp only [Function.comp,slW,rN]
   rw [hw,FB (n:=p.temps.toNat) (P:=fun t:Nat=>∃b,p.blocks[k]?=some b∧Ej p.blocks (t:Int) b.term) (fun t=>?_) (fun t ht=>?_)]
   ·rw [OS]
    constructor
    ·rintro⟨j,hj,ht⟩
     rw [hl _ hbm] at hj
     exact⟨_,hb,j,hj,(SI.complete hp hl g2 g4 _ _).1 ht⟩
    ·rintro⟨b,hb',j,hj,hr⟩
     rw [hb] at hb';cases hb'
     rw [←hl _ hbm] at hj
     exact⟨j,hj,(SI.complete hp hl g2 g4 _ _).2 hr⟩
   ·obtain⟨b,_,j,_,hr⟩:=ht
    have:=(FK hp hr).2;omega
  rw [e1,e2] at g5
  have e0:∀l:List Cl,sG l 0=[]:=fun l=>rfl
  have eF:FR 0=.front 0 0:=rfl
  have er:(al7 p.blocks.length (false,[])).map mA=al7 p.blocks.length (.slice [] .nil):=by rw [List.map_replicate];rfl
  simp only [e0,eF,Int.cast_ofNat_Int] at g5
  rw [er] at g1
  have mk:∀(h:lD),qM 1 24 [.slice [] .nil] (.int .i64 (p.blocks.length:Int)) h=some (.mslice h.length 0 p.blocks.length 1,h++[.cells (al7 p.blocks.length (.slice [] .nil))]):=fun h=>by
   have hnb:=hp.nb
   simp only [qM]
   rw [if_pos ⟨by omega,by simp;omega,by omega⟩]
   simp
  rw [h0] at g30 ⊢
  have st:∀(r1 r2:List (List lC)) (h:lD),lC.lL (lC.pV 0 h (.tuple [.slice r1 (.own 5),.slice r2 (.own 6),.int .i64 0]))=.tuple [.slice r1 .no,.slice r2 .no,.int .i64 0]:=fun _ _ _=>rfl
  unfold EN
  generalize (zH p).map (fun z=>[lC.slice (ints z) .no])=R1 at *
  generalize (zI p).map (fun z=>[lC.slice (ints z) .no])=R2 at *
  generalize ins.map mA=ci at *
  generalize outs.map mA=co at *
  simp only [lvS,HB,T1,T2,List.cons_append,ar5,IR.cells] at g1 g5 g30 ⊢
  generalize al7 p.blocks.length (lC.slice [] .nil)=c0 at *
  simp -implicitDefEqProofs [m71,g30,mk,g1,g5,nJ,st]
 ·have e1:zH p=[]:=if_neg h0
  have e2:zI p=[]:=if_neg h0
  rw [e1,e2]
  generalize oR p=e at *
  have st:∀(h:lD),lC.lL (lC.pV 0 h (.tuple [.slice [] (.own 3),.slice [] (.own 4),.int .i64 e]))=.tuple [.slice [] .no,.slice [] .no,.int .i64 e]:=fun _=>rfl
  simp only [IR.cells] at g30 ⊢
  simp -implicitDefEqProofs [m71,g30,h0,nJ,st,EN]
end
section
open Go Hk Go.Proofs.Wd
section
variable {A B C:List mC}{ws:List Int}{id m i:Nat}{h:lD}{k:IntKind}
end
end
end Go.Proofs.YtgllbnabmglcfaaGreatDoor
