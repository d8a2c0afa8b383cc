/-
  The texts Vk.Mem10, Vk.MemT, Vk.MemS, Vk.Op, Vk.Nat1, Vk.Region, Vk.Region2, Vk.Region3, Vk.Region4, Vk.Trunc, Vk.Rd, Vk.Code, Vk.Dfr, one behind another. No conditions.
-/
import Derived.Test.YtgllbnabmglcfaaGreatDoorVk1
import Derived.Deep.AppendSrc
import Derived.Orders
import Derived.RangeFuncLeaves
import Derived.RangeFuncRecord
import Derived.RangeFuncSeq
import Derived.OrdersIn
import Derived.LoopNIn
import Derived.LoopN
import Derived.Recover
set_option linter.unusedVariables false
set_option linter.unusedSimpArgs false
set_option linter.all false
open Array renaming getD_eq_getD_getElem? → aj5, getElem?_toList → aq2, length_toList → av9
open Bool renaming and_eq_true → aq1
open List renaming all_eq_true → aq5, append_assoc → aw8, cons_append → ax4, getD_eq_getElem?_getD → ah6, getElem?_append_left → aq3, getElem?_append_right → ak0, getElem?_drop → aq4, getElem?_eq_getElem → ag8, getElem?_eq_some_iff → ag0, getElem?_map → ak4, getElem?_take → ar0, length_append → au9, length_cons → ar8, length_map → au7, length_take → ar6, map_cons → as6, mem_append → au0, mem_map → au6, mem_of_getElem? → aj8, range → ar9, replicate → ak7
open Nat renaming add_mul → aB1, add_zero → aA4, le_refl → ak5, mul_le_mul_right → as0
open Option renaming bind_eq_some_iff → ac6, bind_some → ak6, map_eq_some_iff → ah7
open Option.some renaming injEq → ah5
open Prod.mk renaming injEq → as7
namespace Hk
section
open Go Go.RowKit
theorem xB {sz:Nat}:∀(rows:List (List lS)),(∀r∈rows,r.length=sz)→rows.flatten.length=rows.length*sz ∧
  ∀(k:Nat) (c:lS),rows.flatten[k]?=some c→∃(i j:Nat) (row:List lS),rows[i]?=some row∧row[j]?=some c∧k=i*sz+j
 | [],_=>⟨by simp,by simp⟩
 | r::rows,h=>by
  obtain⟨h1,h2⟩:=xB rows fun x hx=>h x (by simp [hx])
  have hr:=h r (by simp)
  refine⟨by simp [h1,hr,aB1];omega,fun k c hk=>?_⟩
  simp only [List.flatten_cons] at hk
  by_cases hlt:k<r.length
  ·rw [aq3 hlt] at hk
   exact⟨0,k,r,rfl,hk,by omega⟩
  ·rw [ak0 (by omega)] at hk
   obtain⟨i,j,row,a1,a2,a3⟩:=h2 _ _ hk
   exact⟨i+1,j,row,by simpa using a1,a2,by rw [aB1];omega⟩
section
variable {P:Program}{G:Gh}{h:lT}{w:World}{x y v:lS}{X Y V:Value}
theorem Inv.Lv (i:Inv G h w) {id tot' sz bb cap':Nat}{old:mT}{cs':List lS}{C':Array Value}{e':TypeId}{w':World}(hid:h[id]?=some old)
  (hold:(old=.front 0 0)∨∃tot sz0 cs,old=.vec tot sz0 cs∧tot<tot')
  (os:w'.os=w.os) (tape:w'.tape=w.tape) (output:w'.output=w.output) (size:w.heap.size≤w'.heap.size)
  (heap:∀k,k<w.heap.size→nR G id old≠some k→w'.heap[k]?=w.heap[k]?)
  (hbb:(w.heap.size≤bb)∨nR G id old=some bb)
  (hC:w'.heap[bb]?=some (.cells C' e' (0,0))) (hcap:tot'≤cap') (hmax:cap'≤maxLen) (hCs:C'.size=cap'*sz) (hsz0:0<sz) (hcs:cs'.length=tot'*sz)
  (hrel:∀(j:Nat) (u:lS),cs'[j]?=some u→u.mZ=true∧mJ G h u (C'.getD j undef)) :
  ∃G',Inv G' (h.set id (.vec tot' sz cs')) w'∧Ext G h w G' (h.set id (.vec tot' sz cs')) w'∧G'.cur id=.slice (some ⟨bb,0,none⟩) tot' cap':=by
 let G':Gh:={ G with cur:=fun j=>if j=id then .slice (some ⟨bb,0,none⟩) tot' cap' else G.cur j }
 have hcur:G'.cur id=.slice (some ⟨bb,0,none⟩) tot' cap':=if_pos rfl
 have hbl:=i.nY id old hid
 have hHn:∀k,G.H bb k=none:=by
  intro k
  rcases hbb with h1 | h1
  ·exact i.E2 h1
  ·rcases hold with rfl | ⟨tot,sz0,cs,rfl,_⟩
   ·rcases hbl with ⟨_,h2⟩ | ⟨b,cap,C,e,h2,h3,h4,h5,h6,h7,h8,_⟩
    ·simp [nR,h2,Value.ownBlock] at h1
    ·omega
   ·obtain⟨b,cap,C,e,g1,g2,g3,g4,g5,g6,g7,g8,g9⟩:=hbl
    simp [nR,g1,Value.ownBlock] at h1
    subst h1;exact g8 k
 have key:=i.step (G':=G') id old (.vec tot' sz cs') hid os tape output size heap (fun _ _=>rfl) (fun j hj=>if_neg hj) (fun _ _ _ hh=>hh) (fun _ _ _ _=>rfl)
  (fun b k v hb hv=>by
   have hv:G.H b k=some v:=hv
   rcases hb with hb | hb
   ·rw [i.E2 hb] at hv;cases hv
   ·rcases hold with rfl | ⟨tot,sz0,cs,rfl,_⟩
    ·rcases hbl with ⟨_,h2⟩ | ⟨b,cap,C,e,h2,h3,h4,h5,h6,h7,h8,_⟩
     ·simp [nR,h2,Value.ownBlock] at hb
     ·omega
    ·obtain⟨b',cap,C,e,g1,g2,g3,g4,g5,g6,g7,g8,g9⟩:=hbl
     simp [nR,g1,Value.ownBlock] at hb
     subst hb;rw [g8] at hv;cases hv)
  (by
   rcases hold with rfl | ⟨tot,sz0,cs,rfl,hlt⟩
   ·exact⟨rfl,rfl⟩
   ·obtain⟨b,cap,C,e,g1,_⟩:=hbl
    refine⟨rfl,?_,fun e=>?_⟩
    ·rw [hcur,g1];simp only [wG];omega
    ·rw [hcur,g1] at e;simp only [wG] at e;omega)
  (fun m=>⟨bb,cap',C',e',hcur,hC,hcap,hmax,hCs,hsz0,hcs,hHn,fun j u hu=>⟨(hrel j u hu).1,(hrel j u hu).2.mono m⟩⟩)
  (fun b hb=>by
   have hb:(G'.cur id).ownBlock=some b:=hb
   rw [hcur] at hb
   simp only [Value.ownBlock,ah5] at hb
   subst hb;exact hbb)
 exact⟨G',key.1,key.2,hcur⟩
structure Oo (G:Gh) (h:lT) (w:World) (sz:Nat) (rows:List (List lS)) (X:Value) (a:Option Addr) (news:List Value):Prop where
 form:∃cap,X=.slice a rows.length cap
 len:news.length=rows.length*sz
 rlen:∀r∈rows,r.length=sz
 at_:∀(j:Nat) u,news[j]?=some u→∃ad,a=some ad∧w.cell? (ad.add j)=some u
 rel:∀(i j:Nat) (row:List lS) (c:lS),rows[i]?=some row→row[j]?=some c→∃u,news[i*sz+j]?=some u∧mJ G h c u∧c.mZ=true
theorem Src.toV {sz:Nat}{rows:List (List lS)}{a:Option Addr}{news:List Value}(s:Src G h w sz rows X a news):Oo G h w sz rows X a news :=
 ⟨s.form,s.len,s.rlen,s.at_,fun i j row c h1 h2=>by obtain⟨u,e1,e2,e3⟩:=s.rel i j row c h1 h2;exact⟨u,e1,.p _ _ e2,e3⟩⟩
theorem Oo.one {sz : Nat} {rows : List (List lS)} {a : Option Addr} {news : List Value} (s : Oo G h w sz rows X a news) : ∀ u ∈ news, u.oneCell' = true := by
  intro u hu
  obtain ⟨j, hj⟩ := List.getElem?_of_mem hu
  have hjl : j < rows.length * sz := by rw [← s.len]; exact (ag0.1 hj).1
  have hpos : 0 < sz := by rcases Nat.eq_zero_or_pos sz with h0 | h0; · rw [h0] at hjl; omega
                           · exact h0
  have hrow : j / sz < rows.length := (Nat.div_lt_iff_lt_mul hpos).2 hjl
  have h1 : rows[j / sz]? = some rows[j / sz] := ag8 hrow
  have hl := s.rlen _ (aj8 h1)
  have h2 : rows[j / sz][j % sz]? = some (rows[j / sz][j % sz]'(by rw [hl]; exact Nat.mod_lt _ hpos)) := ag8 _
  obtain ⟨u', e1, e2, e3⟩ := s.rel _ _ _ _ h1 h2
  rw [show j / sz * sz + j % sz = j by rw [Nat.mul_comm]; exact Nat.div_add_mod j sz] at e1
  rw [hj] at e1; cases e1
  exact (e2.AI e3).1
theorem Oo.flat {sz:Nat}{rows:List (List lS)}{a:Option Addr}{news:List Value}(s:Oo G h w sz rows X a news) :
  rows.flatten.length=news.length∧∀(k:Nat) (c:lS),rows.flatten[k]?=some c→c.mZ=true∧∃u,news[k]?=some u∧mJ G h c u:=by
 obtain⟨h1,h2⟩:=xB rows s.rlen
 refine⟨by rw [h1,s.len],fun k c hk=>?_⟩
 obtain⟨i,j,row,a1,a2,rfl⟩:=h2 k c hk
 obtain⟨u,b1,b2,b3⟩:=s.rel i j row c a1 a2
 exact⟨b3,u,b1,b2⟩
theorem Ay {sz:Nat}{rows:List (List lS)}(i:Inv G h w) (hb:xU sz h x=some rows) (hx:mJ G h x X):∃a news,Oo G h w sz rows X a news:=by
 unfold xU at hb
 split at hb
 ·rename_i r hr
  cases hb
  obtain⟨a,news,s⟩:=w7 i hr hx
  exact⟨a,news,s.toV⟩
 ·unfold WQ at hb
  split at hb
  ·rename_i id tot off len sz' hno
   split at hb
   case h_2=>cases hb
   case h_1 x0 hgb =>
    have hid:=rP hgb
    split at hb
    case isFalse=>cases hb
    rename_i hcond
    obtain⟨rfl,hle⟩:=hcond
    simp only [ah5] at hb
    subst hb
    obtain⟨b,cap,rfl,hnf,htot,hlc,hv⟩:=hx.qK
    obtain⟨b',cap',C,e,g1,g2,g3,g4,g5,g6,g7,g8,g9⟩:=i.nY id _ hid
    obtain⟨l0,cap0,k1,_⟩:=hv (by rw [g1];rfl)
    rw [g1] at k1
    simp only [Value.slice.injEq,ah5,Addr.mk.injEq] at k1
    obtain⟨⟨rfl,_⟩,_,rfl⟩:=k1
    have hcl:x0.2.length≤C.size:=by rw [g7,g5];exact as0 _ g3
    have hdl:((x0.2.drop off).take (len*sz')).length=len*sz':=by rw [ar6,List.length_drop];omega
    obtain⟨q1,q2,q3⟩:=q9 len sz' _ (by omega:len*sz'≤((x0.2.drop off).take (len*sz')).length)
    refine⟨some ⟨b',off,none⟩,(C.toList.drop off).take (len*sz'),⟨cap,by rw [q1]⟩,by rw [q1,ar6,List.length_drop,av9];omega,q2,?_,?_⟩
    ·intro j u hu
     rw [ar0] at hu
     split at hu
     ·refine⟨_,rfl,?_⟩
      rw [add_plain,cell_of w _ _ g2]
      rw [aq4,aq2] at hu
      exact hu
     ·cases hu
    ·intro i' j r c hi hj
     have hrow':=q3 i' j r c hi hj
     have hlt:i'*sz'+j<len*sz':=by
      have:=(ag0.1 hrow').1;omega
     have hc1:x0.2[off+(i'*sz'+j)]?=some c:=by
      rw [ar0,if_pos hlt,aq4] at hrow';exact hrow'
     obtain⟨hk,hrel⟩:=g9 _ c hc1
     have hCl:off+(i'*sz'+j)<C.size:=by have:=(ag0.1 hc1).1;omega
     refine⟨C.getD (off+(i'*sz'+j)) undef,?_,hrel,hk⟩
     rw [ar0,if_pos hlt,aq4,aq2,Array.getElem?_eq_getElem hCl]
     simp [aj5,hCl]
  ·cases hb
theorem A8 {G':Gh}{h':lT}{id tot n sz bb cap:Nat}{cs:List lS}(hb:h'[id]?=some (.vec tot sz cs)) (hc:G'.cur id=.slice (some ⟨bb,0,none⟩) tot cap) (hn:n≤tot) (ht:tot≤cap) :
  mJ G' h' (.vslice id tot 0 n sz) (.slice (some ⟨bb,0,none⟩) n cap) :=
 .vslice id tot 0 n sz bb cap ⟨_,hb,by simp,by simp⟩ (by rw [hc];exact ak5 _) (by omega) fun _=>⟨0,cap,hc,by simp,by omega,by omega⟩
set_option maxHeartbeats 2000000 in
theorem HC {t ty e:TypeId}{sz bytes:Nat}{z r:lS}{h':lT}(i:Inv G h w) (ht:P.underlying t=some (.slice e)) (hn:oO P e=some sz) (hby:uY P e=some bytes)
  (hz:qM P e=some z) (hzj:z.o7=false) (hzl:z.cells.length=sz) (hsz:sz≠0) (hb:oY sz bytes h x y=some (r,h')) (hx:mJ G h x X) (hy:mJ G h y Y) :
  ∃V w' G',(Builtin.append_ #[t,t] ty #[X,Y]).run P w=.ok V w'∧Inv G' h' w'∧Ext G h w G' h' w'∧mJ G' h' r V:=by
 obtain⟨ti,hti,hts,htb,Z,hzz,hZs⟩:∃ti,P.info? e=some ti∧ti.size=sz∧ti.bytes=bytes∧∃Z,ti.zero=some Z∧Z.cells.size=sz:=by
  unfold oO at hn;unfold uY at hby;unfold qM at hz
  cases hi:P.info? e with
  | none=>simp [hi] at hn
  | some ti =>
   simp [hi] at hn hby hz
   obtain⟨Z,hZ1,hZ2⟩:=hz
   refine⟨ti,rfl,hn,hby,Z,hZ1,?_⟩
   subst hZ2
   rw [←hzl];exact(tF hzj (tI G h Z)).1.symm
 have fromNil:∀{G:Gh}{h:lT}{id:Nat}{new:List (List lS)}{a:Option Addr}{news:List Value}{capY:Nat},Inv G h w→h[id]?=some (.front 0 0)→Oo G h w sz new Y a news→Y=.slice a new.length capY→new.length≠0 →
   new.length*bytes≤140737488355328→new.length≤140737488355328 →
   ∃V w' G',(Builtin.append_ #[t,t] ty #[.slice none 0 0,Y]).run P w=.ok V w'∧Inv G' (h.set id (.vec new.length sz new.flatten)) w'∧Ext G h w G' (h.set id (.vec new.length sz new.flatten)) w' ∧
    mJ G' (h.set id (.vec new.length sz new.flatten)) (.vslice id new.length 0 new.length sz) V:=by
  intro G h id new a news capY i hid src hYf hm hbytes hsmall
  have hposn:0<news.length:=by rw [src.len];exact Nat.mul_pos (by omega) (by omega)
  obtain⟨ad,had,_⟩:=src.at_ 0 _ (ag8 hposn)
  subst had
  have hnews:∀j u,news[j]?=some u→w.cell? (ad.add j)=some u:=fun j u hu=>by
   obtain⟨ad',e1,e2⟩:=src.at_ j u hu;cases e1;exact e2
  have hnl:news.length=new.length*ti.size:=by rw [hts];exact src.len
  have hrun:=run_append_nil (P:=P) w t ty e ti Z ht hti hzz ad new.length capY news hnl hnews (by omega) (by omega) (by rw [htb];omega)
  have hcapg:=grownCap_ge w new.length 0 e
  have hcapm:=grownCap_le_maxLen w new.length 0 e (by simp only [maxLen];omega)
  obtain⟨f1,f2⟩:=src.flat
  obtain⟨G',g1,g2,g3⟩:=i.Lv (id:=id) (tot':=new.length) (sz:=sz) (bb:=w.heap.size) (cap':=grownCap w new.length 0 e) (cs':=new.flatten)
   (w':=w.drew.alloc (.cells (news.toArray++Builtin.zeroCells Z.cells (grownCap w new.length 0 e-new.length)) e)) hid (.inl rfl) rfl rfl rfl (by simp)
   (fun k hk _=>oU w.drew _ k hk) (.inl (ak5 _)) (heap_alloc_new w.drew _) (by omega) hcapm
   (by simp only [Array.size_append,List.size_toArray,size_zeroCells,hZs,src.len,←aB1];congr 1;omega)
   (by omega) (by rw [f1,src.len]) (fun j u hu=>by
    obtain⟨c1,u',c2,c3⟩:=f2 j u hu
    refine⟨c1,?_⟩
    rw [aj5,Array.getElem?_append_left (by simpa using (ag0.1 c2).1),List.getElem?_toArray,c2]
    exact c3)
  rw [hYf]
  refine⟨_,_,G',hrun,g1,g2,A8 (cs:=new.flatten) ?_ g3 (ak5 _) hcapg⟩
  simp [(ag0.1 hid).1]
 unfold oY at hb
 split at hb
 ·-- a token that nobody has used
  rename_i id new hnew
  obtain⟨a,news,src⟩:=Ay i hnew hy
  obtain⟨capY,hYf⟩:=src.form
  split at hb
  ·rename_i hid
   split at hb
   case isFalse=>cases hb
   rename_i hcond
   obtain⟨hbytes,hsmall⟩:=hcond
   obtain⟨hX,_,hcur⟩:=KX i hx hid rfl
   have hc:G.cur id=.slice none 0 0:=by
    rcases hcur with ⟨_,hc⟩ | ⟨b,cap,C,e0,hc,_,_,_,_,hs0,_⟩
    ·exact hc
    ·omega
   rw [hX,hc]
   split at hb
   ·rename_i hm
    simp only [ah5,as7] at hb
    obtain⟨rfl,rfl⟩:=hb
    refine⟨.slice none 0 0,w,G,?_,i,Ext.refl G h w,by rw [hX,hc] at hx;exact hx⟩
    rw [hYf,hm]
    exact rN ht hti none a 0 0 capY (ak5 _)
   ·rename_i hm
    simp only [ah5,as7] at hb
    obtain⟨rfl,rfl⟩:=hb
    exact fromNil i hid src hYf hm hbytes hsmall
  ·cases hb
 ·-- a nil slice
  rename_i new hnew
  obtain⟨a,news,src⟩:=Ay i hnew hy
  obtain⟨capY,hYf⟩:=src.form
  have hX:=hx.Nn
  rw [hX]
  split at hb
  ·rename_i hm
   simp only [ah5,as7] at hb
   obtain⟨rfl,rfl⟩:=hb
   refine⟨.slice none 0 0,w,G,?_,i,Ext.refl G h w,by rw [hX] at hx;exact hx⟩
   rw [hYf,hm]
   exact rN ht hti none a 0 0 capY (ak5 _)
  ·rename_i hm
   split at hb
   case isFalse=>cases hb
   rename_i hcond
   obtain⟨hbytes,hsmall⟩:=hcond
   simp only [ah5,as7] at hb
   obtain⟨rfl,rfl⟩:=hb
   obtain⟨G1,i1,x1,hc1,hH1⟩:=i.Cn
   have src1:Oo G1 (h++[.front 0 0]) w sz new Y a news:=⟨src.form,src.len,src.rlen,src.at_,fun i j row c h1 h2=>by
    obtain⟨u,e1,e2,e3⟩:=src.rel i j row c h1 h2;exact⟨u,e1,e2.mono x1.toMono,e3⟩⟩
   obtain⟨V,w',G',k1,k2,k3,k4⟩:=fromNil (id:=h.length) i1 (by simp) src1 hYf hm hbytes hsmall
   have hset:(h++[mT.front 0 0]).set h.length (.vec new.length sz new.flatten)=h++[.vec new.length sz new.flatten]:=by simp
   rw [hset] at k2 k3 k4
   exact⟨V,w',G',k1,k2,x1.trans k3,k4⟩
 ·-- a slice that is written into
  rename_i id tot n sz' new hnew
  obtain⟨a,news,src⟩:=Ay i hnew hy
  obtain⟨capY,hYf⟩:=src.form
  split at hb
  ·rename_i x0 hgv
   have hid:=rP hgv
   split at hb
   case isFalse=>cases hb
   rename_i hcond
   obtain⟨rfl,hx1,hbytes,hsmall⟩:=hcond
   obtain⟨b,cap,rfl,hnf,htot,hlc,hv⟩:=hx.qK
   obtain⟨b',cap',C,e0,g1,g2,g3,g4,g5,g6,g7,g8,g9⟩:=i.nY id _ hid
   obtain⟨l0,cap0,k1,k2,k3,k4⟩:=hv (by rw [g1];rfl)
   have hcur:=g1
   rw [g1] at k1
   simp only [Value.slice.injEq,ah5,Addr.mk.injEq] at k1
   obtain⟨⟨rfl,_⟩,_,rfl⟩:=k1
   obtain⟨szb,cs⟩:=x0
   simp only at hx1 hid g5 g6 g7 g9 hb
   subst hx1
   have hl0:l0=0:=by
    rcases Nat.eq_zero_or_pos l0 with h0 | h0
    ·exact h0
    ·have:=Nat.mul_pos h0 g6;omega
   subst hl0
   simp only [Nat.sub_zero] at k4
   subst k4
   rw [hYf]
   split at hb
   ·rename_i hm
    simp only [ah5,as7] at hb
    obtain⟨rfl,rfl⟩:=hb
    refine⟨_,w,G,?_,i,Ext.refl G h w,hx⟩
    rw [hm]
    exact rN ht hti _ a n _ capY hlc
   ·rename_i hm
    have hposn:0<news.length:=by rw [src.len];exact Nat.mul_pos (by omega) (by omega)
    obtain⟨ad,had,_⟩:=src.at_ 0 _ (ag8 hposn)
    subst had
    have hnews:∀j u,news[j]?=some u→w.cell? (ad.add j)=some u:=fun j u hu=>by
     obtain⟨ad',e1,e2⟩:=src.at_ j u hu;cases e1;exact e2
    have hone:=src.one
    have hnl:news.length=new.length*ti.size:=by rw [hts];exact src.len
    obtain⟨f1,f2⟩:=src.flat
    have hnt:n≤tot:=by omega
    have hns:n*szb≤tot*szb:=as0 _ hnt
    have hts2:tot*szb≤C.size:=by rw [g5];exact as0 _ g3
    have room:∀{m:Nat},n+new.length≤cap→m=n+new.length →
      (Builtin.append_ #[t,t] ty #[.slice (some ⟨b',0,none⟩) n cap,.slice (some ad) new.length capY]).run P w =
      .ok (.slice (some ⟨b',0,none⟩) m cap) (w.setRow b' (C.toList.take (n*szb)++news++C.toList.drop (n*szb+news.length)).toArray):=by
     intro m hroom hm'
     subst hm'
     have hfit:n*ti.size+news.length≤C.size:=by rw [hts,src.len,g5,←aB1];exact as0 _ hroom
     have hf:=run_firstCells_some (P:=P) w ti.size new.length ad new.length capY news hnl hnews
     have hst:=run_storeCells_at P b' (n*ti.size) e0 news 0 C w g2 (by simpa using hfit) hone
     simp only [aA4] at hst
     rw [←hts]
     simp [Builtin.append_,run_underlying ht,Go.sizeOf,Go.typeInfo,hti,Builtin.lenOf,hroom,hf,Addr.add_lit,hst]
    split at hb
    ·-- within what is there
     rename_i hin
     simp only [ah5,as7] at hb
     obtain⟨rfl,rfl⟩:=hb
     have hle:n*szb+new.flatten.length≤cs.length:=by
      rw [f1,src.len,g7,←aB1];exact as0 _ hin
     obtain⟨w1,w2⟩:=i.JU (off:=n*szb) (vs:=new.flatten) (U:=news) hid hcur g2 hle f1.symm (fun j u hu=>by
      obtain⟨c1,u',c2,c3⟩:=f2 j u hu
      refine⟨c1,?_⟩
      rw [ah6,c2];exact c3)
     refine⟨_,_,G,room (by omega) rfl,w1,w2,A8 (cs:=putCells cs (n*szb) new.flatten) ?_ hcur hin g3⟩
     simp [(ag0.1 hid).1]
    ·rename_i hin
     simp only [ah5,as7] at hb
     obtain⟨rfl,rfl⟩:=hb
     have htk:(cs.take (n*szb)).length=n*szb:=by rw [ar6];omega
     have hcl:(cs.take (n*szb)++new.flatten).length=(n+new.length)*szb:=by
      rw [au9,htk,f1,src.len,aB1]
     have cells:∀(C':Array Value),(∀k,k<n*szb→C'[k]?=C[k]?)→(∀k u,news[k]?=some u→C'[n*szb+k]?=some u) →
       ∀(j:Nat) (u:lS),(cs.take (n*szb)++new.flatten)[j]?=some u→u.mZ=true∧mJ G h u (C'.getD j undef):=by
      intro C' hC1 hC2 j u hu
      by_cases hj:j<n*szb
      ·rw [aq3 (by omega),ar0,if_pos hj] at hu
       have:=g9 j u hu
       rw [aj5] at this ⊢
       rw [hC1 j hj];exact this
      ·rw [ak0 (by omega),htk] at hu
       obtain⟨c1,u',c2,c3⟩:=f2 _ u hu
       refine⟨c1,?_⟩
       have:=hC2 _ _ c2
       rw [show n*szb+(j-n*szb)=j by omega] at this
       rw [aj5,this];exact c3
     by_cases hroom:n+new.length≤cap
     ·have hfit:n*szb+news.length≤C.size:=by rw [src.len,g5,←aB1];exact as0 _ hroom
      obtain⟨G',k5,k6,k7⟩:=i.Lv (id:=id) (tot':=n+new.length) (sz:=szb) (bb:=b') (cap':=cap) (cs':=cs.take (n*szb)++new.flatten)
       (C':=(C.toList.take (n*szb)++news++C.toList.drop (n*szb+news.length)).toArray) (e':=e0)
       (w':=w.setRow b' (C.toList.take (n*szb)++news++C.toList.drop (n*szb+news.length)).toArray) hid (.inr ⟨tot,szb,cs,rfl,by omega⟩) (by simp) (by simp) (by simp) (by simp)
       (fun k hk hne=>setRow_other w b' k _ (fun e=>hne (by simp [nR,hcur,Value.ownBlock,e]))) (.inr (by simp [nR,hcur,Value.ownBlock])) (setRow_heap w b' C _ e0 _ g2) hroom g4
       (by simp;omega) g6 hcl (cells _ (fun k hk=>by rw [rK C news _ k hfit,if_pos hk]) (fun k u hu=>by
        have:=(ag0.1 hu).1
        rw [rK C news _ _ hfit,if_neg (by omega),if_pos (by omega),show n*szb+k-n*szb=k by omega];exact hu))
      refine⟨_,_,G',room hroom rfl,k5,k6,A8 (cs:=cs.take (n*szb)++new.flatten) ?_ k7 (ak5 _) hroom⟩
      simp [(ag0.1 hid).1]
     ·have hxl:(C.toList.take (n*szb)).length=n*szb:=by
       rw [ar6,av9];omega
      have hxc:∀j u,(C.toList.take (n*szb))[j]?=some u→w.cell? ((⟨b',0,none⟩:Addr).add j)=some u:=by
       intro j u hu
       rw [ar0] at hu
       split at hu
       ·rw [add_plain,cell_of w _ _ g2,Nat.zero_add];rwa [aq2] at hu
       ·cases hu
      have hrun:=run_append_grow (P:=P) w t ty e ti Z ht hti hzz ⟨b',0,none⟩ n cap (C.toList.take (n*szb)) (by rw [hts];exact hxl) hxc ad new.length capY news hnl hnews (by omega) (by omega)
       (growslice_fits (by omega) (by rw [htb];exact hbytes))
      have hcapg:=grownCap_ge w (n+new.length) cap e
      have hcapm:=grownCap_le_maxLen w (n+new.length) cap e (by simp only [maxLen];omega)
      obtain⟨G',k5,k6,k7⟩:=i.Lv (id:=id) (tot':=n+new.length) (sz:=szb) (bb:=w.heap.size) (cap':=grownCap w (n+new.length) cap e) (cs':=cs.take (n*szb)++new.flatten)
       (w':=w.drew.alloc (.cells ((C.toList.take (n*szb)).toArray++news.toArray++Builtin.zeroCells Z.cells (grownCap w (n+new.length) cap e-(n+new.length))) e)) hid
       (.inr ⟨tot,szb,cs,rfl,by omega⟩) rfl rfl rfl (by simp)
       (fun k hk _=>oU w.drew _ k hk) (.inl (ak5 _)) (heap_alloc_new w.drew _) (by omega) hcapm
       (by simp only [Array.size_append,List.size_toArray,size_zeroCells,hZs,src.len,hxl,←aB1];congr 1;omega)
       g6 hcl (cells _ (fun k hk=>by
        rw [Array.getElem?_append_left (by simp [hxl,src.len];omega),List.append_toArray,List.getElem?_toArray,aq3 (by omega),ar0,if_pos hk,aq2]) (fun k u hu=>by
        have hk:=(ag0.1 hu).1
        rw [Array.getElem?_append_left (by simp only [List.append_toArray,List.size_toArray,au9,hxl];omega),List.append_toArray,List.getElem?_toArray,ak0 (by omega),hxl,show n*szb+k-n*szb=k by omega];exact hu))
      refine⟨_,_,G',hrun,k5,k6,A8 (cs:=cs.take (n*szb)++new.flatten) ?_ k7 (ak5 _) hcapg⟩
      simp [(ag0.1 hid).1]
  ·cases hb
 ·cases hb
theorem zE {r:lS}{h':lT}(i:Inv G h w) (hb:sU h x=some (r,h')) (hx:mJ G h x X):∃G',Inv G' h' w∧Ext G h w G' h' w∧mJ G' h' r X:=by
 unfold sU at hb
 split at hb
 ·rename_i id tot off len sz
  split at hb
  ·rename_i x0 hgv
   have hid:=rP hgv
   split at hb
   ·rename_i row hrow
    split at hb
    case isFalse=>cases hb
    rename_i hle
    simp only [ah5,as7] at hb
    obtain⟨rfl,rfl⟩:=hb
    obtain⟨b,cap,rfl,hnf,htot,hlc,hv⟩:=hx.qK
    obtain⟨b',cap',C,e0,g1,g2,g3,g4,g5,g6,g7,g8,g9⟩:=i.nY id _ hid
    obtain⟨l0,cap0,k1,k2,k3,k4⟩:=hv (by rw [g1];rfl)
    have hcur:=g1
    rw [g1] at k1
    simp only [Value.slice.injEq,ah5,Addr.mk.injEq] at k1
    obtain⟨⟨rfl,_⟩,_,rfl⟩:=k1
    let G':Gh:={ G with H:=fun b k=>if b=b' then C[k]? else G.H b k }
    have hH:∀b k,G'.H b k=if b=b' then C[k]? else G.H b k:=fun _ _=>rfl
    have hmono:∀b k v,G.H b k=some v→G'.H b k=some v:=by
     intro b k v hvv
     rw [hH]
     by_cases hbe:b=b'
     ·subst hbe;rw [g8] at hvv;cases hvv
     ·rw [if_neg hbe];exact hvv
    have key:=i.step (G':=G') (w':=w) id (.vec tot x0.1 x0.2) .gone hid rfl rfl rfl (ak5 _) (fun _ _ _=>rfl) (fun _ _=>rfl) (fun _ _=>rfl) hmono
     (fun b k _ hne=>by
      rw [hH,if_neg]
      rintro rfl
      exact hne (by simp [nR,hcur,Value.ownBlock]))
     (fun b k v hbb hvv=>by
      rw [hH] at hvv
      split at hvv
      ·rename_i he;subst he;rw [cell_of w _ _ g2];exact hvv
      ·exact i.ok b k v hvv)
     ⟨rfl,ak5 _,fun _=>rfl⟩ (fun _=>trivial) (fun b hb=>by cases hb)
    refine⟨G',key.1,key.2,.p _ _ ?_⟩
    obtain⟨p1,p2⟩:=qO hrow
    have hdl:((x0.2.drop off).take (len*sz)).length=len*sz:=by rw [ar6,List.length_drop];omega
    rw [hdl] at p1
    refine Aj (F:=fun j=>C.getD (off+j) undef) (by omega) hlc fun j v hvv _=>?_
    have hj:j<len*sz:=by rw [←p1];exact(ag0.1 hvv).1
    obtain⟨c',e1,e2⟩:=p2 j _ (ag8 (by omega))
    rw [hvv] at e1;cases e1
    have hcs:x0.2[off+j]?=some (((x0.2.drop off).take (len*sz))[j]'(by omega)):=by
     have:=ag8 (l:=(x0.2.drop off).take (len*sz)) (i:=j) (by omega)
     rw [ar0,if_pos hj,aq4] at this
     exact this
    obtain⟨_,hrel⟩:=g9 _ _ hcs
    obtain⟨z1,z2⟩:=uQ e2 hrel
    have hlt:off+j<C.size:=by
     have:=(ag0.1 hcs).1
     have h2:x0.2.length≤C.size:=by rw [g7,g5];exact as0 _ g3
     omega
    refine⟨?_,z1.mono hmono,z2⟩
    rw [hH,if_pos rfl,Array.getElem?_eq_getElem hlt]
    simp [aj5,hlt]
   ·cases hb
  ·cases hb
 ·simp only [ah5,as7] at hb
  obtain⟨rfl,rfl⟩:=hb
  exact⟨G,i,Ext.refl G h w,hx⟩
theorem Br:∀{cs r:List lS}{Cs:List Value}{G:Gh}{h h':lT},Inv G h w→Bq h cs=some (r,h')→cs.length=Cs.length→(∀(j:Nat) (v:lS) (V:Value),cs[j]?=some v→Cs[j]?=some V→mJ G h v V) →
  ∃G',Inv G' h' w∧Ext G h w G' h' w∧r.length=cs.length∧∀(j:Nat) (v:lS) (V:Value),r[j]?=some v→Cs[j]?=some V→mJ G' h' v V
 | [],_,_,G,h,_,i,hb,_,_=>by
  simp only [Bq,ah5,as7] at hb
  obtain⟨rfl,rfl⟩:=hb
  exact⟨G,i,Ext.refl G h w,rfl,fun j v V hv=>by simp at hv⟩
 | c::cs,_,[],_,_,_,_,_,hl,_=>by simp at hl
 | c::cs,_,C::Cs,G,h,_,i,hb,hl,hr=>by
  simp only [Bq] at hb
  obtain⟨⟨y,h1⟩,hy,hb⟩:=ac6.1 hb
  obtain⟨⟨z,h2⟩,hz,hb⟩:=ac6.1 hb
  simp only [ah5,as7] at hb
  obtain⟨rfl,rfl⟩:=hb
  obtain⟨G1,i1,x1,r1⟩:=zE i hy (hr 0 c C rfl rfl)
  obtain⟨G2,i2,x2,hl2,r2⟩:=Br (cs:=cs) (Cs:=Cs) i1 hz (by simpa using hl) (fun j v V hv hV=>(hr (j+1) v V hv hV).mono x1.toMono)
  refine⟨G2,i2,x1.trans x2,by simp [hl2],fun j v V hv hV=>?_⟩
  cases j with
  | zero =>
   simp only [List.getElem?_cons_zero,ah5] at hv hV
   subst hv hV
   exact r1.mono x2.toMono
  | succ j=>exact r2 j v V hv hV
theorem HV {r:lS}{h':lT}(i:Inv G h w) (hb:HU h x=some (r,h')) (hx:mJ G h x X):∃G',Inv G' h' w∧Ext G h w G' h' w∧mJ G' h' r X:=by
 unfold HU at hb
 split at hb
 ·rename_i cs
  obtain⟨⟨z,h1⟩,hz,hb⟩:=ac6.1 hb
  simp only [ah5,as7] at hb
  obtain⟨rfl,rfl⟩:=hb
  obtain⟨C,rfl,hl,hr⟩:=hx.tB
  have get:∀(j:Nat) (V:Value),C.toList[j]?=some V→C.getD j undef=V:=by
   intro j V hV
   rw [aq2] at hV
   rw [aj5,hV];rfl
  obtain⟨G',i',x',hl',hr'⟩:=Br (Cs:=C.toList) i hz (by simpa using hl) (fun j v V hv hV=>by
   have:=hr j v hv
   rw [get j V hV] at this
   exact this)
  refine⟨G',i',x',.agg _ _ (by rw [hl',hl]) fun j v hv=>?_⟩
  have hj:j<C.toList.length:=by
   have:=(ag0.1 hv).1
   simp only [av9]
   omega
  have hV:=ag8 hj
  rw [get j _ hV]
  exact hr' j v _ hv hV
 ·simp only [ah5,as7] at hb
  obtain⟨rfl,rfl⟩:=hb
  exact⟨G,i,Ext.refl G h w,hx⟩
theorem C9 {t e:TypeId}{len sz:Nat}{z r:lS}{h':lT}{parts:Array (Nat×Operand)}{f:Operand→lS}{F:Operand→Value}
  (i:Inv G h w) (ht:P.underlying t=some (.slice e)) (hz:qM P e=some z) (hn:oO P e=some sz) (hsz:sz≠0) (hle:len*sz≤16777216) (hf:∀o,mJ G h (f o) (F o)) (hzj:z.o7=false)
  (hb:sD len sz z.cells (parts.toList.map fun p=>(p.1,f p.2)) h=some (r,h')) :
  ∃V w' G',(Instr.buildSlice t len (parts.map fun(i,x)=>(i,F x))).run P w=.ok V w'∧Inv G' h' w'∧Ext G h w G' h' w'∧mJ G' h' r V:=by
 unfold sD at hb
 split at hb
 ·rename_i rows hrows
  simp only [ah5,as7] at hb
  obtain⟨rfl,rfl⟩:=hb
  obtain⟨cs,row,C,h1,rfl,h3,h4,h5,h6⟩:=xV (G:=G) (h:=h) (w:=w) ht hz hn hsz hle hf hzj hrows
  obtain⟨G1,i1,x1,hc1,hH1⟩:=i.Cn
  obtain⟨p1,p2⟩:=qO h1
  have hcl:cs.length=len*sz:=by rw [h3.1,h4]
  obtain⟨q1,q2,q3⟩:=q9 len sz row (by omega)
  obtain⟨f1,f2⟩:=xB _ q2
  obtain⟨G',g1,g2,g3⟩:=i1.Lv (id:=h.length) (tot':=len) (sz:=sz) (bb:=w.heap.size) (cap':=len) (cs':=(rowsOf len sz row).flatten) (C':=C) (e':=e) (w':=w.alloc (.cells C e)) (by simp) (.inl rfl) rfl rfl rfl (by simp)
   (fun k hk _=>oU w _ k hk) (.inl (ak5 _)) (heap_alloc_new w _) (ak5 _) h5 h4 (by omega) (by rw [f1,q1]) (fun k u hu=>by
    obtain⟨i',j,r,a1,a2,rfl⟩:=f2 k u hu
    have hr:=q3 i' j r u a1 a2
    have hlt:i'*sz+j<cs.length:=by rw [←p1];exact(ag0.1 hr).1
    obtain⟨c',e1,e2⟩:=p2 _ _ (ag8 hlt)
    rw [hr] at e1;cases e1
    obtain⟨z1,z2⟩:=uQ e2 (h3.2 _ _ (ag8 hlt))
    refine⟨z2,.p _ _ ?_⟩
    rw [hH1];exact z1)
  have hset:(h++[mT.front 0 0]).set h.length (.vec len sz (rowsOf len sz row).flatten)=h++[.vec len sz (rowsOf len sz row).flatten]:=by simp
  rw [hset] at g1 g2
  exact⟨_,_,G',h6,g1,x1.trans g2,A8 (cs:=(rowsOf len sz row).flatten) (by simp) g3 (ak5 _) (ak5 _)⟩
 ·unfold DJ at hb
  split at hb
  ·rename_i cs hbd
   split at hb
   case isFalse=>cases hb
   rename_i hcond
   obtain⟨hzl,hall⟩:=hcond
   simp only [ah5,as7] at hb
   obtain⟨rfl,rfl⟩:=hb
   obtain⟨C,h3,h4,h5,h6⟩:=zS (G:=G) (h:=h) (w:=w) ht hz hn hsz hle hf hzj hzl hbd
   obtain⟨G1,i1,x1,hc1,hH1⟩:=i.Cn
   have hcl:cs.length=len*sz:=by rw [h3.1,h4]
   obtain⟨G',g1,g2,g3⟩:=i1.Lv (id:=h.length) (tot':=len) (sz:=sz) (bb:=w.heap.size) (cap':=len) (cs':=cs) (C':=C) (e':=e) (w':=w.alloc (.cells C e)) (by simp) (.inl rfl) rfl rfl rfl (by simp)
    (fun k hk _=>oU w _ k hk) (.inl (ak5 _)) (heap_alloc_new w _) (ak5 _) h5 h4 (by omega) hcl (fun k u hu =>
     ⟨aq5.1 hall u (aj8 hu),(h3.2 k u hu).mono x1.toMono⟩)
   have hset:(h++[mT.front 0 0]).set h.length (.vec len sz cs)=h++[.vec len sz cs]:=by simp
   rw [hset] at g1 g2
   exact⟨_,_,G',h6,g1,x1.trans g2,A8 (cs:=cs) (by simp) g3 (ak5 _) (ak5 _)⟩
  ·cases hb
theorem LU {t t2 e ty:TypeId}{r:lS}{h':lT}(i:Inv G h w) (ht:P.underlying t=some (.slice e)) (hn:oO P e=some 1)
  (hb:QA h x y=some (r,h')) (hx:mJ G h x X) (hy:mJ G h y Y) :
  ∃V w' G',(Builtin.copy_ #[t,t2] ty #[X,Y]).run P w=.ok V w'∧Inv G' h' w'∧Ext G h w G' h' w'∧mJ G' h' r V:=by
 obtain⟨ti,hti,hts⟩:∃ti,P.info? e=some ti∧ti.size=1:=by
  unfold oO at hn
  cases hi:P.info? e with
  | none=>simp [hi] at hn
  | some ti=>simp [hi] at hn;exact⟨ti,rfl,hn⟩
 unfold QA at hb
 split at hb
 ·rename_i id tot off len bs
  split at hb
  ·rename_i x0 hgv
   have hid:=rP hgv
   split at hb
   case isFalse=>cases hb
   rename_i hcond
   obtain⟨hle,hx1⟩:=hcond
   simp only [ah5,as7] at hb
   obtain⟨rfl,rfl⟩:=hb
   have hY:=hy.xH
   subst hY
   obtain⟨b,cap,rfl,hnf,htot,hlc,hv⟩:=hx.qK
   obtain⟨b',cap',C,e0,g1,g2,g3,g4,g5,g6,g7,g8,g9⟩:=i.nY id _ hid
   obtain⟨l0,cap0,k1,k2,k3,k4⟩:=hv (by rw [g1];rfl)
   have hcur:=g1
   rw [g1] at k1
   simp only [Value.slice.injEq,ah5,Addr.mk.injEq] at k1
   obtain⟨⟨rfl,_⟩,_,rfl⟩:=k1
   obtain⟨szb,cs⟩:=x0
   simp only at hx1 hid g5 g6 g7 g9 hle
   subst hx1
   have hU:((bs.take len).map fun b=>Value.int .u8 b.toNat).length=((bs.take len).map fun b=>lS.int .u8 b.toNat).length:=by simp
   have hfit:off+((bs.take len).map fun b=>lS.int .u8 b.toNat).length≤cs.length:=by
    rw [au7,ar6];omega
   obtain⟨w1,w2⟩:=i.JU (off:=off) (vs:=(bs.take len).map fun b=>lS.int .u8 b.toNat) (U:=(bs.take len).map fun b=>Value.int .u8 b.toNat) hid hcur g2 hfit hU (fun j u hu=>by
    rw [ak4,ah7] at hu
    obtain⟨c,hc,rfl⟩:=hu
    refine⟨rfl,?_⟩
    rw [ah6,ak4,hc]
    exact .p _ _ (.int _ _))
   have hCl:cs.length≤C.size:=by rw [g7,g5];exact as0 _ g3
   have hone:∀u∈((bs.take len).map fun b=>Value.int .u8 b.toNat),u.oneCell'=true:=by
    intro u hu
    obtain⟨c,_,rfl⟩:=au6.1 hu
    rfl
   have hst:=run_storeCells_at P b' off e0 ((bs.take len).map fun b=>Value.int .u8 b.toNat) 0 C w g2 (by simp only [aA4,au7,ar6] at hfit ⊢;omega) hone
   simp only [aA4] at hst
   refine⟨.int .i64 (min bs.length len:Nat),_,G,?_,w1,w2,.p _ _ (.int _ _)⟩
   have hsz:(⟨bs.toArray⟩:ByteArray).size=bs.length:=by simp [ByteArray.size]
   have e5:List.take (min len bs.length) (List.map (fun b=>Value.int .u8 b.toNat) bs)=List.take len (List.map (fun b=>Value.int .u8 b.toNat) bs):=by
    rw [List.take_eq_take_iff]
    simp only [au7]
    omega
   rw [List.map_take] at hst
   have e6:bs.length.min len=min len bs.length:=Nat.min_comm _ _
   simp [Builtin.copy_,run_underlying ht,Go.sizeOf,Go.typeInfo,hti,hts,Builtin.lenOf,hsz,Builtin.firstCells,Sem.run_pure,e6,e5,hst,goInt,Nat.min_comm bs.length len]
  ·cases hb
 ·cases hb
theorem DO {t e:TypeId}{sz by_:Nat}{z r:lS}{h':lT}(i:Inv G h w) (ht:P.underlying t=some (.slice e)) (hn:oO P e=some sz) (hby:uY P e=some by_) (hz:qM P e=some z)
  (h0:sz≠0) (hj:z.o7=false) (hl:z.cells.length=sz) (hk:z.cells.all lS.mZ=true) (hb:p_ sz by_ z.cells x h=some (r,h')) {k k':IntKind}{n:Int}(hxn:x=.int k n) (hX:X=.int k n) (hY:Y=.int k' n) :
  ∃V w' G',(Instr.makeSlice t X Y).run P w=.ok V w'∧Inv G' h' w'∧Ext G h w G' h' w'∧mJ G' h' r V:=by
 subst hxn;subst hX;subst hY
 simp only [p_] at hb
 split at hb
 case isFalse=>cases hb
 rename_i hcond
 obtain⟨hn0,hbytes,hmax⟩:=hcond
 simp only [ah5,as7] at hb
 obtain⟨rfl,rfl⟩:=hb
 obtain⟨m,rfl⟩:=Int.eq_ofNat_of_zero_le hn0
 simp only [Int.toNat_natCast] at *
 unfold oO at hn;unfold uY at hby;unfold qM at hz
 cases hi:P.info? e with
 | none=>simp [hi] at hn
 | some ti =>
  simp only [hi,Option.map_some,ah5,ak6,ah7] at hn hby hz
  obtain⟨Z,hZ,hz⟩:=hz
  have hrun:=run_make (P:=P) w t e ti Z ht hi hZ k k' m m hn0 (Int.le_refl _) (by
   rw [hby]
   have:((m*by_:Nat):Int)≤140737488355328:=by omega
   rw [Int.natCast_mul] at this
   rw [Int.mul_comm];omega) (by omega)
  obtain⟨G1,i1,x1,hc1,hH1⟩:=i.Cn
  have hrz:mJ G1 (h++[.front 0 0]) z Z:=by rw [←hz];exact tI G1 _ Z
  have hcz:=tF hj hrz
  have hrc:=u_ (G:=G1) (h:=h++[mT.front 0 0]) hcz m
  have hmade:madeCells Z.cells ((m:Int).toNat*ti.size)=(Array.range (m*Z.cells.size)).map fun j=>Z.cells[j%Z.cells.size]! := by
   rw [hn,←hl,hcz.1];simp [madeCells]
  rw [hmade] at hrun
  have hfl:(ak7 m z.cells).flatten.length=m*sz:=by simp [hl]
  obtain⟨G',g1,g2,g3⟩:=i1.Lv (id:=h.length) (tot':=m) (sz:=sz) (bb:=w.heap.size) (cap':=m) (cs':=(ak7 m z.cells).flatten) (C':=(Array.range (m*Z.cells.size)).map fun j=>Z.cells[j%Z.cells.size]!) (e':=e)
   (w':=w.alloc (.cells ((Array.range (m*Z.cells.size)).map fun j=>Z.cells[j%Z.cells.size]!) e)) (by simp) (.inl rfl) rfl rfl rfl (by simp)
   (fun k hk _=>oU w _ k hk) (.inl (ak5 _)) (heap_alloc_new w _) (ak5 _) (by simp only [maxLen];omega) (by simp [←hcz.1,hl]) (by omega) hfl (fun k u hu=>by
    refine⟨?_,hrc.2 k u hu⟩
    obtain⟨l,hl1,hl2⟩:=List.mem_flatten.1 (aj8 hu)
    rw [(List.mem_replicate.1 hl1).2] at hl2
    exact aq5.1 hk u hl2)
  have hset:(h++[mT.front 0 0]).set h.length (.vec m sz (ak7 m z.cells).flatten)=h++[.vec m sz (ak7 m z.cells).flatten]:=by simp
  rw [hset] at g1 g2
  exact⟨_,_,G',by simpa using hrun,g1,x1.trans g2,A8 (cs:=(ak7 m z.cells).flatten) (by simp) g3 (ak5 _) (ak5 _)⟩
theorem LR {t e ty:TypeId}{sz:Nat}{z:lS}{h':lT}{ts:Array TypeId}(i:Inv G h w) (ht:P.underlying t=some (.slice e)) (hz:qM P e=some z) (hzj:z.o7=false)
  (hb:C_ sz z.cells h x=some h') (hx:mJ G h x X) (hts:ts[0]?=some t):∃w',(Builtin.clear_ ts ty #[X]).run P w=.ok (.tuple #[]) w'∧Inv G h' w'∧Ext G h w G h' w':=by
 unfold C_ at hb
 split at hb
 ·rename_i tok
  cases hb
  obtain⟨a,cap,hX⟩:∃a cap,X=.slice a 0 cap:=by
   have:=hx.sA
   cases this with
   | slice0 a cap=>exact⟨a,cap,rfl⟩
   | slice rows b off cap sz V _ _ _ _ _=>exact⟨_,cap,rfl⟩
  subst hX
  refine⟨w,?_,i,Ext.refl G _ w⟩
  cases a <;> simp [Builtin.clear_,hts,run_underlying ht,Sem.run_pure]
 ·rename_i id tot off len sz'
  split at hb
  ·rename_i h0
   cases hb
   subst h0
   obtain⟨b,cap,rfl,_⟩:=hx.qK
   refine⟨w,?_,i,Ext.refl G _ w⟩
   simp [Builtin.clear_,hts,run_underlying ht,Sem.run_pure]
  rename_i h0
  split at hb
  ·rename_i x0 hgv
   have hid:=rP hgv
   split at hb
   case isFalse=>cases hb
   rename_i hcond
   obtain⟨rfl,hzl,hzk,hle⟩:=hcond
   cases hb
   obtain⟨b,cap,rfl,hnf,htot,hlc,hv⟩:=hx.qK
   obtain⟨b',cap',C,e0,g1,g2,g3,g4,g5,g6,g7,g8,g9⟩:=i.nY id _ hid
   obtain⟨l0,cap0,k1,k2,k3,k4⟩:=hv (by rw [g1];rfl)
   have hcur:=g1
   rw [g1] at k1
   simp only [Value.slice.injEq,ah5,Addr.mk.injEq] at k1
   obtain⟨⟨rfl,_⟩,_,rfl⟩:=k1
   obtain⟨Z,hz1,hz2⟩:=rD (P:=P) (G:=G) (h:=h) (w:=w) hz
   have hcz:=tF hzj hz2
   have hrc:=u_ (G:=G) (h:=h) hcz len
   have hcl:x0.2.length≤C.size:=by rw [g7,g5];exact as0 _ g3
   have hfl:(ak7 len z.cells).flatten.length=len*sz':=by simp [hzl]
   have hall:∀u∈(ak7 len z.cells).flatten,u.mZ=true:=fun u hu=>by
    obtain⟨l,hl1,hl2⟩:=List.mem_flatten.1 hu
    rw [(List.mem_replicate.1 hl1).2] at hl2
    exact aq5.1 hzk u hl2
   have hrel:∀(j:Nat) (u:lS),(ak7 len z.cells).flatten[j]?=some u→u.mZ=true∧mJ G h u ((Builtin.zeroCells Z.cells len).toList.getD j undef):=fun j u hu=>by
    refine⟨hall u (aj8 hu),?_⟩
    have:=hrc.2 j u hu
    rw [ah6,aq2]
    rw [aj5] at this
    exact this
   have hzs:(Builtin.zeroCells Z.cells len).toList.length=(ak7 len z.cells).flatten.length:=by
    rw [av9];exact hrc.1.symm
   have h1c:∀u∈(Builtin.zeroCells Z.cells len).toList,u.oneCell'=true:=by
    intro u hu
    obtain⟨j,hj⟩:=List.getElem?_of_mem hu
    have hjl:j<(ak7 len z.cells).flatten.length:=by rw [←hzs];exact(ag0.1 hj).1
    obtain⟨a1,a2⟩:=hrel j _ (ag8 hjl)
    rw [ah6,hj] at a2
    exact(a2.AI a1).1
   have hst:=run_storeCells_at P b' off e0 (Builtin.zeroCells Z.cells len).toList 0 C w g2 (by rw [hzs,hfl];omega) h1c
   simp only [aA4] at hst
   have hw:=i.JU (off:=off) (vs:=(ak7 len z.cells).flatten) (U:=(Builtin.zeroCells Z.cells len).toList) hid hcur g2 (by rw [hfl];omega) hzs hrel
   refine⟨_,?_,hw⟩
   cases len with
   | zero=>exact absurd rfl h0
   | succ n=>simp [Builtin.clear_,hts,run_underlying ht,hz1,hst,Sem.run_pure]
  ·cases hb
 ·cases hb
theorem GF {t kt e ty:TypeId}{h':lT}{ts:Array TypeId}(i:Inv G h w) (ht:P.underlying t=some (.map kt e))
  (hb:E5 h x=some h') (hx:mJ G h x X) (hts:ts[0]?=some t):∃w',(Builtin.clear_ ts ty #[X]).run P w=.ok (.tuple #[]) w'∧Inv G h' w'∧Ext G h w G h' w':=by
 unfold E5 at hb;cases hb
end
end
section
open Go Go.RowKit
section
variable {P:Program}{G:Gh}{h:lT}{w:World}{x y v:lS}{X Y V:Value}
theorem L_ {t:TypeId}{g:Bool}{n:Nat}(hg:qW P t=some g) (hn:oO P t=some n) (i:Inv G h w) (hb:L9 g n h x=some v) (hx:mJ G h x X) :
  ∃V,(Instr.loadAt t X).run P w=.ok V w∧mJ G h v V:=by
 unfold L9 at hb;cases hb
theorem Kb {t:TypeId}{n:Nat}{h':lT}(hn:oO P t=some n) (i:Inv G h w) (hb:Md n h x y=some h') (hx:mJ G h x X) (hy:mJ G h y Y) :
  ∃w',(Instr.storeAt t X Y).run P w=.ok () w'∧Inv G h' w'∧Ext G h w G h' w':=by
 unfold Md at hb;cases hb
theorem L8 {tb:Bool}{t:TypeId}{g:Bool}{n:Nat}(hg:qW P t=some g) (hn:oO P t=some n) (i:Inv G h w) (hb:E7 tb g n h x=some v) (hx:mJ G h x X) :
  ∃V,(Instr.loadAt t X).run P w=.ok V w∧mJ G h v V:=by
 cases tb with
 | true=>exact L_ hg hn i hb hx
 | false=>exact F4 hg hn i hb hx
theorem Ka {tb:Bool}{t:TypeId}{n:Nat}{h':lT}(hn:oO P t=some n) (i:Inv G h w) (hb:TG tb n h x y=some h') (hx:mJ G h x X) (hy:mJ G h y Y) :
  ∃w',(Instr.storeAt t X Y).run P w=.ok () w'∧Inv G h' w'∧Ext G h w G h' w':=by
 cases tb with
 | true=>exact Kb hn i hb hx hy
 | false=>exact DU hn i hb hx hy
theorem Oy {tb:Bool}{t:TypeId}{n:Nat}{p:lS}{h':lT}(i:Inv G h w) (hb:KE tb t n h x=some (p,h')) (hx:mJ G h x X) :
  ∃V w' G',(Instr.box t X).run P w=.ok V w'∧Inv G' h' w'∧Ext G h w G' h' w'∧mJ G' h' p V:=by
 cases tb with
 | true=>simp [KE,DS] at hb
 | false=>exact Qy i hb hx
theorem JX {tb:Bool}{t:TypeId}{n:Nat}{z p:lS}{h':lT}(i:Inv G h w) (hz:qM P t=some z) (hb:KE tb t n h z=some (p,h')) :
  ∃V w' G',(Instr.alloc t true (.tuple #[])).run P w=.ok V w'∧Inv G' h' w'∧Ext G h w G' h' w'∧mJ G' h' p V:=by
 cases tb with
 | true=>simp [KE,DS] at hb
 | false=>exact LN i hz hb
end
end
section
open Go Go.RowKit
section
variable {P:Program}{G:Gh}{h:lT}{w:World}{x y v:lS}{X Y V:Value}
theorem HA {t ty e:TypeId}{sz bytes:Nat}{z r:lS}{h':lT}(i:Inv G h w) (ht:P.underlying t=some (.slice e)) (hn:oO P e=some sz) (hby:uY P e=some bytes)
  (hz:qM P e=some z) (hzj:z.o7=false) (hzl:z.cells.length=sz) (hsz:sz≠0) {t1:Nat}(ht1:t1=e+1) (hb:Bn t1 sz bytes h x y=some (r,h')) (hx:mJ G h x X) (hy:mJ G h y Y) :
  ∃V w' G',(Builtin.append_ #[t,t] ty #[X,Y]).run P w=.ok V w'∧Inv G' h' w'∧Ext G h w G' h' w'∧mJ G' h' r V:=by
 unfold Bn at hb;cases hb
theorem E3 {t tx ty e:TypeId}{sz bytes:Nat}{z r:lS}{h':lT}(i:Inv G h w) (ht:P.underlying t=some (.slice e)) (hu:P.underlying tx=some .string) (hn:oO P e=some sz) (hby:uY P e=some bytes)
  (hz:qM P e=some z) (hzj:z.o7=false) {t1:Nat}(ht1:t1=e+1) (hb:C8 t1 sz bytes z.cells.length h x y=some (r,h')) (hx:mJ G h x X) (hy:mJ G h y Y) :
  ∃V w' G',(Builtin.append_ #[t,tx] ty #[X,Y]).run P w=.ok V w'∧Inv G' h' w'∧Ext G h w G' h' w'∧mJ G' h' r V:=by
 unfold C8 at hb;cases hb
end
end
section
open Go Go.RowKit
def xP (G:Gh) (h:lT) (vs:List lS) (A:Array Value):Prop:=vs.length=A.size∧∀(i:Nat) (v:lS),vs[i]?=some v→mJ G h v (A.getD i undef)
def sH (G:Gh) (h:lT) (w:World) (r:nT) (h':lT) (e:Ending) (w':World):Prop :=
 ∃G',Ext G h w G' h' w'∧Inv G' h' w'∧match r with
  | .ret v=>∃V,e=.returned V∧mJ G' h' v V
  | .pan v=>∃V,e=.panicked [{ v:=V,recovered:=false }]∧mJ G' h' v V
def rA (P:Program) (A:xO) (K:mA):Prop :=
 ∀(f:Nat) (args:List lS) (h:lT) (r:nT) (h':lT),K f args h=some (r,h') →
  ∀(G:Gh) (w:World) (X:Array Value),Inv G h w→qC A G h w→xP G h args X →
   (∀w,(callFunc f X).run P w=.ok (.enter f X) w)∧Calls P f X w (sH G h w r h')
theorem DB {G:Gh}{h:lT}{x:lS}{X:Value}(hx:mJ G h x X):mJ G h x.pQ X:=by
 cases x <;> simp only [lS.pQ] <;> first | exact hx | exact .p _ _ hx.sA
theorem Au {G:Gh}{h:lT}{x:lS}{X:Value}(hx:mJ G h x X):mJ G h x.l_ X:=by
 have agg:∀(cs:List lS) (X:Value),mJ G h (.agg cs) X→mJ G h (.agg (cs.map lS.pQ)) X:=by
  intro cs X hx
  obtain⟨C,rfl,hl,hr⟩:=hx.tB
  refine .agg _ _ (by simpa using hl) fun i u hu=>?_
  simp only [ak4,ah7] at hu
  obtain⟨a,ha,rfl⟩:=hu
  exact DB (hr i a ha)
 cases x with
 | agg cs=>exact agg cs X hx
 | tuple vs =>
  obtain⟨C,rfl,hl,hr⟩:=hx.Aq
  refine .tuple _ _ (by simpa using hl) fun i u hu=>?_
  simp only [ak4,ah7] at hu
  obtain⟨a,ha,rfl⟩:=hu
  have:=hr i a ha
  cases a <;> first | exact agg _ _ this | exact DB this
 | _=>exact DB hx
section
variable {J:Act→Prop}{cx:Cx}{o:Oper}{ρ:List lS}{h:lT}{kv kp:lS→lT→Option R}{r:R}{G:Gh}{w:World}{a:Act}{N:Act→World→Prop}{Q:Exit→Act→World→Prop}
def aaK (o:Oper) (kv:lS→lT→Option R) (r:R) (G:Gh) (h:lT) (w:World) (a:Act) (N:Act→World→Prop):Prop :=
 ∀v h' G' w' V,kv v h'=some r→Ext G h w G' h' w'→Inv G' h' w'→mJ G' h' v V→N (a.put o.dst V) w'
def Wq (kp:lS→lT→Option R) (r:R) (G:Gh) (h:lT) (w:World) (a:Act) (Q:Exit→Act→World→Prop):Prop :=
 ∀v h' G' w' V,kp v h'=some r→Ext G h w G' h' w'→Inv G' h' w'→mJ G' h' v V→Q (.panic [{ v:=V,recovered:=false }]) a w'
theorem JT {V:Value}{w':World}(hr:(execOp a.eval o).run cx.P w=.ok (.value V) w') (hN:N (a.put o.dst V) w'):o.wp cx.P a w N Q:=by
 unfold Oper.wp;rw [hr];exact hN
theorem JS {w':World}(hr:(execOp a.eval o).run cx.P w=.ok .skip w') (hN:N (a.put o.dst undef) w'):o.wp cx.P a w N Q:=by
 unfold Oper.wp;rw [hr];exact hN
theorem nI {s:Sem Value}{V:Value}{w':World}(h:s.run cx.P w=.ok V w'):(do pure (Next.value (←s)):Sem Next).run cx.P w=.ok (.value V) w':=by
 simp [h,Sem.run_pure]
theorem Jc {s:Sem Unit}{w':World}(h:s.run cx.P w=.ok () w'):(do s;pure Next.skip:Sem Next).run cx.P w=.ok .skip w':=by
 simp [h,Sem.run_pure]
theorem nG {v:lS}(i:Inv G h w) (hk:kv v h=some r) (hkv:aaK o kv r G h w a N) (hr:∃V,(execOp a.eval o).run cx.P w=.ok (.value V) w∧mJ G h v V):o.wp cx.P a w N Q:=by
 obtain⟨V,h1,h2⟩:=hr
 exact JT h1 (hkv v h G w V hk (Ext.refl G h w) i h2)
theorem qF {v:lS}{h':lT}(hk:kv v h'=some r) (hkv:aaK o kv r G h w a N)
  (hr:∃V w' G',(execOp a.eval o).run cx.P w=.ok (.value V) w'∧Inv G' h' w'∧Ext G h w G' h' w'∧mJ G' h' v V):o.wp cx.P a w N Q:=by
 obtain⟨V,w',G',h1,h2,h3,h4⟩:=hr
 exact JT h1 (hkv v h' G' w' V hk h3 h2 h4)
theorem Kc {c:Call}{b:Builtin}(ho:o.op=.call c) (hcal:c.callee=.builtin b) (hb:qR cx b c.argTypes.toList (c.args.toList.map (qV cx.A ρ)) h kv=some r) (i:Inv G h w)
  (ev:∀x,mJ G h (qV cx.A ρ x) (a.eval x)) (hkv:aaK o kv r G h w a N):o.wp cx.P a w N Q:=by
 have run:∀(s:Sem Value) (V:Value) (w':World),s.run cx.P w=.ok V w'→(∀consts,(builtin b c.argTypes o.type consts (c.args.map a.eval)).run cx.P w=(do pure (Next.value (←s)):Sem Next).run cx.P w) →
   (execOp a.eval o).run cx.P w=.ok (.value V) w':=by
  intro s V w' h1 h2
  simp only [execOp,ho,resolve,hcal,Sem.run_bind,Sem.run_pure,Result.andThen_ok,invoke]
  exact(h2 _).trans (nI h1)
 unfold qR at hb
 split at hb
 ·rename_i t x hT hA
  obtain⟨x0,hx0,rfl⟩:∃x0,c.args=#[x0]∧x=qV cx.A ρ x0:=by
   cases hc:c.args with
   | mk l=>rw [hc] at hA;cases l with
    | nil=>simp at hA
    | cons y r=>simp at hA;exact⟨y,by simp [hA.2],hA.1.symm⟩
  have hT':c.argTypes=#[t]:=by cases hc:c.argTypes with | mk l=>rw [hc] at hT;simp at hT;rw [hT]
  split at hb
  ·rename_i n e ht
   refine nG i hb hkv ⟨.int .i64 n,run (Builtin.len_ #[t] o.type #[a.eval x0]) _ _ ?_ (fun _=>by simp [builtin,hx0,hT']),.p _ _ (.int _ _)⟩
   simp [Builtin.len_,run_underlying ht,goInt,Sem.run_pure]
  ·rename_i ht
   obtain⟨v,hv,hk⟩:=ac6.1 hb
   obtain⟨V,e1,e2⟩:=J6 (P:=cx.P) (w:=w) (ty:=o.type) ht hv (ev x0)
   exact nG i hk hkv ⟨V,run _ _ _ e1 (fun _=>by simp [builtin,hx0,hT']),e2⟩
  ·rename_i e ht
   obtain⟨v,hv,hk⟩:=ac6.1 hb
   obtain⟨V,e1,e2⟩:=L7 (P:=cx.P) (w:=w) (ty:=o.type) ht hv (ev x0)
   exact nG i hk hkv ⟨V,run _ _ _ e1 (fun _=>by simp [builtin,hx0,hT']),e2⟩
  ·cases hb
 ·rename_i x y hA
  obtain⟨x0,y0,hx0,rfl,rfl⟩:∃x0 y0,c.args=#[x0,y0]∧x=qV cx.A ρ x0∧y=qV cx.A ρ y0:=by
   cases hc:c.args with
   | mk l=>rw [hc] at hA;match l,hA with
    | [p,q],hA=>simp at hA;exact⟨p,q,rfl,hA.1.symm,hA.2.symm⟩
  obtain⟨v,hv,hk⟩:=ac6.1 hb
  obtain⟨V,e1,e2⟩:=F7 (P:=cx.P) (w:=w) hv (ev x0) (ev y0)
  exact nG i hk hkv ⟨V,run (Builtin.min2 (a.eval x0) (a.eval y0)) _ _ e1 (fun _=>by simp [builtin,hx0,Builtin.min_]),e2⟩
 ·rename_i x y hA
  obtain⟨x0,y0,hx0,rfl,rfl⟩:∃x0 y0,c.args=#[x0,y0]∧x=qV cx.A ρ x0∧y=qV cx.A ρ y0:=by
   cases hc:c.args with
   | mk l=>rw [hc] at hA;match l,hA with
    | [p,q],hA=>simp at hA;exact⟨p,q,rfl,hA.1.symm,hA.2.symm⟩
  obtain⟨v,hv,hk⟩:=ac6.1 hb
  obtain⟨V,e1,e2⟩:=F5 (P:=cx.P) (w:=w) hv (ev x0) (ev y0)
  exact nG i hk hkv ⟨V,run (Builtin.max2 (a.eval x0) (a.eval y0)) _ _ e1 (fun _=>by simp [builtin,hx0,Builtin.max_]),e2⟩
 ·rename_i x y z r' hA
  obtain⟨x0,l0,hx0,rfl,hl0⟩:∃x0 l0,c.args.toList=x0::l0∧x=qV cx.A ρ x0∧y::z::r'=l0.map (qV cx.A ρ):=by
   cases hc:c.args.toList with
   | nil=>rw [hc] at hA;simp at hA
   | cons p q=>rw [hc] at hA;simp only [as6,List.cons.injEq] at hA;exact⟨p,q,rfl,hA.1.symm,hA.2.symm⟩
  obtain⟨v,hv,hk⟩:=ac6.1 hb
  rw [hl0] at hv
  obtain⟨V,e1,e2⟩:=F8 (P:=cx.P) (w:=w) (L:=l0.map a.eval) hv (ev x0) (by simp) fun j u U hu hU=>by
   simp only [ak4,ah7] at hu hU
   obtain⟨q,hq,rfl⟩:=hu
   obtain⟨q',hq',rfl⟩:=hU
   rw [hq] at hq';cases hq'
   exact ev q
  exact nG i hk hkv ⟨V,run _ _ _ e1 (fun _=>by simp [builtin,Builtin.min_,hx0]),e2⟩
 ·rename_i x y z r' hA
  obtain⟨x0,l0,hx0,rfl,hl0⟩:∃x0 l0,c.args.toList=x0::l0∧x=qV cx.A ρ x0∧y::z::r'=l0.map (qV cx.A ρ):=by
   cases hc:c.args.toList with
   | nil=>rw [hc] at hA;simp at hA
   | cons p q=>rw [hc] at hA;simp only [as6,List.cons.injEq] at hA;exact⟨p,q,rfl,hA.1.symm,hA.2.symm⟩
  obtain⟨v,hv,hk⟩:=ac6.1 hb
  rw [hl0] at hv
  obtain⟨V,e1,e2⟩:=F6 (P:=cx.P) (w:=w) (L:=l0.map a.eval) hv (ev x0) (by simp) fun j u U hu hU=>by
   simp only [ak4,ah7] at hu hU
   obtain⟨q,hq,rfl⟩:=hu
   obtain⟨q',hq',rfl⟩:=hU
   rw [hq] at hq';cases hq'
   exact ev q
  exact nG i hk hkv ⟨V,run _ _ _ e1 (fun _=>by simp [builtin,Builtin.max_,hx0]),e2⟩
 ·rename_i t t' x y hT hA
  obtain⟨x0,y0,hx0,rfl,rfl⟩:∃x0 y0,c.args=#[x0,y0]∧x=qV cx.A ρ x0∧y=qV cx.A ρ y0:=by
   cases hc:c.args with
   | mk l=>rw [hc] at hA;match l,hA with
    | [p,q],hA=>simp at hA;exact⟨p,q,rfl,hA.1.symm,hA.2.symm⟩
  have hT':c.argTypes=#[t,t']:=by cases hc:c.argTypes with | mk l=>rw [hc] at hT;simp at hT;rw [hT]
  split at hb
  ·rename_i e he
   have ht:cx.P.underlying t=some (.slice e):=by unfold Gb at he;split at he <;> simp_all
   cases htt:(t != t') with
   | true =>
    simp only [htt,cond_true] at hb
    split at hb
    ·rename_i sz by_ z hu hn hby hz
     cases hj:z.o7 with
     | true=>rw [hj] at hb;cases hb
     | false =>
      rw [hj,cond_false] at hb
      unfold mC at hb
      obtain⟨⟨p,h'⟩,hv,hk⟩:=ac6.1 hb
      obtain⟨V,w',G',e1,e2,e3,e4⟩:=E3 (P:=cx.P) (ty:=o.type) i ht hu hn hby hz hj rfl hv (ev x0) (ev y0)
      exact qF hk hkv ⟨V,w',G',run _ _ _ e1 (fun _=>by simp [builtin,hx0,hT']),e2,e3,e4⟩
    ·cases hb
   | false =>
    simp only [htt,cond_false] at hb
    have:t=t':=by simpa using htt
    subst this
    split at hb
    ·rename_i sz by_ z hn hby hz
     cases hg:(sz == 0 || z.o7 || z.cells.length != sz) with
     | true=>simp only [hg,cond_true] at hb;cases hb
     | false =>
      simp only [hg,cond_false] at hb
      simp only [Bool.or_eq_false_iff,beq_eq_false_iff_ne,bne_eq_false_iff_eq] at hg
      obtain⟨⟨h0,hj⟩,hl⟩:=hg
      unfold mC at hb
      obtain⟨⟨p,h'⟩,hv,hk⟩:=ac6.1 hb
      cases hvec:cx.vec t with
      | false =>
       rw [hvec,cond_false] at hv
       cases htb:cx.tb with
       | true =>
        rw [htb,cond_true] at hv
        obtain⟨V,w',G',e1,e2,e3,e4⟩:=HA (P:=cx.P) (ty:=o.type) i ht hn hby hz hj hl h0 rfl hv (ev x0) (ev y0)
        exact qF hk hkv ⟨V,w',G',run _ _ _ e1 (fun _=>by simp [builtin,hx0,hT']),e2,e3,e4⟩
       | false =>
       rw [htb,cond_false] at hv
       obtain⟨V,w',G',e1,e2,e3,e4⟩:=JY (P:=cx.P) (ty:=o.type) i ht hn hby hz hj hl h0 hv (ev x0) (ev y0)
       exact qF hk hkv ⟨V,w',G',run _ _ _ e1 (fun _=>by simp [builtin,hx0,hT']),e2,e3,e4⟩
      | true =>
       rw [hvec,cond_true] at hv
       obtain⟨V,w',G',e1,e2,e3,e4⟩:=HC (P:=cx.P) (ty:=o.type) i ht hn hby hz hj hl h0 hv (ev x0) (ev y0)
       exact qF hk hkv ⟨V,w',G',run _ _ _ e1 (fun _=>by simp [builtin,hx0,hT']),e2,e3,e4⟩
    ·cases hb
  ·cases hb
 ·rename_i t t' x y hT hA
  obtain⟨x0,y0,hx0,rfl,rfl⟩:∃x0 y0,c.args=#[x0,y0]∧x=qV cx.A ρ x0∧y=qV cx.A ρ y0:=by
   cases hc:c.args with
   | mk l=>rw [hc] at hA;match l,hA with
    | [p,q],hA=>simp at hA;exact⟨p,q,rfl,hA.1.symm,hA.2.symm⟩
  have hT':c.argTypes=#[t,t']:=by cases hc:c.argTypes with | mk l=>rw [hc] at hT;simp at hT;rw [hT]
  split at hb
  ·rename_i e he _
   have ht:cx.P.underlying t=some (.slice e):=by unfold Gb at he;split at he <;> simp_all
   split at hb
   ·rename_i hn _
    unfold mC at hb
    obtain⟨⟨p,h'⟩,hv,hk⟩:=ac6.1 hb
    obtain⟨V,w',G',e1,e2,e3,e4⟩:=LU (P:=cx.P) (ty:=o.type) (t2:=t') i ht hn hv (ev x0) (ev y0)
    exact qF hk hkv ⟨V,w',G',run _ _ _ e1 (fun _=>by simp [builtin,hx0,hT']),e2,e3,e4⟩
   ·cases hb
  ·cases hb
 ·rename_i t t' x y hT hA
  obtain⟨x0,y0,hx0,rfl,rfl⟩:∃x0 y0,c.args=#[x0,y0]∧x=qV cx.A ρ x0∧y=qV cx.A ρ y0:=by
   cases hc:c.args with
   | mk l=>rw [hc] at hA;match l,hA with
    | [p,q],hA=>simp at hA;exact⟨p,q,rfl,hA.1.symm,hA.2.symm⟩
  have hT':c.argTypes[0]?=some t:=by cases hc:c.argTypes with | mk l=>rw [hc] at hT;simp at hT;rw [hT];rfl
  split at hb
  ·rename_i kt et ht
   split at hb
   ·rename_i d hd
    cases hf:rO d (qV cx.A ρ y0) with
    | false=>rw [hf] at hb;cases hb
    | true =>
     rw [hf] at hb
     simp only [cond_true] at hb
     obtain⟨h1,hv,hk⟩:=ac6.1 hb
     obtain⟨w',e1,e2,e3⟩:=J8 (P:=cx.P) (ty:=o.type) i ht hd hf hv (ev x0) (ev y0) hT'
     exact qF hk hkv ⟨_,w',G,run _ _ _ e1 (fun _=>by simp [builtin,hx0]),e2,e3,.tuple _ _ rfl (by simp)⟩
   ·cases hb
  ·cases hb
 ·rename_i t x hT hA
  obtain⟨x0,hx0,rfl⟩:∃x0,c.args=#[x0]∧x=qV cx.A ρ x0:=by
   cases hc:c.args with
   | mk l=>rw [hc] at hA;cases l with
    | nil=>simp at hA
    | cons y r=>simp at hA;exact⟨y,by simp [hA.2],hA.1.symm⟩
  have hT':c.argTypes[0]?=some t:=by cases hc:c.argTypes with | mk l=>rw [hc] at hT;simp at hT;rw [hT];rfl
  split at hb
  ·rename_i e ht
   split at hb
   ·rename_i sz z hn hz
    cases hj:z.o7 with
    | true=>rw [hj] at hb;cases hb
    | false =>
     rw [hj] at hb
     simp only [cond_false] at hb
     obtain⟨h1,hv,hk⟩:=ac6.1 hb
     obtain⟨w',e1,e2,e3⟩:=LR (P:=cx.P) (ty:=o.type) i ht hz hj hv (ev x0) hT'
     exact qF hk hkv ⟨_,w',G,run _ _ _ e1 (fun _=>by simp [builtin,hx0]),e2,e3,.tuple _ _ rfl (by simp)⟩
   ·cases hb
  ·rename_i kt et ht
   obtain⟨h1,hv,hk⟩:=ac6.1 hb
   obtain⟨w',e1,e2,e3⟩:=GF (P:=cx.P) (ty:=o.type) i ht hv (ev x0) hT'
   exact qF hk hkv ⟨_,w',G,run _ _ _ e1 (fun _=>by simp [builtin,hx0]),e2,e3,.tuple _ _ rfl (by simp)⟩
  ·cases hb
 ·cases hb
theorem UJ {P:Program}{t f:Nat}{name:String}(hm:zQ P t name=some f) (v:Value) (w:World):(method (P.types.size+Made.depth) t v name).run P w=.ok (f,v) w:=by
 unfold zQ at hm
 split at hm
 ·rename_i i hi
  split at hm
  ·rename_i m hf
   cases hp:m.path.toList with
   | cons _ _=>rw [hp] at hm;simp at hm
   | nil =>
    rw [hp] at hm
    simp only [List.isEmpty_nil,cond_true] at hm
    split at hm
    ·rename_i f' hfn
     split at hm
     ·rename_i fs hu
      cases hm
      have hd:P.types.size+Made.depth=(P.types.size+99)+1:=rfl
      rw [hd]
      have hti:(typeInfo t).run P w=.ok i w:=by simp [typeInfo,Sem.run_bind,Sem.run_pure,hi]
      unfold method
      simp only [Sem.run_bind,hti,Result.andThen_ok,hf]
      simp only [hp,follow,Sem.run_bind,Sem.run_pure,Result.andThen_ok,hfn,receiverAt,run_underlying hu,Place.get]
     ·cases hm
    ·cases hm
  ·cases hm
 ·cases hm
theorem Nl {P:Program}{t f:Nat}{name:String}(hm:zQ P t name=some f) (v:Value) (w:World):(nilAhead (P.types.size+Made.depth) t v name).run P w=.ok (some false) w:=by
 unfold zQ at hm
 split at hm
 ·rename_i i hi
  split at hm
  ·rename_i m hf
   cases hp:m.path.toList with
   | cons _ _=>rw [hp] at hm;simp at hm
   | nil =>
    rw [hp] at hm
    simp only [List.isEmpty_nil,cond_true] at hm
    split at hm
    ·rename_i f' hfn
     split at hm
     ·rename_i fs hu
      cases hm
      have hd:P.types.size+Made.depth=(P.types.size+99)+1:=rfl
      rw [hd]
      have hti:(typeInfo t).run P w=.ok i w:=by simp [typeInfo,Sem.run_bind,Sem.run_pure,hi]
      unfold nilAhead
      simp only [Sem.run_bind,hti,Result.andThen_ok,hf]
      simp only [hp,followBlind,Sem.run_bind,Sem.run_pure,Result.andThen_ok,hfn,run_underlying hu]
     ·cases hm
    ·cases hm
  ·cases hm
 ·cases hm
theorem Ko {n:String}{t g:Nat}{x:Operand}{W:Value}{C:Array Value}(ho:o.op=.nilCheck x) (hX:a.eval x=.func (.method n) #[.iface t W] C) (hm:zQ cx.P t n=some g) :
  (execOp a.eval o).run cx.P w=.ok (.value (a.eval x)) w:=by
 simp only [execOp,ho,hX]
 have e:(#[Value.iface t W]:Array Value)[0]?=some (.iface t W):=rfl
 simp only [e,Sem.run_bind,run_program,Result.andThen_ok,Nl hm]
 simp [Sem.run_pure]
theorem AB (hX:tK cx.P cx.A) (hK:rA cx.P cx.A cx.K) (rsv:Option Nat) (hb:evalOp cx o rsv ρ h kv kp=some r) (i:Inv G h w) (gl:qC cx.A G h w) (s:o9 J G h ρ a)
  (hkv:aaK o kv r G h w a N) (hkp:Wq kp r G h w a Q):o.wp cx.P a w N Q:=by
 have ev:∀x,mJ G h (qV cx.A ρ x) (a.eval x):=fun x=>s.eval gl.cells x
 unfold evalOp oG at hb
 simp only [] at hb
 split at hb
 ·rename_i x ho
  exact nG i hb hkv ⟨_,by simp [execOp,ho,Sem.run_pure],ev x⟩
 ·rename_i x ho
  cases hn:Ac x with
  | true =>
   simp only [hn,cond_true] at hb
   obtain⟨G',i',x',hc,_⟩:=i.Cn
   have hx:a.eval x=.slice none 0 0:=by
    unfold Ac at hn
    split at hn
    ·rfl
    ·cases hn
   exact JT (by simp [execOp,ho,Sem.run_pure,hx]) (hkv _ _ G' w _ hb x' i' (Pu hc))
  | false =>
   simp only [hn,cond_false] at hb
   exact nG i hb hkv ⟨_,by simp [execOp,ho,Sem.run_pure],ev x⟩
 ·rename_i c x y ho
  obtain⟨v,hv,hk⟩:=ac6.1 hb
  obtain⟨V,h1,h2⟩:=OK (P:=cx.P) (w:=w) hv (ev c) (ev x) (ev y)
  exact nG i hk hkv ⟨V,by simp only [execOp,ho];exact h1,h2⟩
 ·rename_i t ho
  split at hb
  ·rename_i n z hn hz
   split at hb
   ·unfold mC at hb
    obtain⟨⟨p,h'⟩,hv,hk⟩:=ac6.1 hb
    obtain⟨V,w',G',h1,h2,h3,h4⟩:=JX (P:=cx.P) i hz hv
    exact qF hk hkv ⟨V,w',G',by simp only [execOp,ho];exact nI h1,h2,h3,h4⟩
   ·unfold mC at hb
    obtain⟨⟨p,h'⟩,hv,hk⟩:=ac6.1 hb
    obtain⟨V,w',G',h1,h2,h3,h4⟩:=Hz (P:=cx.P) i hz hv
    exact qF hk hkv ⟨V,w',G',by simp only [execOp,ho];exact nI h1,h2,h3,h4⟩
  ·cases hb
 ·rename_i t x ho
  split at hb
  ·rename_i n hn
   split at hb
   ·unfold mC at hb
    obtain⟨⟨p,h'⟩,hv,hk⟩:=ac6.1 hb
    obtain⟨V,w',G',h1,h2,h3,h4⟩:=Oy (P:=cx.P) (t:=t) i hv (ev x)
    exact qF hk hkv ⟨V,w',G',by simp only [execOp,ho];exact nI h1,h2,h3,h4⟩
   ·unfold mC at hb
    obtain⟨⟨p,h'⟩,hv,hk⟩:=ac6.1 hb
    obtain⟨V,w',G',h1,h2,h3,h4⟩:=LP (P:=cx.P) (t:=t) i hv (ev x)
    exact qF hk hkv ⟨V,w',G',by simp only [execOp,ho];exact nI h1,h2,h3,h4⟩
  ·cases hb
 ·rename_i t parts ho
  split at hb
  ·rename_i z fs hz ht
   split at hb
   ·rename_i places hp
    cases hj:z.o7 with
    | true=>simp [hj] at hb
    | false =>
     simp only [hj,cond_false] at hb
     obtain⟨v,hv,hk⟩:=ac6.1 hb
     obtain⟨V,h1,h2⟩:=JZ (P:=cx.P) (G:=G) (h:=h) (w:=w) ht hz hp ev hj hv
     exact nG i hk hkv ⟨V,by simp only [execOp,ho];exact nI h1,h2⟩
   ·cases hb
  ·rename_i z len e hz ht
   split at hb
   ·rename_i n hn
    cases hj:z.o7 with
    | true=>simp [hj] at hb
    | false =>
     simp only [hj,cond_false] at hb
     obtain⟨v,hv,hk⟩:=ac6.1 hb
     obtain⟨V,h1,h2⟩:=LQ (P:=cx.P) (G:=G) (h:=h) (w:=w) ht hz hn ev hj hv
     exact nG i hk hkv ⟨V,by simp only [execOp,ho];exact nI h1,h2⟩
   ·cases hb
  ·cases hb
 ·rename_i t len parts ho
  split at hb
  ·rename_i e he
   have ht:cx.P.underlying t=some (.slice e):=by unfold Gb at he;split at he <;> simp_all
   split at hb
   ·rename_i n z hn hz
    cases hg:(n == 0 || z.o7 || decide (len*n > 16777216)) with
    | true=>simp only [hg,cond_true] at hb;cases hb
    | false =>
     simp only [hg,cond_false] at hb
     simp only [Bool.or_eq_false_iff,beq_eq_false_iff_ne,decide_eq_false_iff_not] at hg
     obtain⟨⟨h0,hj⟩,hle⟩:=hg
     split at hb
     ·unfold mC at hb
      obtain⟨⟨p,h'⟩,hv,hk⟩:=ac6.1 hb
      cases hvl:cx.vlit t with
      | false =>
       rw [hvl,cond_false] at hv
       obtain⟨V,w',G',h1,h2,h3,h4⟩:=DK (P:=cx.P) i ht hz hn h0 (by omega) ev hj hv
       exact qF hk hkv ⟨V,w',G',by simp only [execOp,ho];exact nI h1,h2,h3,h4⟩
      | true =>
       rw [hvl,cond_true] at hv
       obtain⟨V,w',G',h1,h2,h3,h4⟩:=C9 (P:=cx.P) i ht hz hn h0 (by omega) ev hj hv
       exact qF hk hkv ⟨V,w',G',by simp only [execOp,ho];exact nI h1,h2,h3,h4⟩
     ·unfold mC at hb
      obtain⟨⟨p,h'⟩,hv,hk⟩:=ac6.1 hb
      obtain⟨V,w',G',h1,h2,h3,h4⟩:=CH (P:=cx.P) i ht hz hn h0 (by omega) ev hj hv
      exact qF hk hkv ⟨V,w',G',by simp only [execOp,ho];exact nI h1,h2,h3,h4⟩
   ·cases hb
  ·cases hb
 ·rename_i t x ho
  split at hb
  ·rename_i g n hg hn
   obtain⟨v,hv,hk⟩:=ac6.1 hb
   obtain⟨V,h1,h2⟩:=L8 (P:=cx.P) hg hn i hv (ev x)
   cases hfr:cx.rb&&cx.frl with
   | false =>
    rw [hfr,cond_false] at hk
    exact nG i hk hkv ⟨V,by simp only [execOp,ho];exact nI h1,h2⟩
   | true =>
    rw [hfr,cond_true] at hk
    unfold mC at hk
    obtain⟨⟨y,h3⟩,hy,hk⟩:=ac6.1 hk
    obtain⟨G1,i1,x1,r1⟩:=HV i hy h2
    exact qF hk hkv ⟨V,w,G1,by simp only [execOp,ho];exact nI h1,i1,x1,r1⟩
  ·cases hb
 ·rename_i t p x ho
  split at hb
  ·rename_i n hn
   cases hfz:cx.frz with
   | false =>
    rw [hfz,cond_false] at hb
    obtain⟨h',hv,hk⟩:=ac6.1 hb
    obtain⟨w',h1,h2,h3⟩:=Ka (P:=cx.P) hn i hv (ev p) (ev x)
    exact JS (by simp only [execOp,ho];exact Jc h1) (hkv _ _ G w' _ hk h3 h2 .undef)
   | true =>
    rw [hfz,cond_true] at hb
    obtain⟨⟨y,h1⟩,hy,hb⟩:=ac6.1 hb
    obtain⟨h',hv,hk⟩:=ac6.1 hb
    obtain⟨G1,i1,x1,r1⟩:=zE i hy (ev x)
    obtain⟨w',g1,g2,g3⟩:=DU (P:=cx.P) hn i1 hv ((ev p).mono x1.toMono) r1
    exact JS (by simp only [execOp,ho];exact Jc g1) (hkv _ _ G1 w' _ hk (x1.trans g3) g2 .undef)
  ·cases hb
 ·rename_i x ho
  split at hb
  ·obtain⟨v,hv,hk⟩:=ac6.1 hb
   have hx:=ev x
   unfold DT at hv
   split at hv
   ·rename_i n t he
    obtain⟨g,hm,rfl⟩:=ah7.1 hv
    rw [he] at hx
    obtain⟨W,C,hX⟩:=hx.YL
    exact nG i hk hkv ⟨a.eval x,Ko ho hX hm,hx⟩
   ·cases hv
  ·obtain⟨v,hv,hk⟩:=ac6.1 hb
   have hx:=ev x
   refine nG i hk hkv ⟨a.eval x,?_,?_⟩
   ·unfold mO at hv
    split at hv <;> simp only [ah5,reduceCtorEq] at hv
    ·rename_i he;rw [he] at hx;obtain⟨h1,_⟩:=hx.xF;simp [execOp,ho,h1,Sem.run_pure]
    ·rename_i he;rw [he] at hx;obtain⟨_,h1,_⟩:=hx.B6;simp [execOp,ho,h1,Sem.run_pure]
    ·rename_i he
     rw [he] at hx
     have:=hx.BL
     generalize hX:a.eval x=X at this
     cases this
     simp [execOp,ho,hX,Sem.run_pure]
    ·rename_i he;rw [he] at hx;obtain⟨F,C,h1,_⟩:=hx.D4;simp [execOp,ho,h1,Sem.run_pure]
   ·unfold mO at hv
    split at hv <;> simp only [ah5,reduceCtorEq] at hv
    all_goals (rename_i he;rw [he] at hx;rw [←hv];exact hx)
 ·rename_i op t x y yt ho
  split at hb
  ·rename_i fs ht
   split at hb
   ·rename_i ks hks
    obtain⟨b,hv,hk⟩:=ac6.1 hb
    have:=(Gc (P:=cx.P) (w:=w) ht hks x y hv (ev x) (ev y)).1
    exact nG i hk hkv ⟨_,by simp only [execOp,ho];exact nI this,.p _ _ (.bool _)⟩
   ·cases hb
  ·rename_i fs ht
   split at hb
   ·rename_i ks hks
    obtain⟨b,hv,hk⟩:=ac6.1 hb
    have:=(Gc (P:=cx.P) (w:=w) ht hks x y hv (ev x) (ev y)).2
    exact nG i hk hkv ⟨_,by simp only [execOp,ho];exact nI this,.p _ _ (.bool _)⟩
   ·cases hb
  ·rename_i ht
   obtain⟨v,hv,hk⟩:=ac6.1 hb
   obtain⟨V,h1,h2⟩:=Ot (P:=cx.P) (w:=w) ht x y hv (ev x) (ev y)
   exact nG i hk hkv ⟨V,by simp only [execOp,ho];exact nI h1,h2⟩
  ·rename_i ht
   obtain⟨v,hv,hk⟩:=ac6.1 hb
   obtain⟨V,h1,h2⟩:=Ou (P:=cx.P) (w:=w) ht x y hv (ev x) (ev y)
   exact nG i hk hkv ⟨V,by simp only [execOp,ho];exact nI h1,h2⟩
  ·obtain⟨v,hv,hk⟩:=ac6.1 hb
   obtain⟨V,h1,h2⟩:=HJ (P:=cx.P) (w:=w) t x y hv (ev x) (ev y)
   exact nG i hk hkv ⟨V,by simp only [execOp,ho];exact nI h1,h2⟩
  ·obtain⟨v,hv,hk⟩:=ac6.1 hb
   obtain⟨V,h1,h2⟩:=HJ (P:=cx.P) (w:=w) t x y hv (ev x) (ev y)
   exact nG i hk hkv ⟨V,by simp only [execOp,ho];exact nI h1,h2⟩
  ·cases hb
 ·rename_i op t x ho
  obtain⟨v,hv,hk⟩:=ac6.1 hb
  obtain⟨V,h1,h2⟩:=UP (P:=cx.P) (w:=w) hv (ev x)
  exact nG i hk hkv ⟨V,by simp only [execOp,ho];exact nI h1,h2⟩
 ·rename_i sT dT x ho
  split at hb
  ·rename_i k0 k hs hd
   obtain⟨v,hv,hk⟩:=ac6.1 hb
   obtain⟨V,h1,h2⟩:=HK (P:=cx.P) (w:=w) hs hd hv (ev x)
   exact nG i hk hkv ⟨V,by simp only [execOp,ho];exact nI h1,h2⟩
  ·rename_i e hs hd
   split at hb
   ·rename_i hu
    obtain⟨v,hv,hk⟩:=ac6.1 hb
    have hv:Cb h (qV cx.A ρ x)=some v:=by
     cases hrb:cx.rb with
     | true=>rw [hrb] at hv;exact hv
     | false =>
      rw [hrb] at hv
      have hv:uI (qV cx.A ρ x)=some v:=hv
      unfold Cb
      split
      ·rename_i hx
       unfold uI at hv
       rw [hx] at hv;cases hv
      ·rename_i hx
       unfold uI at hv
       rw [hx] at hv;cases hv
      ·exact hv
    obtain⟨V,h1,h2⟩:=J0 (P:=cx.P) i hv (ev x)
    have hsl:∃q n c,a.eval x=Value.slice q n c:=by
     have hx:=ev x
     generalize qV cx.A ρ x=y at hv hx
     generalize a.eval x=Y at hx
     unfold Cb at hv
     split at hv
     ·obtain⟨b,cap,rfl,_⟩:=hx.qK
      exact⟨_,_,_,rfl⟩
     ·obtain⟨b,cap,rfl,_⟩:=hx.vN
      exact⟨_,_,_,rfl⟩
     ·unfold uI at hv
      split at hv
      ·have hp:=hx.sA
       cases hp <;> exact⟨_,_,_,rfl⟩
      ·cases hv
    obtain⟨q,n,c,hq⟩:=hsl
    rw [hq] at h1
    exact nG i hk hkv ⟨V,by
     simp only [execOp,ho,hq]
     refine nI ?_
     simp only [Go.convert,Sem.run_bind,run_underlying hs,run_underlying hd,run_underlying hu,Result.andThen_ok]
     exact h1,h2⟩
   ·cases hb
  ·cases hb
 ·rename_i t ho
  obtain⟨G',h1,h2,h3⟩:=i.aoC
  exact qF hb hkv ⟨.map (some w.heap.size),_,G',by simp only [execOp,ho];exact nI (run_makeMap t w),h1,h2,h3⟩
 ·rename_i t l c ho
  split at hb
  ·rename_i e he
   have ht:cx.P.underlying t=some (.slice e):=by unfold Gb at he;split at he <;> simp_all
   split at hb
   ·rename_i n by_ z hn hby hz
    cases hg:(n == 0 || z.o7 || z.cells.length != n || !(z.cells.all lS.mZ) || !(SN l c)) with
    | true=>simp only [hg,cond_true] at hb;cases hb
    | false =>
     simp only [hg,cond_false] at hb
     simp only [Bool.or_eq_false_iff,beq_eq_false_iff_ne,bne_eq_false_iff_eq,Bool.not_eq_false'] at hg
     obtain⟨⟨⟨⟨h0,hj⟩,hl⟩,hall⟩,hso⟩:=hg
     unfold mC at hb
     obtain⟨⟨p,h'⟩,hv,hk⟩:=ac6.1 hb
     obtain⟨k,k',m,e1,e2,e3⟩:∃k k' m,qV cx.A ρ l=.int k m∧a.eval l=.int k m∧a.eval c=.int k' m:=by
      have hx:=ev l
      have hm:∃k m,qV cx.A ρ l=.int k m:=by
       cases hvm:cx.vmk <;> rw [hvm] at hv <;> simp only [cond_true,cond_false] at hv
       ·unfold rB at hv
        split at hv
        ·rename_i k m he;exact⟨k,m,he⟩
        ·cases hv
       ·unfold p_ at hv
        split at hv
        ·rename_i k m he;exact⟨k,m,he⟩
        ·cases hv
      obtain⟨k,m,hm⟩:=hm
      rw [hm] at hx
      have hx:=hx.qE
      unfold SN at hso
      split at hso
      ·simp at hso;subst hso;exact⟨k,k,m,hm,hx,hx⟩
      ·rename_i k1 a1 k2 b1
       simp at hso;subst hso
       simp only [qV,ofConst,BG,lS.int.injEq] at hm
       obtain⟨rfl,rfl⟩:=hm
       exact⟨_,_,_,rfl,rfl,rfl⟩
      ·cases hso
     obtain⟨V,w',G',h1,h2,h3,h4⟩:∃V w' G',(Instr.makeSlice t (a.eval l) (a.eval c)).run cx.P w=.ok V w'∧Inv G' h' w'∧Ext G h w G' h' w'∧mJ G' h' p V:=by
      cases hvm:cx.vmk <;> rw [hvm] at hv <;> simp only [cond_true,cond_false] at hv
      ·exact E8 (P:=cx.P) i ht hn hby hz hj hl hall hv e1 e2 e3
      ·exact DO (P:=cx.P) i ht hn hby hz h0 hj hl hall hv e1 e2 e3
     exact qF hk hkv ⟨V,w',G',by simp only [execOp,ho];exact nI h1,h2,h3,h4⟩
   ·cases hb
  ·cases hb
 ·rename_i t m k ok ho
  split at hb
  ·rename_i kt e ht
   split at hb
   ·rename_i d z hd hz
    cases hf:rO d (qV cx.A ρ k) with
    | false=>simp only [hf,cond_false] at hb;cases hb
    | true =>
     simp only [hf,cond_true] at hb
     obtain⟨v,hv,hk⟩:=ac6.1 hb
     obtain⟨V,h1,h2⟩:=J7 (P:=cx.P) i ht hd hz hf hv (ev m) (ev k)
     exact nG i hk hkv ⟨V,by simp only [execOp,ho];exact nI h1,h2⟩
   ·cases hb
  ·cases hb
 ·rename_i t m k x ho
  split at hb
  ·rename_i kt e ht
   split at hb
   ·rename_i d hd
    cases hf:rO d (qV cx.A ρ k) with
    | false=>simp only [hf,cond_false] at hb;cases hb
    | true =>
     simp only [hf,cond_true] at hb
     obtain⟨h',hv,hk⟩:=ac6.1 hb
     obtain⟨w',h1,h2,h3⟩:=J9 (P:=cx.P) i ht hd hf hv (ev m) (ev k) (ev x)
     exact JS (by simp only [execOp,ho];exact Jc h1) (hkv _ _ G w' _ hk h3 h2 .undef)
   ·cases hb
  ·cases hb
 ·rename_i t x ho
  split at hb
  ·cases hb
  ·rename_i d hne hd
   refine nG i hb hkv ⟨.iface t (a.eval x),?_,.iface _ _ _ (ev x)⟩
   have:(Instr.makeInterface t (a.eval x)).run cx.P w=.ok (.iface t (a.eval x)) w:=by
    unfold Instr.makeInterface
    simp only [Sem.run_bind,run_underlying hd,Result.andThen_ok]
    cases d <;> first | (exact absurd rfl (hne _);done) | simp [Sem.run_pure]
   simp only [execOp,ho];exact nI this
  ·cases hb
 ·rename_i f first cap ho
  refine nG i hb hkv ⟨.func (.func f) (first.map a.eval) (cap.map a.eval),by simp only [execOp,ho];exact nI (by simp only [Instr.makeFunc,Sem.run_pure]),.func f _ _ _ _ (by simp) (by simp) ?_ ?_⟩
  ·intro j u hu
   simp only [ak4,ah7,aq2] at hu
   obtain⟨x,hx,rfl⟩:=hu
   have:(first.map a.eval).getD j undef=a.eval x:=by simp [aj5,hx]
   rw [this];exact ev x
  ·intro j u hu
   simp only [ak4,ah7,aq2] at hu
   obtain⟨x,hx,rfl⟩:=hu
   have:(cap.map a.eval).getD j undef=a.eval x:=by simp [aj5,hx]
   rw [this];exact ev x
 ·rename_i nm first cap ho
  split at hb
  ·rename_i x hfi
   split at hb
   ·rename_i tt w0 hx
    obtain⟨W,hF,_⟩:=(show mJ G h (.iface tt w0) (a.eval x) from hx ▸ ev x).xL
    have e1:first.map a.eval=#[.iface tt W]:=by
     have:first=#[x]:=by cases first;simp_all
     rw [this];simp [hF]
    exact nG i hb hkv ⟨.func (.method nm) (first.map a.eval) (cap.map a.eval),by simp only [execOp,ho];exact nI (by simp only [Instr.makeFunc,Sem.run_pure]),by rw [e1];exact .p _ _ (.meth ..)⟩
   ·cases hb
  ·cases hb
 ·rename_i t x lo hi ho
  obtain⟨l1,l2⟩:=YY (G:=G) (h:=h) ev lo
  obtain⟨h1,h2⟩:=YY (G:=G) (h:=h) ev hi
  split at hb
  ·rename_i ht
   obtain⟨v,hv,hk⟩:=ac6.1 hb
   obtain⟨V,e1,e2⟩:=GK (P:=cx.P) (w:=w) l1 l2 h1 h2 ht hv (ev x)
   exact nG i hk hkv ⟨V,by simp only [execOp,ho];exact nI e1,e2⟩
  ·rename_i e ht
   split at hb
   ·rename_i n hn
    obtain⟨v,hv,hk⟩:=ac6.1 hb
    obtain⟨V,e1,e2⟩:=Ib (P:=cx.P) (w:=w) l1 l2 h1 h2 ht hn hv (ev x)
    exact nG i hk hkv ⟨V,by simp only [execOp,ho];exact nI e1,e2⟩
   ·cases hb
  ·rename_i len e ht
   split at hb
   ·rename_i n hn
    obtain⟨v,hv,hk⟩:=ac6.1 hb
    obtain⟨V,e1,e2⟩:=GJ (P:=cx.P) (w:=w) l1 l2 h1 h2 ht hn hv (ev x)
    exact nG i hk hkv ⟨V,by simp only [execOp,ho];exact nI e1,e2⟩
   ·cases hb
  ·cases hb
 ·rename_i t x f ho
  split at hb
  ·rename_i fs ht
   split at hb
   ·rename_i fd hf
    split at hb
    ·rename_i n hn
     obtain⟨v,hv,hk⟩:=ac6.1 hb
     obtain⟨V,e1,e2⟩:=HQ (P:=cx.P) (w:=w) ht hf hn hv (ev x)
     exact nG i hk hkv ⟨V,by simp only [execOp,ho];exact nI e1,e2⟩
    ·cases hb
   ·cases hb
  ·cases hb
 ·rename_i t x f ho
  split at hb
  ·rename_i fs ht
   split at hb
   ·rename_i fd hf
    split at hb
    ·rename_i g n hg hn
     obtain⟨v,hv,hk⟩:=ac6.1 hb
     obtain⟨V,e1,e2⟩:=LX (P:=cx.P) (w:=w) (ft:=fd.type) ht hf hg hn hv (ev x)
     exact nG i hk hkv ⟨V,by simp only [execOp,ho];exact nI e1,e2⟩
    ·cases hb
   ·cases hb
  ·cases hb
 ·rename_i t x ix ho
  split at hb
  ·rename_i e ht
   split at hb
   ·rename_i n hn
    obtain⟨v,hv,hk⟩:=ac6.1 hb
    obtain⟨V,e1,e2⟩:=HZ (P:=cx.P) (w:=w) ht hn hv (ev x) (ev ix)
    exact nG i hk hkv ⟨V,by simp only [execOp,ho];exact nI e1,e2⟩
   ·cases hb
  ·rename_i len e ht
   split at hb
   ·rename_i n hn
    obtain⟨v,hv,hk⟩:=ac6.1 hb
    obtain⟨V,e1,e2⟩:=HY (P:=cx.P) (w:=w) ht hn hv (ev x) (ev ix)
    exact nG i hk hkv ⟨V,by simp only [execOp,ho];exact nI e1,e2⟩
   ·cases hb
  ·cases hb
 ·rename_i t x ix ho
  split at hb
  ·rename_i ht
   obtain⟨v,hv,hk⟩:=ac6.1 hb
   obtain⟨V,e1,e2⟩:=GI (P:=cx.P) (w:=w) ht hv (ev x) (ev ix)
   exact nG i hk hkv ⟨V,by simp only [execOp,ho];exact nI e1,e2⟩
  ·rename_i len e ht
   split at hb
   ·rename_i g n hg hn
    obtain⟨v,hv,hk⟩:=ac6.1 hb
    obtain⟨V,e1,e2⟩:=GH (P:=cx.P) (w:=w) ht hg hn hv (ev x) (ev ix)
    exact nG i hk hkv ⟨V,by simp only [execOp,ho];exact nI e1,e2⟩
   ·cases hb
  ·cases hb
 ·rename_i x ix ho
  obtain⟨v,hv,hk⟩:=ac6.1 hb
  obtain⟨V,e1,e2⟩:=HO (P:=cx.P) (w:=w) hv (ev x)
  exact nG i hk hkv ⟨V,by simp only [execOp,ho];exact nI e1,e2⟩
 ·rename_i x xt t ho
  split at hb
  ·cases hb
  ·rename_i td hni ht
   split at hb
   ·rename_i z hz
    obtain⟨v,hv,hk⟩:=ac6.1 hb
    obtain⟨Z,hz1,hz2⟩:=rD (P:=cx.P) (w:=w) (G:=G) (h:=h) hz
    have hx:=ev x
    have run:∀X,a.eval x=X→(execOp a.eval o).run cx.P w=(do pure (Next.value (←Instr.typeAssert X xt t true)):Sem Next).run cx.P w:=by
     intro X hX;simp only [execOp,ho,hX]
    unfold yK at hv
    split at hv
    ·rename_i t' u hu
     simp only [ah5] at hv
     rw [hu] at hx
     obtain⟨W,h1,h2⟩:=hx.xL
     have run1:(Instr.typeAssert (.iface t' W) xt t true).run cx.P w=if t'=t then .ok (.tuple #[W,.bool true]) w else .ok (.tuple #[Z,.bool false]) w:=by
      cases td <;> first | exact(hni _ rfl).elim | (by_cases htt:t'=t <;> simp [Instr.typeAssert,run_underlying ht,Sem.run_pure,htt,hz1])
     by_cases htt:t'=t
     ·have e:(t' == t)=true:=by simpa using htt
      rw [e] at hv
      simp only [cond_true] at hv
      subst hv
      refine nG i hk hkv ⟨.tuple #[W,.bool true],by rw [run _ h1];exact nI (by rw [run1,if_pos htt]),.tuple _ _ rfl fun j c hc=>?_⟩
      match j with
      | 0=>simp at hc;subst hc;exact h2
      | 1=>simp at hc;subst hc;exact .p _ _ (.bool true)
      | j+2=>simp at hc
     ·have e:(t' == t)=false:=by simpa using htt
      rw [e] at hv
      simp only [cond_false] at hv
      subst hv
      refine nG i hk hkv ⟨.tuple #[Z,.bool false],by rw [run _ h1];exact nI (by rw [run1,if_neg htt]),.tuple _ _ rfl fun j c hc=>?_⟩
      match j with
      | 0=>simp at hc;subst hc;exact hz2
      | 1=>simp at hc;subst hc;exact .p _ _ (.bool false)
      | j+2=>simp at hc
    ·rename_i hu
     simp only [ah5] at hv
     rw [hu] at hx
     have h1:a.eval x=.nilIface:=by
      generalize a.eval x=X at hx
      cases hx with
      | p _ _ hp=>cases hp;rfl
     have run1:(Instr.typeAssert .nilIface xt t true).run cx.P w=.ok (.tuple #[Z,.bool false]) w:=by
      cases td <;> first | exact(hni _ rfl).elim | simp [Instr.typeAssert,run_underlying ht,Sem.run_pure,hz1]
     subst hv
     refine nG i hk hkv ⟨.tuple #[Z,.bool false],by rw [run _ h1];exact nI run1,.tuple _ _ rfl fun j c hc=>?_⟩
     match j with
     | 0=>simp at hc;subst hc;exact hz2
     | 1=>simp at hc;subst hc;exact .p _ _ (.bool false)
     | j+2=>simp at hc
    ·cases hv
   ·cases hb
  ·cases hb
 ·rename_i x ho
  unfold Mb at hb
  split at hb
  ·rename_i t v hv
   have hx:=ev x
   rw [hv] at hx
   obtain⟨W,h1,h2⟩:=hx.xL
   have hrun:(execOp a.eval o).run cx.P w=.halt (.panic (.iface t W)) w:=by
    simp only [execOp,ho,h1,Instr.panic]
    rfl
   unfold Oper.wp
   rw [hrun]
   exact hkp _ _ G w _ hb (Ext.refl G h w) i (.iface _ _ _ h2)
  ·cases hb
 ·rename_i c ho
  split at hb
  ·rename_i b hcal
   exact Kc ho hcal hb i ev hkv
  ·rename_i f hcal
   obtain⟨⟨g,fi,ca⟩,hv,hk⟩:=ac6.1 hb
   have hf:=ev f
   unfold rF at hv
   split at hv <;> simp only [ah5,as7,reduceCtorEq] at hv
   rename_i g' fi' ca' hfv
   obtain⟨rfl,rfl,rfl⟩:=hv
   rw [hfv] at hf
   obtain⟨F,C,hF,hlf,hlc,hrf,hrc⟩:=hf.D4
   simp only [] at hk
   unfold mR at hk
   obtain⟨⟨res,h'⟩,hcall,hk⟩:=ac6.1 hk
   have hargs0:xP G h (fi'++c.args.toList.map (qV cx.A ρ)++ca') (F++c.args.map a.eval++C):=by
    refine⟨by simp [hlf,hlc],fun j u hu=>?_⟩
    rw [aj5]
    by_cases h1:j<fi'.length
    ·rw [aw8,aq3 h1] at hu
     rw [Array.append_assoc,Array.getElem?_append_left (by omega)]
     have:=hrf j u hu
     rwa [aj5] at this
    ·by_cases h2:j<fi'.length+c.args.size
     ·rw [aw8,ak0 (by omega),aq3 (by simp;omega)] at hu
      rw [Array.append_assoc,Array.getElem?_append_right (by omega),Array.getElem?_append_left (by simp;omega)]
      simp only [ak4,ah7,aq2] at hu
      obtain⟨x,hx,rfl⟩:=hu
      rw [←hlf]
      simp only [Array.getElem?_map,hx,Option.map_some,Option.getD_some]
      exact ev x
     ·rw [ak0 (by simp;omega)] at hu
      rw [Array.getElem?_append_right (by simp;omega)]
      have:=hrc _ u hu
      rw [aj5] at this
      simpa [hlf] using this
   have hargs:xP G h (pO cx.A g' (fi'++c.args.toList.map (qV cx.A ρ)++ca')) (F++c.args.map a.eval++C):=by
    unfold pO
    cases cx.A.grow g' with
    | true=>exact hargs0
    | false =>
     refine⟨by simpa using hargs0.1,fun j u hu=>?_⟩
     simp only [cond_false,ak4,ah7] at hu
     obtain⟨x,hx,rfl⟩:=hu
     exact Au (hargs0.2 j x hx)
   cases hext:cx.A.ext g' with
   | some ek =>
   simp only [rI,hext] at hcall
   obtain⟨v,V,hr,hrun,hV⟩:=Iw hX hext hcall hargs.1 hargs.2 (w:=w)
   cases hr
   have hrun':(execOp a.eval o).run cx.P w=.ok (.value V) w:=by
    simp only [execOp,ho,resolve,hcal,hF,Deferred.ofValue,Sem.run_bind,Sem.run_pure,Result.andThen_ok,invoke]
    exact hrun
   exact JT hrun' (hkv v h G w V hk (Ext.refl G h w) i hV)
   | none =>
   simp only [rI,hext] at hcall
   obtain⟨henter,hcalls⟩:=hK _ _ _ _ _ hcall G w _ i gl hargs
   have hrun:(execOp a.eval o).run cx.P w=.ok (.enter g' (F++c.args.map a.eval++C)) w:=by
    simp only [execOp,ho,resolve,hcal,hF,Deferred.ofValue,Sem.run_bind,Sem.run_pure,Result.andThen_ok,invoke]
    exact henter w
   unfold Oper.wp
   rw [hrun]
   refine Calls.mono hcalls fun e w' hpost=>?_
   obtain⟨G',x',i',hres⟩:=hpost
   cases res with
   | ret v =>
    obtain⟨V,rfl,hV⟩:=hres
    exact hkv v h' G' w' V hk x' i' hV
   | pan v =>
    obtain⟨V,rfl,hV⟩:=hres
    exact hkp v h' G' w' V hk x' i' hV
  ·rename_i f name hcal
   obtain⟨⟨g',w0⟩,hv,hk⟩:=ac6.1 hb
   have hf:=ev f
   unfold wY at hv
   split at hv <;> simp only [ah7,as7,reduceCtorEq] at hv
   rename_i t w1 hfv
   obtain⟨g2,hm,rfl,rfl⟩:=hv
   rw [hfv] at hf
   obtain⟨W,hF,hW⟩:=hf.xL
   simp only [] at hk
   unfold mR at hk
   obtain⟨⟨res,h'⟩,hcall,hk⟩:=ac6.1 hk
   have hargs0:xP G h (w1::c.args.toList.map (qV cx.A ρ)) (#[W]++c.args.map a.eval):=by
    refine⟨by simp;omega,fun j u hu=>?_⟩
    cases j with
    | zero =>
     simp only [List.getElem?_cons_zero,ah5] at hu
     subst hu
     have e0:(#[W]++c.args.map a.eval)[0]?=some W:=by rw [Array.getElem?_append_left (by simp)];rfl
     rw [aj5,e0]
     exact hW
    | succ j =>
     simp only [List.getElem?_cons_succ,ak4,ah7,aq2] at hu
     obtain⟨x,hx,rfl⟩:=hu
     rw [aj5,Array.getElem?_append_right (by simp)]
     simp only [Array.size_singleton,Nat.add_sub_cancel,Array.getElem?_map,hx,Option.map_some,Option.getD_some]
     exact ev x
   have hargs:xP G h (pO cx.A g2 (w1::c.args.toList.map (qV cx.A ρ))) (#[W]++c.args.map a.eval):=by
    unfold pO
    cases cx.A.grow g2 with
    | true=>exact hargs0
    | false =>
     refine⟨by have:=hargs0.1;simpa using this,fun j u hu=>?_⟩
     simp only [cond_false,ak4,ah7] at hu
     obtain⟨x,hx,rfl⟩:=hu
     exact Au (hargs0.2 j x hx)
   have hrunE:(execOp a.eval o).run cx.P w=(callFunc g2 (#[W]++c.args.map a.eval)).run cx.P w:=by
    have h0:(#[Value.iface t W]++c.args.map a.eval)[0]?=some (Value.iface t W):=by rw [Array.getElem?_append_left (by simp)];rfl
    have h1:(#[Value.iface t W]++c.args.map a.eval).extract 1 (#[Value.iface t W]++c.args.map a.eval).size=c.args.map a.eval:=by
     apply Array.toList_inj.1
     rw [Array.toList_extract]
     have:c.args.size=(List.map a.eval c.args.toList).length:=by simp
     simp [List.extract,this,-au7,List.take_length]
    simp only [execOp,ho,resolve,hcal,Sem.run_bind,Sem.run_pure,Result.andThen_ok,invoke,hF]
    rw [h0,h1]
    simp only [callMethod,Sem.run_bind,run_program,Result.andThen_ok,UJ hm]
   cases hext:cx.A.ext g2 with
   | some ek =>
    simp only [rI,hext] at hcall
    obtain⟨v,V,hr,hrun,hV⟩:=Iw hX hext hcall hargs.1 hargs.2 (w:=w)
    cases hr
    exact JT (hrunE.trans hrun) (hkv v h G w V hk (Ext.refl G h w) i hV)
   | none =>
    simp only [rI,hext] at hcall
    obtain⟨henter,hcalls⟩:=hK _ _ _ _ _ hcall G w _ i gl hargs
    have hrun:=hrunE.trans (henter w)
    unfold Oper.wp
    rw [hrun]
    refine Calls.mono hcalls fun e w' hpost=>?_
    obtain⟨G',x',i',hres⟩:=hpost
    cases res with
    | ret v =>
     obtain⟨V,rfl,hV⟩:=hres
     exact hkv v h' G' w' V hk x' i' hV
    | pan v =>
     obtain⟨V,rfl,hV⟩:=hres
     exact hkp v h' G' w' V hk x' i' hV
 ·cases hb
end
end
noncomputable section
open Go Go.RowKit
section
variable {cx:Cx}{o:Oper}{ρ:List lS}{h:lT}{kv kp:lS→lT→Option R}{r:R}{ids:List Nat}{ops:List Oper}
theorem vL {rsv:Option Nat}:evalOp cx o rsv ρ h kv kp=(evalOp cx o rsv ρ h mM Gk).bind (mY kv kp):=by
 unfold evalOp
 generalize qV cx.A ρ=v
 have B:∀(e:Option lS),(e.bind fun w=>kv w h)=(e.bind fun w=>mM w h).bind (mY kv kp):=by intro e;cases e <;> rfl
 have BV:∀(e:Option (lS×lT)),mC e kv=(mC e mM).bind (mY kv kp):=by intro e;cases e <;> rfl
 have BR:∀(e:Option (nT×lT)),mR e kv kp=(mR e mM Gk).bind (mY kv kp):=by
  intro e
  cases e with
  | none=>rfl
  | some e=>obtain⟨r,h⟩:=e;cases r <;> rfl
 have BH:∀(e:Option lT),(e.bind fun h'=>kv (.tuple []) h')=(e.bind fun h'=>mM (.tuple []) h').bind (mY kv kp):=by intro e;cases e <;> rfl
 have BB:∀(e:Option Bool) (f:Bool→lS),(e.bind fun b=>kv (f b) h)=(e.bind fun b=>mM (f b) h).bind (mY kv kp):=by intro e f;cases e <;> rfl
 have C:∀(b:Bool) (x y:Option R),x=y.bind (mY kv kp)→(bif b then none else x)=(bif b then none else y).bind (mY kv kp):=by intro b x y hxy;cases b <;> simp [hxy]
 have D:∀(b:Bool) (x y:Option R),x=y.bind (mY kv kp)→(bif b then x else none)=(bif b then y else none).bind (mY kv kp):=by intro b x y hxy;cases b <;> simp [hxy]
 have EE:∀(b:Bool) (x y x0 y0:Option R),x=x0.bind (mY kv kp)→y=y0.bind (mY kv kp)→(bif b then x else y)=(bif b then x0 else y0).bind (mY kv kp):=by intro b x y x0 y0 h1 h2;cases b <;> simp [h1,h2]
 have bu:∀(b:Builtin) (ts:List TypeId) (args:List lS),qR cx b ts args h kv=(qR cx b ts args h mM).bind (mY kv kp):=by
  intro b ts args
  unfold qR
  repeat' split
  all_goals first
   | rfl
   | exact B _
   | exact BV _
   | exact BH _
   | exact D _ _ _ (BH _)
   | exact C _ _ _ (BH _)
   | (refine EE _ _ _ _ _ ?_ ?_ <;> first | rfl | exact C _ _ _ (BV _))
   | (refine C _ _ _ ?_;(repeat' split) <;> first | rfl | (refine C _ _ _ ?_;exact BV _))
 have PA:∀(x:lS),Mb x h kp=(Mb x h Gk).bind (mY kv kp):=by intro x;cases x <;> rfl
 unfold oG
 cases ho:o.op with
 | panic x=>exact PA _
 | call c =>
  simp only []
  cases c.callee with
  | builtin b=>exact bu _ _ _
  | value f =>
   simp only []
   cases rF (v f) with
   | none=>rfl
   | some g=>exact BR _
  | invoke x name =>
   simp only []
   cases wY cx.P name (v x) with
   | none=>rfl
   | some g=>exact BR _
 | assign x =>
  simp only []
  cases hn:Ac x with
  | true=>rfl
  | false=>rfl
 | load t x =>
  simp only []
  split
  ·rename_i g n hg hn
   cases E7 cx.tb g n h (v x) with
   | none=>rfl
   | some w =>
    simp only [ak6]
    cases cx.rb&&cx.frl with
    | false=>rfl
    | true=>exact BV _
  ·rfl
 | store t p x =>
  simp only []
  split
  ·cases cx.frz with
   | false=>exact BH _
   | true =>
    simp only [cond_true]
    cases sU h (v x) with
    | none=>rfl
    | some y=>exact BH _
  ·rfl
 | makeFunc b f c =>
  cases b <;> first | rfl | skip
  simp only []
  cases f.toList with
  | nil=>rfl
  | cons x r=>cases r with
   | cons _ _=>rfl
   | nil=>simp only [];cases v x <;> rfl
 | nilCheck x=>simp only [];split <;> exact B _
 | makeMap t r=>cases r <;> rfl
 | typeAssert x xt t ok =>
  cases ok with
  | false=>rfl
  | true =>
   simp only []
   repeat' split
   all_goals first
    | rfl
    | exact B _
 | slice t x lo hi mx =>
  cases mx with
  | some _=>rfl
  | none =>
   simp only []
   repeat' split
   all_goals first
    | rfl
    | exact B _
 | _ =>
  simp only []
  repeat' split
  all_goals first
   | rfl
   | exact B _
   | exact BV _
   | exact BH _
   | exact BB _ _
   | (refine C _ _ _ ?_;first | exact B _ | exact BV _ | (split <;> exact BV _))
   | exact D _ _ _ (B _)
   | exact D _ _ _ (BH _)
theorem OR {f:R→Option R}{x:Option R}{h h':lT}:∀{ids:List Nat},(Wc ids h h' x).bind f=Wc ids h h' (x.bind f)
 | []=>rfl
 | id::r=>by
  unfold Wc
  split
  ·exact OR
  ·rfl
theorem DX {r:R}{x:Option R}{h h':lT}:∀{ids:List Nat},Wc ids h h' x=some r↔(∀id∈ids,∀b,h[id]?=some b→h'[id]?=some b)∧x=some r
 | []=>by simp [Wc]
 | id::l=>by
  unfold Wc
  split
  ·rename_i hc
   rw [DX]
   constructor
   ·intro ⟨a,b⟩
    refine⟨fun i hi=>?_,b⟩
    rcases List.mem_cons.1 hi with rfl | hi
    ·exact hc
    ·exact a i hi
   ·intro ⟨a,b⟩
    exact⟨fun i hi=>a i (List.mem_cons_of_mem _ hi),b⟩
  ·rename_i hc
   constructor
   ·intro e;cases e
   ·intro ⟨a,b⟩
    exact absurd (a id (List.mem_cons_self ..)) hc
theorem acM {ids:List Nat}{h:lT}{kv kp:lS→lT→Option R}(r:R) :
  mY (fun v h'=>Wc ids h h' (kv v h')) kp r=(mY (fun v h'=>Wc ids h h' (mM v h')) Gk r).bind (mY kv kp):=by
 obtain⟨e,l,h⟩:=r
 cases e with
 | normal =>
  match l with
  | []=>rfl
  | [v]=>exact(OR (x:=mM v h) (f:=mY kv kp)).symm
  | _::_::_=>rfl
 | _=>rfl
theorem It:oF cx o ids ρ h kv kp=(oF cx o ids ρ h mM Gk).bind (mY kv kp):=by
 unfold oF
 cases cx.ck with
 | true =>
  simp only [cond_true]
  rw [vL (kv:=fun v h'=>Wc ids h h' (kv v h')),vL (kv:=fun v h'=>Wc ids h h' (mM v h')),Option.bind_assoc]
  refine congrArg (Option.bind _) ?_
  funext r
  exact acM r
 | false =>
 simp only [cond_false]
 rw [vL (kv:=fun v h'=>kv v (oD ids h h')),vL (kv:=fun v h'=>mM v (oD ids h h')),Option.bind_assoc]
 refine congrArg (Option.bind _) ?_
 funext r
 obtain⟨e,l,h⟩:=r
 cases e with
 | normal =>
  match l with
  | []=>rfl
  | [v]=>rfl
  | _::_::_=>rfl
 | _=>rfl
def xK (cx:Cx) (ops:List Oper) (o:Oper) (ids:List Nat) (ρ:List lS) (h:lT) (kv:lS→lT→Option R) (kp:lS→lT→Option R):Option R :=
 match o.guard with
 | none=>oF cx o ids ρ h kv kp
 | some (j,want)=>match (ops[j]?).bind (·.dst) with
  | some d=>match ρ.getD d .junk with
   | .bool g=>bif want then(bif g then oF cx o ids ρ h kv kp else kv (.tuple []) h) else(bif g then kv (.tuple []) h else oF cx o ids ρ h kv kp)
   | .tuple []=>kv (.tuple []) h
   | _=>none
  | none=>none
theorem yL:rY cx ops o ids ρ h kv kp=xK cx ops o ids ρ h kv kp:=by
 unfold rY xK
 cases o.guard with
 | none=>rfl
 | some jw =>
  obtain⟨j,want⟩:=jw
  simp only []
  cases (ops[j]?).bind (·.dst) with
  | none=>rfl
  | some d =>
   dsimp only
   generalize ρ.getD d .junk=x
   cases x with
   | bool g=>cases want <;> cases g <;> first | rfl | exact It.symm
   | tuple vs=>cases vs <;> rfl
   | _=>rfl
end
end
section
open Go Go.RowKit
section
variable {cx:Cx}{o:Oper}{ρ ρ':List lS}{h h':lT}{kv kp:lS→lT→Option R}{r:R}{ids:List Nat}{ops:List Oper}
theorem Ss {t:Tmp}:t∈vP o↔Operand.tmp t∈o.op.operands:=by
 unfold vP
 simp only [List.mem_filterMap,Array.mem_toList_iff]
 constructor
 ·rintro⟨x,hx,he⟩
  cases x <;> simp at he
  subst he;exact hx
 ·intro hx;exact⟨_,hx,rfl⟩
theorem Ig {A:xO}(hag:∀t∈vP o,ρ'.getD t .junk=ρ.getD t .junk) {x:Operand}(hx:x∈o.op.operands):qV A ρ' x=qV A ρ x:=by
 cases x with
 | tmp t=>exact hag t (Ss.2 hx)
 | _=>rfl
theorem AA {rsv:Option Nat}(hag:∀t∈vP o,ρ'.getD t .junk=ρ.getD t .junk):evalOp cx o rsv ρ' h kv kp=evalOp cx o rsv ρ h kv kp:=by
 have ev:∀x∈o.op.operands,qV cx.A ρ' x=qV cx.A ρ x:=fun x hx=>Ig hag hx
 unfold evalOp
 generalize qV cx.A ρ'=v' at *
 generalize qV cx.A ρ=v at *
 clear hag
 have mapP:∀(parts:Array (Nat×Operand)),(∀p∈parts,p.2∈o.op.operands)→(parts.toList.map fun p=>(p.1,v' p.2))=parts.toList.map fun p=>(p.1,v p.2):=by
  intro parts hp
  refine List.map_congr_left fun p hm=>?_
  rw [ev p.2 (hp p (by simpa using hm))]
 have mapA:∀(xs:Array Operand),(∀x∈xs,x∈o.op.operands)→xs.toList.map v'=xs.toList.map v:=by
  intro xs hp
  exact List.map_congr_left fun p hm=>ev p (hp p (by simpa using hm))
 unfold oG
 cases ho:o.op with
 | call c =>
  simp only [ho,Op.operands,Call.operands] at ev mapA
  cases hc:c.callee with
  | builtin b=>simp only [hc] at ev mapA ⊢;rw [mapA c.args (by simp)]
  | value f=>simp only [hc] at ev mapA ⊢;rw [mapA c.args (by intro x hx;simp [hx]),ev f (by simp)]
  | invoke f name=>simp only [hc] at ev mapA ⊢;rw [mapA c.args (by intro x hx;simp [hx]),ev f (by simp)]
 | build t parts=>simp only [ho,Op.operands] at mapP ⊢;rw [mapP parts (by intro p hp;simp;exact⟨_,hp⟩)]
 | buildSlice t len parts=>simp only [ho,Op.operands] at mapP ⊢;rw [mapP parts (by intro p hp;simp;exact⟨_,hp⟩)]
 | slice t x lo hi mx =>
  have e1:=ev x (by simp [ho,Op.operands])
  have e2:lo.map v'=lo.map v:=by cases lo with | none=>rfl | some l=>simp [ev l (by simp [ho,Op.operands])]
  have e3:hi.map v'=hi.map v:=by cases hi with | none=>rfl | some l=>simp [ev l (by simp [ho,Op.operands])]
  cases mx with
  | none=>simp only [e1,e2,e3]
  | some m=>rfl
 | makeMap t hint=>cases hint <;> rfl
 | typeAssert x xt t ok =>
  cases ok with
  | false=>rfl
  | true=>simp only [ho,Op.operands] at ev ⊢;rw [ev x (by simp)]
 | makeFunc b first cap =>
  simp only [ho,Op.operands] at mapA
  cases b with
  | method n =>
   simp only []
   cases hf:first.toList with
   | nil=>rfl
   | cons x r=>cases r with
    | cons _ _=>rfl
    | nil =>
     have hm:x∈first:=by rw [←Array.mem_toList_iff,hf];simp
     simp only []
     rw [ev x (by simp [ho,Op.operands,hm])]
  | _=>first | rfl | simp only [mapA cap (by intro x hx;simp [hx]),mapA first (by intro x hx;simp [hx])]
 | _=>simp only [ho,Op.operands] at ev ⊢ <;> simp_all
def qB (h:lT) (id:Nat):Prop:=(∃cs,h[id]?=some (.cells cs))∨(∃es,h[id]?=some (.map es))∨(∃tot sz cs,h[id]?=some (.vec tot sz cs))∨∃t cs,h[id]?=some (.tcells t cs)
def vR (cx:Cx) (o:Oper) (ρ:List lS):Option Nat:=(tN o).bind fun x=>xR (qV cx.A ρ x)
theorem WM {g:Bool}{n:Nat}{x v:lS}(hv:mF g n h x=some v) (h2:lT) (ha:∀id,xR x=some id→qB h id→h2[id]?=h[id]?):mF g n h2 x=some v:=by
 cases x with
 | pptr cs=>exact hv
 | ptr id off =>
  simp only [mF] at hv ⊢
  have:oX h2 id=oX h id:=by
   unfold oX
   cases hb:h[id]? with
   | none=>simp [oX,hb] at hv
   | some bl=>cases bl with
    | cells cs=>rw [ha id rfl (.inl ⟨cs,hb⟩),hb]
    | _=>simp [oX,hb] at hv
  rw [this];exact hv
 | vptr id tot off =>
  simp only [mF] at hv ⊢
  have:oQ h2 id tot=oQ h id tot:=by
   unfold oQ
   cases hb:h[id]? with
   | none=>simp [oQ,hb] at hv
   | some bl=>cases bl with
    | vec t s cs=>rw [ha id rfl (.inr (.inr (.inl ⟨t,s,cs,hb⟩))),hb]
    | _=>simp [oQ,hb] at hv
  rw [this];exact hv
 | _=>simp [mF] at hv
theorem UG {tb g:Bool}{n:Nat}{x v:lS}(hv:E7 tb g n h x=some v) (h2:lT) (ha:∀id,xR x=some id→qB h id→h2[id]?=h[id]?):E7 tb g n h2 x=some v:=by
 cases tb with
 | false=>exact WM hv h2 ha
 | true =>
  simp only [E7,cond_true,L9] at hv;cases hv
theorem O8 (hrb:cx.rb=false) (he:pU o=false) (hb:evalOp cx o none ρ h kv kp=some r) :
  ∃v,kv v h=some r∧∀(h2:lT) (kv2 kp2:lS→lT→Option R),(∀id,vR cx o ρ=some id→qB h id→h2[id]?=h[id]?)→evalOp cx o none ρ h2 kv2 kp2=kv2 v h2:=by
 have key:∀{e:Option lS},(e.bind fun w=>kv w h)=some r→(∀h2 kv2 kp2,evalOp cx o none ρ h2 kv2 kp2=e.bind fun w=>kv2 w h2) →
   ∃v,kv v h=some r∧∀(h2:lT) (kv2 kp2:lS→lT→Option R),(∀id,vR cx o ρ=some id→qB h id→h2[id]?=h[id]?)→evalOp cx o none ρ h2 kv2 kp2=kv2 v h2:=by
  intro e h1 h2
  obtain⟨v,hv,hk⟩:=ac6.1 h1
  exact⟨v,hk,fun a b c _=>by rw [h2,hv];rfl⟩
 have key0:∀{v:lS},kv v h=some r→(∀h2 kv2 kp2,evalOp cx o none ρ h2 kv2 kp2=kv2 v h2) →
   ∃v,kv v h=some r∧∀(h2:lT) (kv2 kp2:lS→lT→Option R),(∀id,vR cx o ρ=some id→qB h id→h2[id]?=h[id]?)→evalOp cx o none ρ h2 kv2 kp2=kv2 v h2 :=
  fun h1 h2=>⟨_,h1,fun a b c _=>h2 a b c⟩
 unfold evalOp oG at hb
 cases ho:o.op with
 | load t a =>
  simp only [ho] at hb
  split at hb
  ·rename_i g n hg hn
   obtain⟨v,hv,hk⟩:=ac6.1 hb
   rw [hrb,Bool.false_and,cond_false] at hk
   refine⟨v,hk,fun h2 kv2 kp2 ha=>?_⟩
   have:=UG hv h2 fun id hid hblk=>ha id (by simp [vR,tN,ho,hid]) hblk
   simp only [evalOp,oG,ho,hg,hn,this,ak6,hrb,Bool.false_and,cond_false]
  ·cases hb
 | lookup t m k ok =>
  simp only [ho] at hb
  split at hb
  ·rename_i kt e hu
   split at hb
   ·rename_i d z hd hz
    cases hf:rO d (qV cx.A ρ k) with
    | false=>rw [hf] at hb;cases hb
    | true =>
     rw [hf] at hb
     cases hb
   ·cases hb
  ·cases hb
 | call c =>
  simp only [pU,ho] at he
  simp only [ho] at hb
  cases hc:c.callee with
  | builtin b =>
   simp only [hc] at hb he
   unfold qR at hb
   split at hb
   ·rename_i t x hT hA
    split at hb
    ·rename_i ht;exact key0 hb fun _ _ _=>by simp only [evalOp,oG,ho,hc,qR,hT,hA,ht]
    ·rename_i ht;exact key hb fun _ _ _=>by simp only [evalOp,oG,ho,hc,qR,hT,hA,ht]
    ·rename_i ht;exact key hb fun _ _ _=>by simp only [evalOp,oG,ho,hc,qR,hT,hA,ht]
    ·cases hb
   ·rename_i hA;exact key hb fun _ _ _=>by simp only [evalOp,oG,ho,hc,qR,hA]
   ·rename_i hA;exact key hb fun _ _ _=>by simp only [evalOp,oG,ho,hc,qR,hA]
   ·rename_i hA;exact key hb fun _ _ _=>by simp only [evalOp,oG,ho,hc,qR,hA]
   ·rename_i hA;exact key hb fun _ _ _=>by simp only [evalOp,oG,ho,hc,qR,hA]
   ·simp at he
   ·simp at he
   ·simp at he
   ·simp at he
   ·cases hb
  | value f=>simp [hc] at he
  | _=>simp [hc] at he
 | binOp op t x y yt =>
  simp only [ho] at hb
  split at hb
  ·rename_i fs hu
   split at hb
   ·rename_i ks hks
    obtain⟨v,hv,hk⟩:=ac6.1 hb
    exact⟨_,hk,fun a b c _=>by simp [evalOp,oG,ho,hu,hks,hv]⟩
   ·cases hb
  ·rename_i fs hu
   split at hb
   ·rename_i ks hks
    obtain⟨v,hv,hk⟩:=ac6.1 hb
    exact⟨_,hk,fun a b c _=>by simp [evalOp,oG,ho,hu,hks,hv]⟩
   ·cases hb
  all_goals first
   | exact key hb fun _ _ _=>by simp [evalOp,oG, *]
   | cases hb
 | assign x =>
  simp only [ho,pU] at he hb
  simp only [he,cond_false] at hb
  exact key0 hb fun _ _ _=>by simp only [evalOp,oG,ho,he,cond_false]
 | makeInterface t x =>
  simp only [ho] at hb
  split at hb
  ·cases hb
  ·exact key0 hb fun _ _ _=>by simp [evalOp,oG, *]
  ·cases hb
 | nilCheck x =>
  simp only [ho] at hb
  split at hb
  ·rename_i hu;exact key hb fun _ _ _=>by simp only [evalOp,oG,ho,hu]
  ·rename_i hu
   refine key hb fun a b c=>?_
   simp only [evalOp,oG,ho]
 | makeFunc b first cap =>
  cases b with
  | method n =>
   simp only [ho] at hb
   split at hb
   ·rename_i x hx
    split at hb
    ·rename_i tt w0 hw;exact key0 hb fun _ _ _=>by simp only [evalOp,oG,ho,hx,hw]
    ·cases hb
   ·cases hb
  | _ =>
   simp only [ho] at hb
   first
    | exact key0 hb fun _ _ _=>by simp only [evalOp,oG,ho]
    | cases hb
 | slice t x lo hi mx =>
  cases mx with
  | some m=>simp only [ho] at hb;cases hb
  | none =>
   simp only [ho] at hb
   split at hb
   ·exact key hb fun _ _ _=>by simp [evalOp,oG, *]
   ·split at hb
    ·exact key hb fun _ _ _=>by simp [evalOp,oG, *]
    ·cases hb
   ·split at hb
    ·exact key hb fun _ _ _=>by simp [evalOp,oG, *]
    ·cases hb
   ·cases hb
 | typeAssert x xt t ok =>
  cases ok with
  | false=>simp only [ho] at hb;cases hb
  | true =>
   simp only [ho] at hb
   split at hb
   ·cases hb
   ·split at hb
    ·exact key hb fun _ _ _=>by simp only [evalOp,oG, *]
    ·cases hb
   ·cases hb
 | move x =>
  simp only [ho] at hb
  exact key0 hb fun _ _ _=>by simp only [evalOp,oG,ho]
 | fieldAddr t x f =>
  simp only [ho] at hb
  split at hb
  ·split at hb
   ·split at hb
    ·exact key hb fun _ _ _=>by simp [evalOp,oG, *]
    ·cases hb
   ·cases hb
  ·cases hb
 | field t x f =>
  simp only [ho] at hb
  split at hb
  ·split at hb
   ·split at hb
    ·exact key hb fun _ _ _=>by simp [evalOp,oG, *]
    ·cases hb
   ·cases hb
  ·cases hb
 | indexAddr t x i =>
  simp only [ho] at hb
  split at hb
  ·split at hb
   ·exact key hb fun _ _ _=>by simp [evalOp,oG, *]
   ·cases hb
  ·split at hb
   ·exact key hb fun _ _ _=>by simp [evalOp,oG, *]
   ·cases hb
  ·cases hb
 | index t x i =>
  simp only [ho] at hb
  split at hb
  ·exact key hb fun _ _ _=>by simp [evalOp,oG, *]
  ·split at hb
   ·exact key hb fun _ _ _=>by simp [evalOp,oG, *]
   ·cases hb
  ·cases hb
 | convert t t' x =>
  simp only [ho] at hb
  split at hb
  ·exact key hb fun _ _ _=>by simp [evalOp,oG, *]
  ·split at hb
   ·exact key hb fun _ _ _=>by simp [evalOp,oG, *]
   ·cases hb
  ·cases hb
 | build t parts =>
  simp only [ho] at hb
  have kb:∀{j:Bool}{e:Option lS},(bif j then none else e.bind fun w=>kv w h)=some r→(∀h2 kv2 kp2,evalOp cx o none ρ h2 kv2 kp2=bif j then none else e.bind fun w=>kv2 w h2) →
    ∃v,kv v h=some r∧∀(h2:lT) (kv2 kp2:lS→lT→Option R),(∀id,vR cx o ρ=some id→qB h id→h2[id]?=h[id]?)→evalOp cx o none ρ h2 kv2 kp2=kv2 v h2:=by
   intro j e h1 h2
   cases j with
   | true=>cases h1
   | false=>exact key h1 h2
  split at hb
  ·split at hb
   ·exact kb hb fun _ _ _=>by simp only [evalOp,oG, *]
   ·cases hb
  ·split at hb
   ·exact kb hb fun _ _ _=>by simp only [evalOp,oG, *]
   ·cases hb
  ·cases hb
 | _ =>
  simp only [ho,pU] at he
  simp only [ho] at hb
  first
   | exact key hb fun _ _ _=>by simp only [evalOp,oG,ho]
   | cases hb
   | (simp at he;done)
theorem x6 {t:Tmp}:t∈zG ops o↔t∈vP o∨ak8 ops o=some t:=by simp [zG,eq_comm]
theorem zW (hag:∀t∈vP o,ρ'.getD t .junk=ρ.getD t .junk):oF cx o ids ρ' h kv kp=oF cx o ids ρ h kv kp:=by
 unfold oF
 cases cx.ck with
 | true=>exact AA hag
 | false=>exact AA hag
theorem Ir (hag:∀t∈zG ops o,ρ'.getD t .junk=ρ.getD t .junk):rY cx ops o ids ρ' h kv kp=rY cx ops o ids ρ h kv kp:=by
 have h1:oF cx o ids ρ' h kv kp=oF cx o ids ρ h kv kp:=zW fun t ht=>hag t (x6.2 (.inl ht))
 simp only [yL]
 unfold xK
 cases hg:o.guard with
 | none=>exact h1
 | some jw =>
  obtain⟨j,want⟩:=jw
  simp only []
  cases hd:(ops[j]?).bind (·.dst) with
  | none=>rfl
  | some d =>
   simp only []
   rw [hag d (x6.2 (.inr (by simp [ak8,hg,hd]))),h1]
theorem Dj (hrb:cx.rb=false) (he:pU o=false) (hb:rY cx ops o [] ρ h kv kp=some r) :
  ∃v,kv v h=some r∧∀(h2:lT) (kv2 kp2:lS→lT→Option R),(∀id,vR cx o ρ=some id→qB h id→h2[id]?=h[id]?)→rY cx ops o [] ρ h2 kv2 kp2=kv2 v h2:=by
 have key:∀(hb:oF cx o [] ρ h kv kp=some r),
   ∃v,kv v h=some r∧∀(h2:lT) (kv2 kp2:lS→lT→Option R),(∀id,vR cx o ρ=some id→qB h id→h2[id]?=h[id]?)→oF cx o [] ρ h2 kv2 kp2=kv2 v h2:=by
  intro hb
  unfold oF at hb ⊢
  cases hc:cx.ck with
  | true =>
   rw [hc] at hb
   obtain⟨v,h1,h2⟩:=O8 hrb he hb
   exact⟨v,h1,fun h3 kv2 kp2 ha=>h2 h3 _ _ ha⟩
  | false =>
   rw [hc] at hb
   obtain⟨v,h1,h2⟩:=O8 hrb he hb
   exact⟨v,h1,fun h3 kv2 kp2 ha=>h2 h3 _ _ ha⟩
 simp only [yL] at hb ⊢
 unfold xK at hb ⊢
 cases hg:o.guard with
 | none=>simp only [hg] at hb ⊢;exact key hb
 | some jw =>
  obtain⟨j,want⟩:=jw
  simp only [hg] at hb ⊢
  cases hd:(ops[j]?).bind (·.dst) with
  | none=>simp only [hd] at hb;cases hb
  | some d =>
   simp only [hd] at hb ⊢
   generalize ρ.getD d .junk=x at hb ⊢
   split at hb
   ·rename_i g
    cases want <;> cases g <;> simp only [cond_true,cond_false] at hb ⊢
    ·exact key hb
    ·exact⟨_,hb,fun _ _ _ _=>rfl⟩
    ·exact⟨_,hb,fun _ _ _ _=>rfl⟩
    ·exact key hb
   ·exact⟨_,hb,fun _ _ _ _=>rfl⟩
   ·cases hb
theorem D5 {dst:Option Tmp}{v:lS}{t:Tmp}(hne:∀d,dst=some d→d≠t):(p7 ρ dst v).getD t .junk=ρ.getD t .junk:=by
 cases dst with
 | none=>rfl
 | some d=>simp [p7,ah6,List.getElem?_set,hne d rfl]
theorem Nu {x y:Option Tmp}{u v:lS}(hne:∀d,x=some d→y≠some d):p7 (p7 ρ x u) y v=p7 (p7 ρ y v) x u:=by
 cases x with
 | none=>rfl
 | some d=>cases y with
  | none=>rfl
  | some e=>exact List.set_comm _ _ (fun he=>hne d rfl (by rw [he]))
theorem Fw {d:Option Tmp}{ts:List Tmp}(hd:YT d ts=true):∀t∈ts,∀e,d=some e→e≠t:=by
 rintro t ht e rfl rfl
 simp [YT] at hd
 exact hd ht
theorem OJ {x y:Oper}(ha:Mc ops x y=true) :
  (∀t∈zG ops y,∀d,x.dst=some d→d≠t)∧(∀t∈zG ops x,∀d,y.dst=some d→d≠t)∧(∀d,x.dst=some d→y.dst≠some d):=by
 simp only [Mc,aq1] at ha
 refine⟨Fw ha.1.1,Fw ha.1.2,fun d hd he=>?_⟩
 exact Fw ha.2 d (by simp [he]) d hd rfl
theorem UK {id n:Nat}{v:lS}{x:lS×lT}(hx:wK id n h v=some x):∃b,h[id]?=some .free∧x=(.ptr id 0,h.set id b)∧∀h2:lT,h2[id]?=some .free→wK id n h2 v=some (.ptr id 0,h2.set id b):=by
 unfold wK at hx
 simp only [] at hx
 split at hx
 ·rename_i hf
  split at hx
  ·rename_i hc
   cases hx
   refine⟨_,hf,rfl,fun h2 h3=>?_⟩
   unfold wK
   simp only [h3]
   rw [if_pos hc]
  ·cases hx
 ·cases hx
theorem E4 {id len sz:Nat}{zero:List lS}{parts:List (Nat×lS)}{x:lS×lT}(hx:qN id len sz zero parts h=some x) :
  ∃b,h[id]?=some .free∧x=(x.1,h.set id b)∧∀h2:lT,h2[id]?=some .free→qN id len sz zero parts h2=some (x.1,h2.set id b):=by
 unfold qN at hx
 split at hx
 ·rename_i rows hf hr
  cases hx
  refine⟨_,hf,rfl,fun h2 h3=>?_⟩
  unfold qN
  simp only [h3,hr]
 ·cases hx
theorem IA {id:Nat}(he:rL o=true) (hb:evalOp cx o (some id) ρ h kv kp=some r) :
  ∃v b,h[id]?=some .free∧kv v (h.set id b)=some r∧∀(h2:lT) (kv2 kp2:lS→lT→Option R),h2[id]?=some .free→evalOp cx o (some id) ρ h2 kv2 kp2=kv2 v (h2.set id b):=by
 have K1:∀{n:Nat}{v:lS},mC (wK id n h v) kv=some r→∃u b,h[id]?=some .free∧kv u (h.set id b)=some r∧∀(h2:lT) (kv2:lS→lT→Option R),h2[id]?=some .free→mC (wK id n h2 v) kv2=kv2 u (h2.set id b):=by
  intro n v hv
  unfold mC at hv
  obtain⟨x,hx,hk⟩:=ac6.1 hv
  obtain⟨b,h1,rfl,h3⟩:=UK hx
  exact⟨_,b,h1,hk,fun h2 kv2 hf=>by rw [h3 h2 hf];rfl⟩
 have K2:∀{len sz:Nat}{zero:List lS}{parts:List (Nat×lS)},mC (qN id len sz zero parts h) kv=some r →
   ∃u b,h[id]?=some .free∧kv u (h.set id b)=some r∧∀(h2:lT) (kv2:lS→lT→Option R),h2[id]?=some .free→mC (qN id len sz zero parts h2) kv2=kv2 u (h2.set id b):=by
  intro len sz zero parts hv
  unfold mC at hv
  obtain⟨x,hx,hk⟩:=ac6.1 hv
  obtain⟨b,h1,h2,h3⟩:=E4 hx
  refine⟨x.1,b,h1,?_,fun h2 kv2 hf=>by rw [h3 h2 hf];rfl⟩
  rw [h2] at hk;exact hk
 unfold rL at he
 simp only [aq1] at he
 have he:=he.2
 unfold evalOp oG at hb ⊢
 split at he
 ·rename_i t ho
  simp only [ho] at hb ⊢
  split at hb
  ·rename_i n z hn hz
   obtain⟨u,b,e1,e2,e3⟩:=K1 hb
   refine⟨u,b,e1,e2,fun h2 kv2 kp2 hf=>?_⟩
   exact e3 h2 kv2 hf
  ·cases hb
 ·rename_i t x ho
  simp only [ho] at hb ⊢
  split at hb
  ·rename_i n hn
   obtain⟨u,b,e1,e2,e3⟩:=K1 hb
   refine⟨u,b,e1,e2,fun h2 kv2 kp2 hf=>?_⟩
   exact e3 h2 kv2 hf
  ·cases hb
 ·rename_i t len parts ho
  simp only [ho] at hb ⊢
  split at hb
  ·rename_i e hel
   split at hb
   ·rename_i n z hn hz
    cases hj:(n == 0 || z.o7 || decide (len*n > 16777216)) with
    | true=>rw [hj] at hb;cases hb
    | false =>
     rw [hj] at hb
     obtain⟨u,b,e1,e2,e3⟩:=K2 hb
     refine⟨u,b,e1,e2,fun h2 kv2 kp2 hf=>?_⟩
     exact e3 h2 kv2 hf
   ·cases hb
  ·cases hb
 ·cases he
theorem KI (he:rL o=true):pU o=true:=by
 unfold rL at he
 simp only [aq1] at he
 have he:=he.2
 split at he
 ·rename_i ho;simp [pU,ho]
 ·rename_i ho;simp [pU,ho]
 ·rename_i ho;simp [pU,ho]
 ·cases he
theorem OO (he:u6 o=true):pU o=true:=by
 unfold u6 at he
 simp only [aq1] at he
 have he:=he.2
 split at he
 ·rename_i c ho
  simp only [pU,ho]
  cases hc:c.callee with
  | value f=>rfl
  | _=>simp [hc] at he
 ·cases he
theorem QV {m:Nat}(hb:vV cx o m ids ρ h kv=some r) :
  ∃v t,t.length=m∧kv v (t++h.drop m)=some r∧∀(h2:lT) (kv2:lS→lT→Option R),h2.take m=h.take m→vV cx o m ids ρ h2 kv2=kv2 v (t++h2.drop m):=by
 unfold vV at hb ⊢
 cases hs:(h.take m).all (vU m) with
 | false=>rw [hs] at hb;cases hb
 | true =>
  rw [hs] at hb
  simp only [cond_true] at hb
  obtain⟨r0,h1,h2⟩:=ac6.1 hb
  unfold U4 at h2
  split at h2
  ·rename_i v t
   cases hl:t.length == m with
   | false=>rw [hl] at h2;cases h2
   | true =>
    rw [hl] at h2
    refine⟨v,t,by simpa using hl,h2,fun h3 kv2 he=>?_⟩
    rw [he,hs,h1]
    simp only [cond_true,ak6,U4,hl]
  ·cases h2
theorem tZ {m:Nat}{it:Item}(hag:∀t∈zG ops it.o,ρ'.getD t .junk=ρ.getD t .junk):oV cx ops m it ids ρ' h kv kp=oV cx ops m it ids ρ h kv kp:=by
 have hop:∀t∈vP it.o,ρ'.getD t .junk=ρ.getD t .junk:=fun t ht=>hag t (x6.2 (.inl ht))
 have hsh:∀t∈vP it.o,(ρ'.map (BW m)).getD t .junk=(ρ.map (BW m)).getD t .junk:=by
  intro t ht
  have h0:∀l:List lS,(l.map (BW m)).getD t .junk=BW m (l.getD t .junk):=by
   intro l
   rw [ah6,ah6,ak4]
   cases l[t]? <;> rfl
  rw [h0,h0,hop t ht]
 unfold oV
 cases it.rsv with
 | some j=>simp only [];rw [AA hop]
 | none =>
  simp only []
  rw [Ir hag]
  cases it.hid with
  | false=>rfl
  | true =>
   simp only [cond_true,vV]
   rw [zW hsh]
def Wp (it:Item) (m:Nat) (ids:List Nat) (h h':lT):Prop :=
 (pU it.o=false→h'=h)∧(∀id∈ids,qB h id→h'[id]?=h[id]?) ∧
 (∀j,it.rsv=some j→∃b,h[m+j]?=some .free∧h'=h.set (m+j) b) ∧
 (it.rsv=none→it.hid=true→∃t,t.length=m∧h'=t++h.drop m)
theorem AQ (hag:∀t∈vP o,ρ'.getD t .junk=ρ.getD t .junk):seenAt cx.A o ρ'=seenAt cx.A o ρ:=by
 unfold seenAt
 cases hr:tN o with
 | none=>rfl
 | some x =>
  refine Ig hag ?_
  unfold tN at hr
  split at hr
  ·rename_i ho;cases hr;simp [ho,Op.operands]
  ·rename_i ho;cases hr;simp [ho,Op.operands]
  ·cases hr
theorem Su {id:Nat}(hf:h[id]?=some .free):¬qB h id:=by
 rintro(⟨_,h1⟩ | ⟨_,h1⟩ | ⟨_,_,_,h1⟩ | ⟨_,_,h1⟩) <;> rw [hf] at h1 <;> cases h1
theorem Pf (hrb:cx.rb=false) (he:pU o=false) (hr:tN o=none) (hb:rY cx ops o [] ρ h kv kp=some r) :
  ∃v,kv v h=some r∧∀(h2:lT) (kv2 kp2:lS→lT→Option R),rY cx ops o [] ρ h2 kv2 kp2=kv2 v h2:=by
 obtain⟨v,h1,h2⟩:=Dj hrb he hb
 exact⟨v,h1,fun h3 kv2 kp2=>h2 h3 kv2 kp2 fun id hid=>by simp [vR,hr] at hid⟩
theorem ZI (hrb:cx.rb=false) {m:Nat}{it:Item}{T:lT→lT}
  (hT:(it.rsv≠none)∨(it.rsv=none∧it.hid=true∧(T h).take m=h.take m∧∀t:lT,t.length=m→T (t++h.drop m)=t++(T h).drop m)∨(it.rsv=none∧it.hid=false∧pU it.o=false∧tN it.o=none))
  (hlocks:pU it.o=false→ids=[])
  (hset:∀j,it.rsv=some j→(T h)[m+j]?=h[m+j]?∧∀b,T (h.set (m+j) b)=(T h).set (m+j) b)
  (hb:oV cx ops m it ids ρ (T h) kv kp=some r):oV cx ops m it ids ρ h (fun v h'=>kv v (T h')) kp=some r:=by
 unfold oV at hb ⊢
 cases hr:it.rsv with
 | some j =>
  simp only [hr] at hb ⊢
  cases hf:rL it.o with
  | false=>rw [hf] at hb;cases hb
  | true =>
   rw [hf] at hb
   simp only [cond_true] at hb ⊢
   obtain⟨v,b,h1,h2,h3⟩:=IA hf hb
   obtain⟨h4,h5⟩:=hset j hr
   rw [h3 h _ _ (h4 ▸ h1),h5]
   exact h2
 | none =>
  simp only [hr] at hb ⊢
  rcases hT with hT | ⟨_,hh,ht,hd⟩ | ⟨_,hh,he,hrd⟩
  ·exact absurd hr hT
  ·rw [hh] at hb ⊢
   simp only [cond_true] at hb ⊢
   cases hf:u6 it.o with
   | false=>rw [hf] at hb;cases hb
   | true =>
    rw [hf] at hb
    simp only [cond_true] at hb ⊢
    obtain⟨v,t,h1,h2,h3⟩:=QV hb
    rw [h3 h _ ht.symm,hd t h1]
    exact h2
  ·rw [hh] at hb ⊢
   simp only [cond_false] at hb ⊢
   rw [hlocks he] at hb ⊢
   obtain⟨v,h1,h2⟩:=Pf hrb he hrd hb
   rw [h2]
   exact h1
theorem move (hrb:cx.rb=false) {m:Nat}{k:List lS→lT→Option R}(it:Item) (post:List Item) (hil:pU it.o=false→it.locks=[]) (hie:it.rsv≠none∨it.hid=true→pU it.o=true):∀(pre:List Item) (seen ρ:List lS) (h:lT),
  (∀p∈pre,indep ops p it=true∧p.i≠it.i∧p.i<seen.length)→(pre.map (·.i)).Nodup →
  oZ cx ops m (pre++it::post) seen ρ h k kp=some r →
  ∃ids kv,oV cx ops m it ids ρ h kv kp=some r∧(∀j∈it.locks,(∀p∈pre,p.i≠j)→∀id,xR (seen.getD j .junk)=some id→id∈ids)∧(pU it.o=false→ids=[]) ∧
   ∀v h',Wp it m ids h h'→kv v h'=some r→oZ cx ops m (pre++post) (seen.set it.i (seenAt cx.A it.o ρ)) (p7 ρ it.o.dst v) h' k kp=some r:=by
 intro pre
 induction pre with
 | nil =>
  intro seen ρ h _ _ hb
  simp only [List.nil_append,oZ,vM] at hb
  refine⟨_,_,hb,fun j hj _ id hid=>?_,fun he=>by simp [mX,hil he],fun v h' _ hk=>hk⟩
  exact List.mem_filterMap.2 ⟨j,hj,hid⟩
 | cons p pre ih =>
  intro seen ρ h hpre hnd hb
  obtain⟨hind,hne,hlt⟩:=hpre p (by simp)
  have hpl:p.rsv≠none∨p.locks=[]:=by
   cases hr:p.rsv with
   | some j=>exact .inl (by simp)
   | none =>
    refine .inr ?_
    cases hir:it.rsv <;> cases hh:p.hid <;> simp [indep,hr,hir,hh] at hind
    ·exact hind.2.1.2
    ·exact hind.2.1
    ·exact hind.2.2
    ·exact hind.2
  have hap:Mc ops p.o it.o=true:=by simp only [indep,aq1] at hind;exact hind.1
  have hind2:=hind
  simp only [indep,hap,Bool.true_and] at hind2
  obtain⟨ha1,ha2,ha3⟩:=OJ hap
  simp only [as6,List.nodup_cons] at hnd
  have agI:∀(vp:lS),∀t∈zG ops it.o,(p7 ρ p.o.dst vp).getD t .junk=ρ.getD t .junk:=fun vp t ht=>D5 (ha1 t ht)
  have agO:∀(vp:lS),∀t∈vP it.o,(p7 ρ p.o.dst vp).getD t .junk=ρ.getD t .junk:=fun vp t ht=>agI vp t (x6.2 (.inl ht))
  have agP:∀(v:lS),∀t∈zG ops p.o,(p7 ρ it.o.dst v).getD t .junk=ρ.getD t .junk:=fun v t ht=>D5 (ha2 t ht)
  have agPO:∀(v:lS),∀t∈vP p.o,(p7 ρ it.o.dst v).getD t .junk=ρ.getD t .junk:=fun v t ht=>agP v t (x6.2 (.inl ht))
  have main:∀(idsP:List Nat) (vp:lS) (T:lT→lT),(p.rsv≠none∨(p.locks=[]∧idsP=[])) →
    oZ cx ops m (pre++it::post) (seen.set p.i (seenAt cx.A p.o ρ)) (p7 ρ p.o.dst vp) (T h) k kp=some r →
    (∀ids kv,(pU it.o=false→ids=[])→(∀j∈it.locks,(∀q∈pre,q.i≠j)→∀id,xR ((seen.set p.i (seenAt cx.A p.o ρ)).getD j .junk)=some id→id∈ids) →
     oV cx ops m it ids ρ (T h) kv kp=some r→oV cx ops m it ids ρ h (fun v h'=>kv v (T h')) kp=some r ∧
     ∀v h',Wp it m ids h h'→Wp it m ids (T h) (T h')∧∀kv2,oV cx ops m p (mX p.locks (seen.set it.i (seenAt cx.A it.o ρ))) (p7 ρ it.o.dst v) h' kv2 kp=kv2 vp (T h')) →
    ∃ids kv,oV cx ops m it ids ρ h kv kp=some r∧(∀j∈it.locks,(∀q∈p::pre,q.i≠j)→∀id,xR (seen.getD j .junk)=some id→id∈ids)∧(pU it.o=false→ids=[]) ∧
     ∀v h',Wp it m ids h h'→kv v h'=some r→oZ cx ops m (p::pre++post) (seen.set it.i (seenAt cx.A it.o ρ)) (p7 ρ it.o.dst v) h' k kp=some r:=by
   intro idsP vp T _ hnext hrun
   obtain⟨ids,kv,e1,e2,e3,e4⟩:=ih _ _ _ (fun q hq=>by
    have:=hpre q (by simp [hq])
    exact⟨this.1,this.2.1,by simpa using this.2.2⟩) hnd.2 hnext
   rw [tZ (agI vp)] at e1
   obtain⟨r1,r2⟩:=hrun ids kv e3 e2 e1
   refine⟨ids,_,r1,fun j hj hno id hid=>?_,e3,fun v h' hkeep hk=>?_⟩
   ·refine e2 j hj (fun q hq=>hno q (by simp [hq])) id ?_
    have:p.i≠j:=hno p (by simp)
    simpa [ah6,List.getElem?_set,this] using hid
   ·obtain⟨k1,k2⟩:=r2 v h' hkeep
    have e5:=e4 v (T h') k1 hk
    simp only [ax4,oZ,vM]
    rw [k2]
    rw [AQ (agPO v),Nu (ρ:=ρ) (x:=it.o.dst) (y:=p.o.dst) (fun d h1 h2=>ha3 d h2 h1),List.set_comm _ _ (Ne.symm hne),←AQ (agO vp)]
    exact e5
  simp only [ax4,oZ,vM] at hb
  cases hpr:p.rsv with
  | some a =>
   have hb':=hb
   unfold oV at hb'
   simp only [hpr] at hb'
   cases hf:rL p.o with
   | false=>rw [hf] at hb';cases hb'
   | true =>
    rw [hf] at hb'
    simp only [cond_true] at hb'
    obtain⟨vp,b,f1,f2,f3⟩:=IA hf hb'
    have hlen:m+a<h.length:=(ag0.1 f1).1
    have tk:∀x:lT,(x.set (m+a) b).take m=x.take m:=fun x=>List.take_set_of_le (by omega)
    have ts:∀t x:lT,t.length=m→(t++x.drop m).set (m+a) b=t++(x.set (m+a) b).drop m:=by
     intro t x ht
     rw [List.set_append_right _ _ (by omega),List.drop_set,if_neg (by omega),ht]
    refine main [] vp (fun x=>x.set (m+a) b) (.inl (by simp [hpr])) f2 fun ids kv he hl hrun=>⟨?_,fun v h' hk=>⟨?_,fun kv2=>?_⟩⟩
    ·refine ZI hrb ?_ he (fun j hj=>?_) hrun
     ·cases hir:it.rsv with
      | some j=>exact .inl (by simp)
      | none =>
       refine .inr ?_
       simp only [hpr,hir] at hind2
       cases hh:it.hid with
       | true=>exact .inl ⟨rfl,rfl,tk h,fun t ht=>ts t h ht⟩
       | false =>
        simp [hh] at hind2
        exact .inr ⟨rfl,rfl,hind2.1,hind2.2⟩
     ·simp only [hpr,hj,bne_iff_ne,ne_eq] at hind2
      exact⟨List.getElem?_set_ne (by omega),fun b'=>List.set_comm _ _ (by omega)⟩
    ·obtain⟨k1,k2,k3,k4⟩:=hk
     refine⟨fun he=>by rw [k1 he],fun id hid hbl=>?_,fun j hj=>?_,fun hr hh=>?_⟩
     ·by_cases hia:m+a=id
      ·subst hia
       by_cases h2:m+a<h'.length
       ·simp [List.getElem?_set,hlen,h2]
       ·exfalso
        cases hir:it.rsv with
        | some j=>obtain⟨b',_,rfl⟩:=k3 j hir;simp at h2;omega
        | none =>
         cases hh:it.hid with
         | true=>obtain⟨t,ht,rfl⟩:=k4 hir hh;simp at h2;omega
         | false =>
          simp only [hpr,hir,hh] at hind2
          simp at hind2
          rw [k1 hind2.1] at h2;exact h2 hlen
      ·rw [List.getElem?_set_ne hia,List.getElem?_set_ne hia]
       refine k2 id hid ?_
       unfold qB at hbl ⊢
       rwa [List.getElem?_set_ne hia] at hbl
     ·obtain⟨b',f4,rfl⟩:=k3 j hj
      simp only [hpr,hj,bne_iff_ne,ne_eq] at hind2
      exact⟨b',by rw [List.getElem?_set_ne (by omega)];exact f4,List.set_comm _ _ (by omega)⟩
     ·obtain⟨t,ht,rfl⟩:=k4 hr hh
      exact⟨t,ht,ts t h ht⟩
    ·have hfree:h'[m+a]?=some .free:=by
      obtain⟨k1,k2,k3,k4⟩:=hk
      cases hir:it.rsv with
      | some j =>
       obtain⟨b',f4,rfl⟩:=k3 j hir
       simp only [hpr,hir,bne_iff_ne,ne_eq] at hind2
       rw [List.getElem?_set_ne (by omega)];exact f1
      | none =>
       cases hh:it.hid with
       | true =>
        obtain⟨t,ht,rfl⟩:=k4 hir hh
        rw [ak0 (by omega),aq4,ht]
        rw [show m+(m+a-m)=m+a by omega];exact f1
       | false =>
        simp only [hpr,hir,hh] at hind2
        simp at hind2
        rw [k1 hind2.1];exact f1
     rw [tZ (agP v)]
     unfold oV
     simp only [hpr,hf,cond_true]
     exact f3 h' _ _ hfree
  | none =>
   have hlk:p.locks=[]:=hpl.resolve_left (by simp [hpr])
   cases hph:p.hid with
   | true =>
    have hb':=hb
    unfold oV at hb'
    simp only [hpr,hph,cond_true] at hb'
    cases hf:u6 p.o with
    | false=>rw [hf] at hb';cases hb'
    | true =>
     rw [hf] at hb'
     simp only [cond_true,hlk,mX,List.filterMap_nil] at hb'
     obtain⟨vp,t,f1,f2,f3⟩:=QV hb'
     have hkind:(∃j,it.rsv=some j)∨(it.rsv=none∧it.hid=false∧pU it.o=false∧tN it.o=none):=by
      cases hir:it.rsv with
      | some j=>exact .inl ⟨j,rfl⟩
      | none =>
       simp only [hpr,hir,hph] at hind2
       simp at hind2
       exact .inr ⟨rfl,hind2.2.1,hind2.2.2.1,hind2.2.2.2⟩
     refine main [] vp (fun x=>t++x.drop m) (.inr ⟨hlk,rfl⟩) f2 fun ids kv he hl hrun=>⟨?_,fun v h' hk=>⟨?_,fun kv2=>?_⟩⟩
     ·refine ZI hrb ?_ he (fun j hj=>⟨?_,fun b'=>?_⟩) hrun
      ·rcases hkind with ⟨j,hj⟩ | hk
       ·exact .inl (by simp [hj])
       ·exact .inr (.inr hk)
      ·rw [ak0 (by omega),aq4,f1,show m+(m+j-m)=m+j by omega]
      ·rw [List.set_append_right _ _ (by omega),List.drop_set,if_neg (by omega),f1]
     ·obtain⟨k1,k2,k3,k4⟩:=hk
      rcases hkind with ⟨j,hj⟩ | ⟨g1,g2,g3,g4⟩
      ·obtain⟨b',f4,rfl⟩:=k3 j hj
       have hie':=hie (.inl (by simp [hj]))
       have hlen:m+j<h.length:=(ag0.1 f4).1
       have e1:t++(h.set (m+j) b').drop m=(t++h.drop m).set (m+j) b':=by
        rw [List.set_append_right _ _ (by omega),List.drop_set,if_neg (by omega),f1]
       refine⟨fun he=>(by rw [hie'] at he;cases he),fun id hid hbl=>?_,fun j' hj'=>?_,fun hr=>(by rw [hj] at hr;cases hr)⟩
       ·rw [e1]
        refine List.getElem?_set_ne fun hji=>?_
        subst hji
        refine Su ?_ hbl
        rw [ak0 (by omega),aq4,f1,show m+(m+j-m)=m+j by omega]
        exact f4
       ·rw [hj] at hj';cases hj'
        refine⟨b',?_,e1⟩
        rw [ak0 (by omega),aq4,f1,show m+(m+j-m)=m+j by omega]
        exact f4
      ·have:=k1 g3
       subst this
       exact⟨fun _=>rfl,fun _ _ _=>rfl,fun j hj=>(by rw [g1] at hj;cases hj),fun _ hh=>(by rw [g2] at hh;cases hh)⟩
     ·have htake:h'.take m=h.take m:=by
       obtain⟨k1,k2,k3,k4⟩:=hk
       rcases hkind with ⟨j,hj⟩ | ⟨g1,g2,g3,g4⟩
       ·obtain⟨b',f4,rfl⟩:=k3 j hj
        exact List.take_set_of_le (by omega)
       ·rw [k1 g3]
      rw [tZ (agP v)]
      unfold oV
      simp only [hpr,hph,hf,cond_true,hlk,mX,List.filterMap_nil]
      exact f3 h' _ htake
   | false =>
    have hpe:pU p.o=false:=by
     cases hir:it.rsv <;> simp [hpr,hir,hph] at hind2
     ·exact hind2.1.1
     ·exact hind2.1
    have hb':=hb
    unfold oV at hb'
    simp only [hpr,hph,cond_false,hlk,mX,List.filterMap_nil] at hb'
    obtain⟨vp,hnext,hlight⟩:=Dj hrb hpe hb'
    refine main [] vp id (.inr ⟨hlk,rfl⟩) hnext fun ids kv he hl hrun=>⟨hrun,fun v h' hk=>⟨hk,fun kv2=>?_⟩⟩
    rw [tZ (agP v)]
    unfold oV
    simp only [hpr,hph,cond_false,hlk,mX,List.filterMap_nil]
    refine hlight h' _ _ fun id hid hblk=>?_
    obtain⟨k1,k2,k3,k4⟩:=hk
    cases hir:it.rsv with
    | some j =>
     obtain⟨b',f4,rfl⟩:=k3 j hir
     refine List.getElem?_set_ne fun hji=>?_
     subst hji
     exact Su f4 hblk
    | none =>
     cases hie2:pU it.o with
     | false=>rw [k1 hie2]
     | true =>
      refine k2 id ?_ hblk
      have hrd:(tN p.o).isSome=true:=by
       unfold vR at hid
       cases hr:tN p.o with
       | none=>simp [hr] at hid
       | some x=>rfl
      simp only [hpr,hir,hph,cond_false,aq1,Bool.or_eq_true] at hind2
      have hmem:p.i∈it.locks:=by
       rcases hind2.2 with (h1 | h1) | h1
       ·simp [hrd] at h1
       ·simp [hie2] at h1
       ·simpa using h1
      refine hl p.i hmem (fun q hq he=>hnd.1 (au6.2 ⟨q,hq,he⟩)) id ?_
      have:(seen.set p.i (seenAt cx.A p.o ρ)).getD p.i .junk=seenAt cx.A p.o ρ:=by simp [ah6,hlt]
      rw [this]
      unfold vR at hid
      unfold seenAt
      cases hr:tN p.o with
      | none=>simp [hr] at hid
      | some x=>simpa [hr] using hid
end
end
section
open Go Go.RowKit
structure Sub (h h':lT):Prop where
 live:∀id,Hk.live h id→Hk.live h' id
 front:∀(id n sz t:Nat),h[id]?=some (.front n sz t)→h'[id]?=some (.front n sz t)
 nf:∀id,tH h id→tH h' id
theorem mJ.sub {G:Gh}{h h':lT}(s:Sub h h') {v:lS}{V:Value}(r:mJ G h v V):mJ G h' v V:=by
 induction r with
 | p v V hp=>exact .p v V hp
 | agg cs C hl _ ih=>exact .agg cs C hl ih
 | tuple cs C hl _ ih=>exact .tuple cs C hl ih
 | nil=>exact .nil
 | own rows id n sz V hp hf hn hr hc=>exact .own rows id n sz V hp (s.front _ _ _ _ hf) hn hr hc
 | ownv id V hp hb=>exact .ownv id V hp (s.nf _ hb)
 | vslice id tot off len sz b cap hl ht hc hv=>exact .vslice id tot off len sz b cap (s.nf _ hl) ht hc hv
 | vptr id tot off b hl ht hv=>exact .vptr id tot off b (s.nf _ hl) ht hv
 | ptr id off hl=>exact .ptr id off (s.live _ hl)
 | mslice id off len sz cap hl hc=>exact .mslice id off len sz cap (s.live _ hl) hc
 | mslice0 id off sz cap a=>exact .mslice0 id off sz cap a
 | map id hl=>exact .map id (s.live _ hl)
 | func f first cap F C hlf hlc _ _ ihf ihc=>exact .func f first cap F C hlf hlc ihf ihc
 | iface t v V _ ih=>exact .iface t v V ih
theorem qB.nf {h:lT}{id:Nat}(hb:qB h id):∃b,h[id]?=some b∧b≠.free∧∀n sz t,b≠.front n sz t:=by
 rcases hb with ⟨cs,hc⟩ | ⟨es,hc⟩ | ⟨t,s,cs,hc⟩ | ⟨t,cs,hc⟩ <;> exact⟨_,hc,by simp,by simp⟩
theorem U5 (h:lT) (a id:Nat):(qB h a∧a=id∧(uM h a)[id]?=some .gone)∨(¬(qB h a∧a=id)∧(uM h a)[id]?=h[id]?):=by
 unfold uM
 cases hb:h[a]? with
 | none=>exact .inr ⟨fun hh=>(by obtain⟨⟨_,h1⟩ | ⟨_,h1⟩ | ⟨_,_,_,h1⟩ | ⟨_,_,h1⟩,_⟩:=hh <;> rw [hb] at h1 <;> cases h1),rfl⟩
 | some b =>
  have hlt:a<h.length:=(ag0.1 hb).1
  cases b with
  | cells cs =>
   by_cases ha:a=id
   ·subst ha;exact .inl ⟨.inl ⟨_,hb⟩,rfl,by simp [hlt]⟩
   ·exact .inr ⟨fun h=>ha h.2,by simp [List.getElem?_set,ha]⟩
  | map es =>
   by_cases ha:a=id
   ·subst ha;exact .inl ⟨.inr (.inl ⟨_,hb⟩),rfl,by simp [hlt]⟩
   ·exact .inr ⟨fun h=>ha h.2,by simp [List.getElem?_set,ha]⟩
  | vec t s cs =>
   by_cases ha:a=id
   ·subst ha;exact .inl ⟨.inr (.inr (.inl ⟨_,_,_,hb⟩)),rfl,by simp [hlt]⟩
   ·exact .inr ⟨fun h=>ha h.2,by simp [List.getElem?_set,ha]⟩
  | tcells t cs =>
   by_cases ha:a=id
   ·subst ha;exact .inl ⟨.inr (.inr (.inr ⟨_,_,hb⟩)),rfl,by simp [hlt]⟩
   ·exact .inr ⟨fun h=>ha h.2,by simp [List.getElem?_set,ha]⟩
  | _=>exact .inr ⟨fun hh=>(by obtain⟨⟨_,h1⟩ | ⟨_,h1⟩ | ⟨_,_,_,h1⟩ | ⟨_,_,h1⟩,_⟩:=hh <;> rw [hb] at h1 <;> cases h1),rfl⟩
theorem xY (ids:List Nat):∀(h:lT) (id:Nat),(id∈ids∧qB h id∧(rZ ids h)[id]?=some .gone)∨(¬(id∈ids∧qB h id)∧(rZ ids h)[id]?=h[id]?):=by
 induction ids with
 | nil=>intro h id;exact .inr ⟨by simp,rfl⟩
 | cons a ids ih =>
  intro h id
  have hc:(rZ (a::ids) h)=rZ ids (uM h a):=rfl
  rw [hc]
  rcases U5 h a id with ⟨h1,rfl,h3⟩ | ⟨h1,h2⟩
  ·rcases ih (uM h a) a with ⟨h4,h5,h6⟩ | ⟨h4,h5⟩
   ·exact .inl ⟨by simp,h1,h6⟩
   ·exact .inl ⟨by simp,h1,h5.trans h3⟩
  ·have hb:qB (uM h a) id↔qB h id:=by unfold qB;rw [h2]
   rcases ih (uM h a) id with ⟨h4,h5,h6⟩ | ⟨h4,h5⟩
   ·exact .inl ⟨by simp [h4],hb.1 h5,h6⟩
   ·refine .inr ⟨fun hh=>?_,h5.trans h2⟩
    rcases List.mem_cons.1 hh.1 with he | he
    ·exact h1 ⟨he ▸ hh.2,he.symm⟩
    ·exact h4 ⟨he,hb.2 hh.2⟩
theorem Qf (h r:lT) (a id:Nat) (hlt:qB h a→a<r.length):(qB h a∧a=id∧(rR h r a)[id]?=h[id]?)∨(¬(qB h a∧a=id)∧(rR h r a)[id]?=r[id]?):=by
 unfold rR
 cases hb:h[a]? with
 | none=>exact .inr ⟨fun hh=>(by obtain⟨⟨_,h1⟩ | ⟨_,h1⟩ | ⟨_,_,_,h1⟩ | ⟨_,_,h1⟩,_⟩:=hh <;> rw [hb] at h1 <;> cases h1),rfl⟩
 | some b =>
  cases b with
  | cells cs =>
   have:=hlt (.inl ⟨_,hb⟩)
   by_cases ha:a=id
   ·subst ha;exact .inl ⟨.inl ⟨_,hb⟩,rfl,by simp [this,hb]⟩
   ·exact .inr ⟨fun h=>ha h.2,by simp [List.getElem?_set,ha]⟩
  | map es =>
   have:=hlt (.inr (.inl ⟨_,hb⟩))
   by_cases ha:a=id
   ·subst ha;exact .inl ⟨.inr (.inl ⟨_,hb⟩),rfl,by simp [this,hb]⟩
   ·exact .inr ⟨fun h=>ha h.2,by simp [List.getElem?_set,ha]⟩
  | vec t s cs =>
   have:=hlt (.inr (.inr (.inl ⟨_,_,_,hb⟩)))
   by_cases ha:a=id
   ·subst ha;exact .inl ⟨.inr (.inr (.inl ⟨_,_,_,hb⟩)),rfl,by simp [this,hb]⟩
   ·exact .inr ⟨fun h=>ha h.2,by simp [List.getElem?_set,ha]⟩
  | tcells t cs =>
   have:=hlt (.inr (.inr (.inr ⟨_,_,hb⟩)))
   by_cases ha:a=id
   ·subst ha;exact .inl ⟨.inr (.inr (.inr ⟨_,_,hb⟩)),rfl,by simp [this,hb]⟩
   ·exact .inr ⟨fun h=>ha h.2,by simp [List.getElem?_set,ha]⟩
  | _=>exact .inr ⟨fun hh=>(by obtain⟨⟨_,h1⟩ | ⟨_,h1⟩ | ⟨_,_,_,h1⟩ | ⟨_,_,h1⟩,_⟩:=hh <;> rw [hb] at h1 <;> cases h1),rfl⟩
theorem JP (h r:lT) (a:Nat):(rR h r a).length=r.length:=by
 unfold rR;split <;> simp
theorem Te (h:lT) (ids:List Nat):∀(r:lT) (id:Nat),(∀a∈ids,qB h a→a<r.length) →
  (id∈ids∧qB h id∧(oD ids h r)[id]?=h[id]?)∨(¬(id∈ids∧qB h id)∧(oD ids h r)[id]?=r[id]?):=by
 induction ids with
 | nil=>intro r id _;exact .inr ⟨by simp,rfl⟩
 | cons a ids ih =>
  intro r id hlt
  have hc:oD (a::ids) h r=oD ids h (rR h r a):=rfl
  rw [hc]
  have ih':=ih (rR h r a) id fun b hb hbl=>by rw [JP];exact hlt b (by simp [hb]) hbl
  rcases Qf h r a id (hlt a (by simp)) with ⟨h1,rfl,h3⟩ | ⟨h1,h2⟩
  ·rcases ih' with ⟨h4,h5,h6⟩ | ⟨h4,h5⟩
   ·exact .inl ⟨by simp,h1,h6⟩
   ·exact .inl ⟨by simp,h1,h5.trans h3⟩
  ·rcases ih' with ⟨h4,h5,h6⟩ | ⟨h4,h5⟩
   ·exact .inl ⟨by simp [h4],h5,h6⟩
   ·refine .inr ⟨fun hh=>?_,h5.trans h2⟩
    rcases List.mem_cons.1 hh.1 with he | he
    ·exact h1 ⟨he ▸ hh.2,he.symm⟩
    ·exact h4 ⟨he,hh.2⟩
theorem O3 (ids:List Nat) (h:lT):Sub h (rZ ids h) where
 live:=fun id ⟨b,h1,h2⟩=>by
  rcases xY ids h id with ⟨_,_,h5⟩ | ⟨_,h5⟩
  ·exact⟨_,h5,by simp⟩
  ·exact⟨b,h5.trans h1,h2⟩
 front:=fun id n sz t hf=>by
  rcases xY ids h id with ⟨_,h4,_⟩ | ⟨_,h5⟩
  ·obtain⟨b,h6,_,h7⟩:=h4.nf;rw [hf] at h6;cases h6;exact absurd rfl (h7 _ _ _)
  ·exact h5.trans hf
 nf:=fun id ⟨b,h1,h2,h3⟩=>by
  rcases xY ids h id with ⟨_,_,h5⟩ | ⟨_,h5⟩
  ·exact⟨_,h5,by simp,by simp⟩
  ·exact⟨b,h5.trans h1,h2,h3⟩
theorem s5 {G:Gh}{ids:List Nat}{h:lT}{id b:Nat}(ho:owner G (rZ ids h) id=some b):owner G h id=some b∧¬(id∈ids∧qB h id):=by
 rcases xY ids h id with ⟨_,_,h5⟩ | ⟨h4,h5⟩
 ·simp [owner,h5] at ho
 ·refine⟨?_,h4⟩
  unfold owner at *;rw [h5] at ho;exact ho
theorem wU.sub {G:Gh}{h h':lT}{w:World}{id:Nat}{bl:mT}(s:Sub h h') (b:wU G h w id bl):wU G h' w id bl:=by
 cases bl with
 | cells cs =>
  obtain⟨C,e,h1,h2,h3,h4⟩:=b
  exact⟨C,e,h1,h2,h3,fun i v hv=>⟨(h4 i v hv).1,(h4 i v hv).2.sub s⟩⟩
 | tcells t cs =>
  obtain⟨C,h1,h2,h3,h4⟩:=b
  exact⟨C,h1,h2,h3,fun i v hv=>⟨(h4 i v hv).1,(h4 i v hv).2.sub s⟩⟩
 | map es =>
  obtain⟨E,c,h1,h2,h3,h4,hst⟩:=b
  refine⟨E,c,h1,h2,h3,fun i kv hkv=>?_,hst⟩
  obtain⟨m,h5,h6,h7,h8⟩:=h4 i kv hkv
  exact⟨m,h5,h6,h7,h8.sub s⟩
 | vec t sz cs =>
  obtain⟨b',cap,C,e,g1,g2,g3,g4,g5,g6,g7,g8,g9⟩:=b
  exact⟨b',cap,C,e,g1,g2,g3,g4,g5,g6,g7,g8,fun i v hv=>⟨(g9 i v hv).1,(g9 i v hv).2.sub s⟩⟩
 | _=>exact b
theorem Inv.rZ {G:Gh}{h:lT}{w:World}(i:Inv G h w) (ids:List Nat):Inv G (rZ ids h) w where
 ok:=i.ok
 nY:=fun id bl hb=>by
  rcases xY ids h id with ⟨_,_,h5⟩ | ⟨h4,h5⟩
  ·rw [h5] at hb;cases hb;trivial
  ·exact(i.nY id bl (h5.symm.trans hb)).sub (O3 ids h)
 inj:=fun a b c h1 h2=>i.inj a b c (s5 h1).1 (s5 h2).1
theorem Lw {G G':Gh}{h h':lT}{w w':World}{ids:List Nat}(i:Inv G h w) (x:Ext G (Hk.rZ ids h) w G' h' w') (i':Inv G' h' w') :
  Ext G h w G' (oD ids h h') w'∧Inv G' (oD ids h h') w'∧Sub h' (oD ids h h')∧∀id∈ids,qB h id→(oD ids h h')[id]?=h[id]?:=by
 have gone:∀id,id∈ids→qB h id→h'[id]?=some .gone∧G'.nY id=G.nY id∧G'.cur id=G.cur id:=by
  intro id h1 h2
  rcases xY ids h id with ⟨_,_,h5⟩ | ⟨h4,_⟩
  ·obtain⟨bl,h6,h7⟩:=x.kinds id _ h5
   cases bl <;> simp_all [Kind]
  ·exact absurd ⟨h1,h2⟩ h4
 have get:=fun id=>Te h ids h' id fun a ha hb=>(ag0.1 (gone a ha hb).1).1
 have sub:Sub h' (oD ids h h'):=by
  refine⟨fun id ⟨b,h1,h2⟩=>?_,fun id n sz t hf=>?_,fun id ⟨b,h1,h2,h3⟩=>?_⟩
  ·rcases get id with ⟨_,h4,h5⟩ | ⟨_,h5⟩
   ·obtain⟨b',h6,h7,_⟩:=h4.nf
    exact⟨b',h5.trans h6,h7⟩
   ·exact⟨b,h5.trans h1,h2⟩
  ·rcases get id with ⟨h3,h4,_⟩ | ⟨_,h5⟩
   ·rw [(gone id h3 h4).1] at hf;cases hf
   ·exact h5.trans hf
  ·rcases get id with ⟨_,h4,h5⟩ | ⟨_,h5⟩
   ·obtain⟨b',h6,h7,h8⟩:=h4.nf
    exact⟨b',h5.trans h6,h7,h8⟩
   ·exact⟨b,h5.trans h1,h2,h3⟩
 have own:∀id b,owner G' (oD ids h h') id=some b→(id∈ids∧qB h id∧owner G h id=some b)∨(¬(id∈ids∧qB h id)∧owner G' h' id=some b):=by
  intro id b ho
  rcases get id with ⟨h3,h4,h5⟩ | ⟨h4,h5⟩
  ·obtain⟨_,e1,e2⟩:=gone id h3 h4
   refine .inl ⟨h3,h4,?_⟩
   unfold owner at ho ⊢
   rwa [h5,e1,e2] at ho
  ·refine .inr ⟨h4,?_⟩
   unfold owner at *;rw [h5] at ho;exact ho
 have ext:Ext G h w G' (oD ids h h') w':=by
  refine⟨x.os,x.tape,x.output,x.size,fun b hb hn=>x.frame b hb fun id ho=>hn id (s5 ho).1,x.hmono,fun id b ho hlt=>?_,fun id bl hb=>?_⟩
  ·rcases own id b ho with ⟨_,_,h2⟩ | ⟨_,h2⟩
   ·exact h2
   ·exact(s5 (x.own id b h2 hlt)).1
  ·rcases get id with ⟨h3,h4,h5⟩ | ⟨h4,h5⟩
   ·refine⟨bl,h5.trans hb,?_⟩
    obtain⟨_,e1,e2⟩:=gone id h3 h4
    cases bl <;> simp [Kind,e1,e2]
   ·rcases xY ids h id with ⟨h6,h7,_⟩ | ⟨_,h7⟩
    ·exact absurd ⟨h6,h7⟩ h4
    ·obtain⟨bl',h8,h9⟩:=x.kinds id bl (h7.trans hb)
     exact⟨bl',h5.trans h8,h9⟩
 refine⟨ext,⟨i'.ok,fun id bl hb=>?_,fun a b c h1 h2=>?_⟩,sub,fun id h1 h2=>?_⟩
 ·rcases get id with ⟨h3,h4,h5⟩ | ⟨h4,h5⟩
  ·have hb':h[id]?=some bl:=h5.symm.trans hb
   obtain⟨_,e1,e2⟩:=gone id h3 h4
   refine(i.nY id bl hb').IF ext.toMono e1 e2 fun b ho=>?_
   refine x.frame b (i.lt (by rw [oC hb'];exact ho)) fun j hj=>?_
   obtain⟨h6,h7⟩:=s5 hj
   have:=i.inj j id _ h6 (by rw [oC hb'];exact ho)
   subst this
   exact h7 ⟨h3,h4⟩
  ·exact(i'.nY id bl (h5.symm.trans hb)).sub sub
 ·rcases own a c h1 with ⟨_,a2,a3⟩ | ⟨a1,a2⟩ <;> rcases own b _ h2 with ⟨_,b2,b3⟩ | ⟨b1,b2⟩
  ·exact i.inj a b _ a3 b3
  ·exact i.inj a b _ a3 (s5 (x.own b _ b2 (i.lt a3))).1
  ·exact i.inj a b _ (s5 (x.own a _ a2 (i.lt b3))).1 b3
  ·exact i'.inj a b c a2 b2
 ·rcases get id with ⟨_,_,h5⟩ | ⟨h4,_⟩
  ·exact h5
  ·exact absurd ⟨h1,h2⟩ h4
section
variable {G G':Gh}{h h':lT}{w:World}{m:Nat}
structure Left (G:Gh) (h:lT) (G':Gh) (h':lT) (m:Nat):Prop where
 hmono:∀b k v,G.H b k=some v→G'.H b k=some v
 nY:G'.nY=G.nY
 cur:G'.cur=G.cur
 live:∀id,id<m→Hk.live h id→Hk.live h' id
 front:∀(id n sz t:Nat),id<m→h[id]?=some (.front n sz t)→h'[id]?=some (.front n sz t)
 nf:∀id,id<m→tH h id→tH h' id
theorem r_ (l:Left G h G' h' m) {v:lS}{V:Value}(hs:v.tM m=true) (r:mJ G h v V):mJ G' h' v V:=by
 cases r with
 | p v V hp=>exact .p v V (hp.mono l.hmono)
 | agg cs C hl hh=>simp [lS.tM] at hs
 | tuple cs C hl hh=>simp [lS.tM] at hs
 | nil=>exact .nil
 | own rows id n sz V hp hf hn hr hc =>
  have hid:id<m:=by simpa [lS.tM,uS] using hs
  exact .own rows id n sz V (hp.mono l.hmono) (l.front _ _ _ _ hid hf) hn hr (by rw [l.cur];exact hc)
 | ownv id V hp hb =>
  have hid:id<m:=by simpa [lS.tM,uS] using hs
  exact .ownv id V (hp.mono l.hmono) (l.nf _ hid hb)
 | vslice id tot off len sz b cap hl ht hc hv =>
  have hid:id<m:=by simpa [lS.tM,uS] using hs
  exact .vslice id tot off len sz b cap (l.nf _ hid hl) (by rw [l.cur];exact ht) hc (by rw [l.cur];exact hv)
 | vptr id tot off b hl ht hv =>
  have hid:id<m:=by simpa [lS.tM,uS] using hs
  exact .vptr id tot off b (l.nf _ hid hl) (by rw [l.cur];exact ht) (by rw [l.cur];exact hv)
 | ptr id off hl =>
  have hid:id<m:=by simpa [lS.tM,uS] using hs
  rw [←l.nY];exact .ptr id off (l.live _ hid hl)
 | mslice id off len sz cap hl hc =>
  have hid:id<m:=by simpa [lS.tM,uS] using hs
  rw [←l.nY];exact .mslice id off len sz cap (l.live _ hid hl) hc
 | mslice0 id off sz cap a=>exact .mslice0 id off sz cap a
 | map id hl =>
  have hid:id<m:=by simpa [lS.tM,uS] using hs
  rw [←l.nY];exact .map id (l.live _ hid hl)
 | func f first cap F C hlf hlc hf hc =>
  simp only [lS.tM,aq1,List.isEmpty_iff] at hs
  obtain⟨rfl,rfl⟩:=hs
  exact .func f [] [] F C hlf hlc (by simp) (by simp)
 | iface t v V hh=>simp [lS.tM] at hs
theorem uT (l:Left G h G' h' m) {v:lS}{V:Value}(hs:v.sM m=true) (r:mJ G h v V):mJ G' h' v V:=by
 cases v with
 | agg cs =>
  obtain⟨C,rfl,hl,hr⟩:=r.tB
  simp only [lS.sM,aq5] at hs
  exact .agg cs C hl fun i u hu=>r_ l (hs u (aj8 hu)) (hr i u hu)
 | iface t v =>
  obtain⟨W,rfl,hr⟩:=r.xL
  cases v with
  | agg cs =>
   obtain⟨C,rfl,hl,hc⟩:=hr.tB
   simp only [lS.sM,aq5] at hs
   exact .iface t _ _ (.agg cs C hl fun i u hu=>r_ l (hs u (aj8 hu)) (hc i u hu))
  | _=>exact .iface t _ W (r_ l hs hr)
 | func f first cap =>
  obtain⟨F,C,rfl,hlf,hlc,hf,hc⟩:=r.D4
  simp only [lS.sM,aq1,aq5] at hs
  exact .func f first cap F C hlf hlc (fun i u hu=>r_ l (hs.1 u (aj8 hu)) (hf i u hu)) (fun i u hu=>r_ l (hs.2 u (aj8 hu)) (hc i u hu))
 | _=>exact r_ l hs r
theorem Qb {id:Nat}{b:mT}(hb:(h.take m)[id]?=some b):id<m∧h[id]?=some b:=by
 rw [ar0] at hb
 split at hb
 ·rename_i hlt;exact⟨hlt,hb⟩
 ·cases hb
theorem uH {id b:Nat}(ho:owner G (h.take m) id=some b):id<m∧owner G h id=some b:=by
 obtain⟨bl,h1,h2⟩:=pN ho
 obtain⟨h3,h4⟩:=Qb h1
 exact⟨h3,by rw [oC h4];exact h2⟩
theorem z_:Left G h G (h.take m) m where
 hmono:=fun _ _ _ h=>h
 nY:=rfl
 cur:=rfl
 live:=fun id hid ⟨b,h1,h2⟩=>⟨b,by rw [ar0,if_pos hid];exact h1,h2⟩
 front:=fun id n sz t hid hf=>by rw [ar0,if_pos hid];exact hf
 nf:=fun id hid ⟨b,h1,h2⟩=>⟨b,by rw [ar0,if_pos hid];exact h1,h2⟩
theorem Inv.take (i:Inv G h w) (hs:(h.take m).all (vU m)=true):Inv G (h.take m) w where
 ok:=i.ok
 nY:=fun id bl hb=>by
  obtain⟨h1,h2⟩:=Qb hb
  have h3:vU m bl=true:=aq5.1 hs bl (aj8 hb)
  have h4:=i.nY id bl h2
  cases bl with
  | cells cs =>
   simp only [vU,aq5] at h3
   obtain⟨C,e,g1,g2,g3,g4⟩:=h4
   exact⟨C,e,g1,g2,g3,fun j v hv=>⟨(g4 j v hv).1,uT z_ (h3 v (aj8 hv)) (g4 j v hv).2⟩⟩
  | tcells t cs =>
   simp only [vU,aq5] at h3
   obtain⟨C,g1,g2,g3,g4⟩:=h4
   exact⟨C,g1,g2,g3,fun j v hv=>⟨(g4 j v hv).1,uT z_ (h3 v (aj8 hv)) (g4 j v hv).2⟩⟩
  | map es =>
   simp only [vU,aq5] at h3
   obtain⟨C,e,g1,g2,g3,g4,hst⟩:=h4
   refine⟨C,e,g1,g2,g3,fun j kv hv=>?_,hst⟩
   obtain⟨mm,g5,g6,g7,g8⟩:=g4 j kv hv
   exact⟨mm,g5,g6,g7,uT z_ (h3 kv (aj8 hv)) g8⟩
  | vec t sz cs =>
   simp only [vU,aq5] at h3
   obtain⟨b',cap,C,e,g1,g2,g3,g4,g5,g6,g7,g8,g9⟩:=h4
   exact⟨b',cap,C,e,g1,g2,g3,g4,g5,g6,g7,g8,fun j v hv=>⟨(g9 j v hv).1,uT z_ (h3 v (aj8 hv)) (g9 j v hv).2⟩⟩
  | _=>exact h4
 inj:=fun a b c h1 h2=>i.inj a b c (uH h1).2 (uH h2).2
theorem ap1 {t:lT}{w':World}(i:Inv G h w) (x:Ext G (h.take m) w G' t w') (i':Inv G' t w') (ht:t.length=m) :
  ∃G2,Ext G h w G2 (t++h.drop m) w'∧Inv G2 (t++h.drop m) w'∧CG G' t G2 (t++h.drop m):=by
 let G2:Gh:={ H:=G'.H,nY:=fun id=>if id<m then G'.nY id else G.nY id,cur:=fun id=>if id<m then G'.cur id else G.cur id }
 have b1:∀id,id<m→G2.nY id=G'.nY id:=fun id hid=>if_pos hid
 have c1:∀id,id<m→G2.cur id=G'.cur id:=fun id hid=>if_pos hid
 have b2:∀id,¬id<m→G2.nY id=G.nY id:=fun id hid=>if_neg hid
 have c2:∀id,¬id<m→G2.cur id=G.cur id:=fun id hid=>if_neg hid
 have g1:∀id,id<m→(t++h.drop m)[id]?=t[id]?:=fun id hid=>aq3 (by omega)
 have g2:∀id,¬id<m→(t++h.drop m)[id]?=h[id]?:=fun id hid=>by
  rw [ak0 (by omega),aq4,ht,show m+(id-m)=id by omega]
 have kn:∀{A B C D:Gh}{id:Nat}{x y:mT},C.nY id=A.nY id→C.cur id=A.cur id→D.nY id=B.nY id→D.cur id=B.cur id→Kind A B id x y→Kind C D id x y:=by
  intro A B C D id x y e1 e2 e3 e4 hk
  cases x <;> cases y <;> simp_all [Kind]
 have own:∀id b,owner G2 (t++h.drop m) id=some b→(id<m∧owner G' t id=some b)∨(¬id<m∧owner G h id=some b):=by
  intro id b ho
  by_cases hid:id<m
  ·refine .inl ⟨hid,?_⟩
   unfold owner at ho ⊢
   rwa [g1 id hid,b1 id hid,c1 id hid] at ho
  ·refine .inr ⟨hid,?_⟩
   unfold owner at ho ⊢
   rwa [g2 id hid,b2 id hid,c2 id hid] at ho
 have ext:Ext G h w G2 (t++h.drop m) w':=by
  refine⟨x.os,x.tape,x.output,x.size,fun b hb hn=>x.frame b hb fun id ho=>hn id (uH ho).2,x.hmono,fun id b ho hlt=>?_,fun id bl hb=>?_⟩
  ·rcases own id b ho with ⟨_,h2⟩ | ⟨_,h2⟩
   ·exact(uH (x.own id b h2 hlt)).2
   ·exact h2
  ·by_cases hid:id<m
   ·obtain⟨bl',h1,h2⟩:=x.kinds id bl (by rw [ar0,if_pos hid];exact hb)
    exact⟨bl',by rw [g1 id hid];exact h1,kn rfl rfl (b1 id hid) (c1 id hid) h2⟩
   ·exact⟨bl,by rw [g2 id hid];exact hb,kn rfl rfl (b2 id hid) (c2 id hid) (Kind.refl G id bl)⟩
 have mono:CG G' t G2 (t++h.drop m):=⟨fun _ _ _ h=>h,fun id bl hb=>by
  have hid:id<m:=by rw [←ht];exact(ag0.1 hb).1
  exact⟨bl,by rw [g1 id hid];exact hb,kn rfl rfl (b1 id hid) (c1 id hid) (Kind.refl G' id bl)⟩⟩
 refine⟨G2,ext,⟨i'.ok,fun id bl hb=>?_,fun a b c ha hb=>?_⟩,mono⟩
 ·by_cases hid:id<m
  ·rw [g1 id hid] at hb
   exact(i'.nY id bl hb).IF mono (b1 id hid) (c1 id hid) fun b _=>⟨rfl,fun _=>rfl⟩
  ·rw [g2 id hid] at hb
   refine(i.nY id bl hb).IF ext.toMono (b2 id hid) (c2 id hid) fun b ho=>?_
   refine x.frame b ((i.nY id bl hb).lt ho) fun j hj=>?_
   obtain⟨j1,j2⟩:=uH hj
   have:=i.inj j id b j2 (by rw [oC hb];exact ho)
   omega
 ·rcases own a c ha with ⟨a1,a2⟩ | ⟨a1,a2⟩ <;> rcases own b c hb with ⟨b1,b2⟩ | ⟨b1,b2⟩
  ·exact i'.inj a b c a2 b2
  ·have:=i.inj a b c (uH (x.own a c a2 (i.lt b2))).2 b2
   omega
  ·have:=i.inj a b c a2 (uH (x.own b c b2 (i.lt a2))).2
   omega
  ·exact i.inj a b c a2 b2
end
end
section
open Go Go.RowKit
section
variable {J:Act→Prop}{cx:Cx}{o:Oper}{ρ:List lS}{h:lT}{kv kp:lS→lT→Option R}{r:R}{ids:List Nat}{ops:Array Oper}{G:Gh}{w:World}{a:Act}{Q:Exit→Act→World→Prop}{K:Act→World→Prop}
theorem zX (hX:tK cx.P cx.A) (hK:rA cx.P cx.A cx.K) (hb:oF cx o ids ρ h kv kp=some r) (i:Inv G h w) (gl:qC cx.A G h w) (s:o9 J G h ρ a)
  (hkv:∀v h' G' w' V,kv v h'=some r→Ext G h w G' h' w'→Inv G' h' w'→mJ G' h' v V→(∀id∈ids,qB h id→h'[id]?=h[id]?)→K (a.put o.dst V) w')
  (hkp:Wq kp r G h w a Q):o.wp cx.P a w K Q:=by
 unfold oF at hb
 cases hc:cx.ck with
 | true =>
  rw [hc] at hb
  refine AB hX hK none hb i gl s (fun v h' G' w' V hk x i' rv=>?_) hkp
  obtain⟨h1,h2⟩:=DX.1 hk
  exact hkv v h' G' w' V h2 x i' rv fun id hid hb=>by
   obtain⟨b,hb,_⟩:=hb.nf
   rw [h1 id hid b hb,hb]
 | false =>
 rw [hc] at hb
 simp only [cond_false] at hb
 refine AB hX hK none hb (i.rZ ids) (gl.sub rfl fun id b ho=>⟨id,(s5 ho).1⟩) ⟨s.len,fun j v hv=>(s.rel j v hv).sub (O3 ids h),s.df⟩ ?_ ?_
 ·intro v h' G' w' V hk x i' rv
  obtain⟨x2,i2,sb,kp2⟩:=Lw i x i'
  exact hkv v _ G' w' V hk x2 i2 (rv.sub sb) kp2
 ·intro v h' G' w' V hk x i' rv
  obtain⟨x2,i2,sb,kp2⟩:=Lw i x i'
  exact hkp v _ G' w' V hk x2 i2 (rv.sub sb)
theorem N_ {j d:Nat}{g:Bool}(hd:(ops.toList[j]?).bind (·.dst)=some d) (s:o9 J G h ρ a) (hg:ρ.getD d .junk=.bool g):yielded ops a.tmps j=some g:=by
 have h1:=s.get d
 rw [hg] at h1
 have h2:=h1.uX
 have h3:a.tmps[d]?=some (.bool g):=by
  rw [aj5] at h2
  cases h4:a.tmps[d]? with
  | none=>rw [h4] at h2;cases h2
  | some v=>rw [h4] at h2;simp at h2;rw [h2]
 rw [aq2] at hd
 simp [yielded,hd,h3]
theorem Oa {j d:Nat}(hd:(ops.toList[j]?).bind (·.dst)=some d) (s:o9 J G h ρ a) (hg:ρ.getD d .junk=.tuple []):yielded ops a.tmps j=none:=by
 have h1:=s.get d
 rw [hg] at h1
 have h2:=h1.Tc
 rw [aq2] at hd
 unfold yielded
 rw [hd]
 simp only [ak6]
 rw [aj5] at h2
 cases h4:a.tmps[d]? with
 | none=>rfl
 | some v=>rw [h4] at h2;simp at h2;rw [h2];rfl
theorem wM {n:Nat}(hX:tK cx.P cx.A) (hK:rA cx.P cx.A cx.K) (hn:ops[n]?=some o) (hb:rY cx ops.toList o ids ρ h kv kp=some r) (i:Inv G h w) (gl:qC cx.A G h w) (s:o9 J G h ρ a)
  (hkv:∀v h' G' w' V,kv v h'=some r→Ext G h w G' h' w'→Inv G' h' w'→mJ G' h' v V→(∀id∈ids,qB h id→h'[id]?=h[id]?)→K (a.put o.dst V) w')
  (hkp:Wq kp r G h w a Q):wpOp cx.P ops Q n K a w:=by
 unfold wpOp
 simp only [hn]
 have skip:kv (.tuple []) h=some r→K (a.put o.dst undef) w:=fun hk =>
  hkv _ h G w _ hk (Ext.refl G h w) i (.p _ _ (.tuple [] #[] rfl (by simp))) fun _ _ _=>rfl
 have run:oF cx o ids ρ h kv kp=some r→o.wp cx.P a w K Q:=fun hb=>zX hX hK hb i gl s hkv hkp
 rw [yL] at hb
 unfold xK at hb
 cases hg:o.guard with
 | none =>
  simp only [hg] at hb
  rw [if_pos (by simp [Region.wanted,hg])]
  exact .inl (run hb)
 | some jw =>
  obtain⟨j,want⟩:=jw
  simp only [hg] at hb
  cases hd:(ops.toList[j]?).bind (·.dst) with
  | none=>simp only [hd] at hb;cases hb
  | some d =>
   simp only [hd] at hb
   split at hb
   ·rename_i g hgv
    have hy:=N_ hd s hgv
    cases want <;> cases g <;> simp only [cond_true,cond_false] at hb
    ·rw [if_pos (by simp [Region.wanted,hg,hy])];exact .inl (run hb)
    ·rw [if_neg (by simp [Region.wanted,hg,hy])];exact skip hb
    ·rw [if_neg (by simp [Region.wanted,hg,hy])];exact skip hb
    ·rw [if_pos (by simp [Region.wanted,hg,hy])];exact .inl (run hb)
   ·rename_i hgv
    have hy:=Oa hd s hgv
    rw [if_neg (by simp [Region.wanted,hg,hy])];exact skip hb
   ·cases hb
open Classical in
theorem Is (hrb:cx.rb=false) {n:Nat}(hX:tK cx.P cx.A) (hK:rA cx.P cx.A cx.K) (hn:ops[n]?=some o) (hb:rY cx ops.toList o ids ρ h kv kp=some r) (hids:pU o=false→ids=[]) (i:Inv G h w) (gl:qC cx.A G h w) (s:o9 J G h ρ a)
  (hkv:∀v h' G' w' V,kv v h'=some r→Ext G h w G' h' w'→Inv G' h' w'→mJ G' h' v V→((pU o=false→h'=h)∧∀id∈ids,qB h id→h'[id]?=h[id]?)→K (a.put o.dst V) w')
  (hkp:Wq kp r G h w a Q):wpOp cx.P ops Q n K a w:=by
 cases he:pU o with
 | true=>exact wM hX hK hn hb i gl s (fun v h' G' w' V h1 h2 h3 h4 h5=>hkv v h' G' w' V h1 h2 h3 h4 ⟨fun h=>(by rw [he] at h;cases h),h5⟩) hkp
 | false =>
  cases hids he
  obtain⟨v0,h1,h2⟩:=Dj hrb he hb
  have h3:=h2 h (fun v h'=>if v=v0∧h'=h then some r else none) (fun _ _=>none) fun _ _ _=>rfl
  simp only [and_self,if_true] at h3
  refine wM hX hK hn h3 i gl s (fun v h' G' w' V h4 h5 h6 h7 h8=>?_) (fun v h' G' w' V h4=>by cases h4)
  split at h4
  ·rename_i hvh
   obtain⟨rfl,rfl⟩:=hvh
   exact hkv _ _ G' w' V h1 h5 h6 h7 ⟨fun _=>rfl,h8⟩
  ·cases h4
theorem Kg {m:Nat}(hX:tK cx.P cx.A) (hK:rA cx.P cx.A cx.K) (hb:vV cx o m ids ρ h kv=some r) (i:Inv G h w) (gl:qC cx.A G h w) (s:o9 J G h ρ a)
  (hkv:∀v h' G' w' V,kv v h'=some r→Ext G h w G' h' w'→Inv G' h' w'→mJ G' h' v V→(∀id∈ids,qB h id→h'[id]?=h[id]?)→K (a.put o.dst V) w'):o.wp cx.P a w K Q:=by
 unfold vV at hb
 cases hs:(h.take m).all (vU m) with
 | false=>rw [hs] at hb;cases hb
 | true =>
  rw [hs] at hb
  simp only [cond_true] at hb
  obtain⟨r0,h1,h2⟩:=ac6.1 hb
  unfold U4 at h2
  split at h2
  ·rename_i v t
   cases hl:t.length == m with
   | false=>rw [hl] at h2;cases h2
   | true =>
    rw [hl] at h2
    simp only [cond_true] at h2
    have hl:t.length=m:=by simpa using hl
    have s2:o9 J G (h.take m) (ρ.map (BW m)) a:=⟨by rw [au7];exact s.len,fun j u hu=>by
     rw [ak4] at hu
     cases hj:ρ[j]? with
     | none=>rw [hj] at hu;cases hu
     | some u0 =>
      rw [hj] at hu
      simp only [Option.map_some,ah5] at hu
      subst hu
      unfold BW
      cases hsh:u0.sM m with
      | true=>exact uT z_ hsh (s.rel j u0 hj)
      | false=>exact .p _ _ (.junk _),s.df⟩
    refine zX hX hK h1 (i.take hs) (gl.sub rfl fun id b ho=>by
     obtain⟨bl,h1',h2'⟩:=pN ho
     have h3':h[id]?=some bl:=by
      rw [ar0] at h1'
      split at h1'
      ·exact h1'
      ·cases h1'
     exact⟨id,by rw [oC h3'];exact h2'⟩) s2 (fun v' h' G' w' V e1 e2 e3 e4 e5=>?_) (fun v' h' G' w' V e1=>by simp [Gk] at e1)
    simp only [mM,ah5,as7,List.cons.injEq,and_true,true_and] at e1
    obtain⟨rfl,rfl⟩:=e1
    obtain⟨G2,x2,i2,m2⟩:=ap1 i e2 e3 hl
    refine hkv _ _ G2 w' V h2 x2 i2 (e4.mono m2) fun id hid hblk=>?_
    by_cases hlt:id<m
    ·rw [aq3 (by omega)]
     have:(h.take m)[id]?=h[id]?:=by rw [ar0,if_pos hlt]
     rw [e5 id hid (by unfold qB at hblk ⊢;rwa [this]),this]
    ·rw [ak0 (by omega),aq4,hl,show m+(id-m)=id by omega]
  ·cases h2
open Classical in
theorem GN (hrb:cx.rb=false) {n m:Nat}{it:Item}(hX:tK cx.P cx.A) (hK:rA cx.P cx.A cx.K) (hn:ops[n]?=some it.o) (hb:oV cx ops.toList m it ids ρ h kv kp=some r) (hids:pU it.o=false→ids=[]) (i:Inv G h w) (gl:qC cx.A G h w) (s:o9 J G h ρ a)
  (hkv:∀v h' G' w' V,kv v h'=some r→Ext G h w G' h' w'→Inv G' h' w'→mJ G' h' v V→Wp it m ids h h'→K (a.put it.o.dst V) w')
  (hkp:Wq kp r G h w a Q):wpOp cx.P ops Q n K a w:=by
 have hf0:=hb
 unfold oV at hb
 cases hr:it.rsv with
 | some j =>
  simp only [hr] at hb
  cases hf:rL it.o with
  | false=>rw [hf] at hb;cases hb
  | true =>
   rw [hf] at hb
   simp only [cond_true] at hb
   obtain⟨v0,b,f1,f2,f3⟩:=IA hf hb
   have f4:=f3 h (fun v h'=>if v=v0∧h'=h.set (m+j) b then some r else none) (fun _ _=>none) f1
   simp only [and_self,if_true] at f4
   have hg:it.o.guard=none:=by
    unfold rL at hf
    simp only [aq1,Option.isNone_iff_eq_none] at hf
    exact hf.1
   unfold wpOp
   simp only [hn]
   rw [if_pos (by simp [Region.wanted,hg])]
   refine .inl (AB hX hK _ f4 i gl s (fun v h' G' w' V e1 e2 e3 e4=>?_) (fun v h' G' w' V e1=>by cases e1))
   split at e1
   ·rename_i hvh
    obtain⟨rfl,rfl⟩:=hvh
    refine hkv _ _ G' w' V f2 e2 e3 e4 ⟨fun he=>(by rw [KI hf] at he;cases he),fun id _ hbl=>?_,fun j' hj'=>?_,fun hn=>(by rw [hr] at hn;cases hn)⟩
    ·refine List.getElem?_set_ne fun hji=>?_
     subst hji
     exact Su f1 hbl
    ·rw [hr] at hj';cases hj'
     exact⟨b,f1,rfl⟩
   ·cases e1
 | none =>
  simp only [hr] at hb
  cases hh:it.hid with
  | true =>
   rw [hh] at hb
   simp only [cond_true] at hb
   cases hf:u6 it.o with
   | false=>rw [hf] at hb;cases hb
   | true =>
    rw [hf] at hb
    simp only [cond_true] at hb
    obtain⟨v0,t,f1,f2,f3⟩:=QV hb
    have f4:=f3 h (fun v h'=>if v=v0∧h'=t++h.drop m then some r else none) rfl
    simp only [and_self,if_true] at f4
    have hg:it.o.guard=none:=by
     unfold u6 at hf
     simp only [aq1,Option.isNone_iff_eq_none] at hf
     exact hf.1
    unfold wpOp
    simp only [hn]
    rw [if_pos (by simp [Region.wanted,hg])]
    refine .inl (Kg hX hK f4 i gl s (fun v h' G' w' V e1 e2 e3 e4 e5=>?_))
    split at e1
    ·rename_i hvh
     obtain⟨rfl,rfl⟩:=hvh
     exact hkv _ _ G' w' V f2 e2 e3 e4 ⟨fun he=>(by rw [OO hf] at he;cases he),e5,fun j hj=>(by rw [hr] at hj;cases hj),fun _ _=>⟨t,f1,rfl⟩⟩
    ·cases e1
  | false =>
   rw [hh] at hb
   simp only [cond_false] at hb
   refine Is hrb hX hK hn hb hids i gl s (fun v h' G' w' V e1 e2 e3 e4 e5=>?_) hkp
   exact hkv v h' G' w' V e1 e2 e3 e4 ⟨e5.1,e5.2,fun j hj=>(by rw [hr] at hj;cases hj),fun _ hh'=>(by rw [hh] at hh';cases hh')⟩
def Qs (J:Act→Prop) (ops:List Oper):Prop:=∀o∈ops,∀(a:Act) (V:Value),J a→J (a.put o.dst V)
theorem Qs.at {ops:Array Oper}(hJ:Qs J ops.toList) {n:Nat}{o:Oper}(hn:ops[n]?=some o) {a:Act}{V:Value}(h:J a):J (a.put o.dst V) :=
 hJ o (aj8 (by rw [aq2];exact hn)) a V h
theorem D7 {k:List lS→lT→Option R}(l2:List Nat) (hJ:Qs J ops.toList) (hX:tK cx.P cx.A) (hK:rA cx.P cx.A cx.K):∀(items:List Item) (seen ρ:List lS) (h:lT) (G:Gh) (w:World) (a:Act),
  (∀it∈items,ops[it.i]?=some it.o∧it.locks=[]∧it.rsv=none∧it.hid=false)→oZ cx ops.toList 0 items seen ρ h k kp=some r→Inv G h w→qC cx.A G h w→o9 J G h ρ a →
  (∀ρ' h' G' w' a',k ρ' h'=some r→Ext G h w G' h' w'→Inv G' h' w'→o9 J G' h' ρ' a'→wpOps cx.P ops Q l2 a' w') →
  (∀v h' G' w' V a',kp v h'=some r→Ext G h w G' h' w'→Inv G' h' w'→mJ G' h' v V→J a'→Q (.panic [{ v:=V,recovered:=false }]) a' w') →
  wpOps cx.P ops Q (items.map (·.i)++l2) a w:=by
 intro items
 induction items with
 | nil=>intro seen ρ h G w a _ hb i gl s hk _;exact hk _ _ G w a hb (Ext.refl G h w) i s
 | cons it rest ih =>
  intro seen ρ h G w a CJ hb i gl s hk hkp
  obtain⟨h1,h2,h3,h4⟩:=CJ it (by simp)
  simp only [oZ,vM,oV,h3,h4,cond_false,h2,mX,List.filterMap_nil] at hb
  rw [as6,ax4,wpOps_cons]
  refine wM hX hK h1 hb i gl s (fun v h' G' w' V e1 e2 e3 e4 _=>?_) (fun v h' G' w' V e1 e2 e3 e4=>hkp v h' G' w' V a e1 e2 e3 e4 s.df)
  exact ih _ _ _ G' w' _ (fun x hx=>CJ x (by simp [hx])) e1 e3 (gl.mono e2) ((s.mono e2.toMono).put it.o.dst e4 (hJ.at h1 s.df))
   (fun ρ' h'' G'' w'' a' f1 f2 f3 f4=>hk ρ' h'' G'' w'' a' f1 (e2.trans f2) f3 f4)
   (fun v h'' G'' w'' V a' f1 f2 f3 f4 f5=>hkp v h'' G'' w'' V a' f1 (e2.trans f2) f3 f4 f5)
theorem Gi {k:List lS→lT→Option R}(hJ:Qs J ops.toList) (hX:tK cx.P cx.A) (hK:rA cx.P cx.A cx.K) (items:List Item) (seen ρ:List lS) (h:lT) (G:Gh) (w:World) (a:Act)
  (h1:∀it∈items,ops[it.i]?=some it.o∧it.locks=[]∧it.rsv=none∧it.hid=false) (h2:oZ cx ops.toList 0 items seen ρ h k kp=some r) (h3:Inv G h w) (h4:qC cx.A G h w) (h5:o9 J G h ρ a)
  (h6:∀ρ' h' G' w' a',k ρ' h'=some r→Ext G h w G' h' w'→Inv G' h' w'→o9 J G' h' ρ' a'→Q .normal a' w')
  (h7:∀v h' G' w' V a',kp v h'=some r→Ext G h w G' h' w'→Inv G' h' w'→mJ G' h' v V→J a'→Q (.panic [{ v:=V,recovered:=false }]) a' w') :
  wpOps cx.P ops Q (items.map (·.i)) a w:=by
 have:=D7 [] hJ hX hK items seen ρ h G w a h1 h2 h3 h4 h5 h6 h7
 rwa [List.append_nil] at this
theorem rM:(p6 ops.toList).map (·.i)=ar9 ops.size∧∀it∈p6 ops.toList,ops[it.i]?=some it.o∧it.locks=[]∧it.rsv=none∧it.hid=false:=by
 constructor
 ·apply List.ext_getElem?
  intro j
  simp only [p6,List.map_map,ak4,List.getElem?_zipIdx,List.getElem?_range',aq2]
  by_cases hj:j<ops.size
  ·simp [hj]
  ·simp [hj]
 ·intro it CJ
  simp only [p6,au6] at CJ
  obtain⟨⟨o,i⟩,h1,rfl⟩:=CJ
  have:=List.mem_zipIdx_iff_getElem?.1 h1
  simp only [aq2] at this
  exact⟨this,rfl,rfl,rfl⟩
def Hu (ops:Array Oper) (listed:Array Bool) (i:Nat):Prop:=∀o,ops[i]?=some o→∀e∈o.after,Region.binds .any e=true→listed.getD e.on false=true
theorem Ks {t p:Nat}:(zR t).testBit p=decide (t=p):=by
 unfold zR
 rw [Nat.one_shiftLeft,Nat.testBit_two_pow]
theorem UY {P:Nat→Prop}(acc:List Nat):∀(es:List Edge) (m:Nat),(∀p,m.testBit p=true→P p) →
  (∀e∈es,Region.binds .any e=true→P e.on∧∀p,(acc.getD e.on 0).testBit p=true→P p) →
  ∀p,(es.foldl (fun m e=>bif Region.binds .any e then m ||| zR e.on ||| acc.getD e.on 0 else m) m).testBit p=true→P p:=by
 intro es
 induction es with
 | nil=>intro m hm _ p hp;exact hm p hp
 | cons e es ih =>
  intro m hm he p hp
  refine ih _ (fun q hq=>?_) (fun x hx=>he x (by simp [hx])) p hp
  cases hbd:Region.binds .any e with
  | false=>simp only [hbd,cond_false] at hq;exact hm q hq
  | true =>
   simp only [hbd,cond_true,Nat.testBit_or,Bool.or_eq_true,Ks,decide_eq_true_eq] at hq
   obtain⟨h1,h2⟩:=he e (by simp) hbd
   rcases hq with (hq | hq) | hq
   ·exact hm q hq
   ·exact hq ▸ h1
   ·exact h2 q hq
theorem Kf {listed:Array Bool}(hdc:∀i,listed.getD i false=true→Hu ops listed i):∀(rest:List Oper) (pre:List Oper) (acc:List Nat),pre++rest=ops.toList→acc.length=pre.length →
  (∀q,Hu ops listed q→∀p,(acc.getD q 0).testBit p=true→listed.getD p false=true) →
  ∀q,Hu ops listed q→∀p,((Ij rest acc).getD q 0).testBit p=true→listed.getD p false=true:=by
 intro rest
 induction rest with
 | nil=>intro pre acc _ _ h;exact h
 | cons o rest ih =>
  intro pre acc hpre hlen h
  refine ih (pre++[o]) _ (by simpa using hpre) (by simp [hlen]) fun q hq p hp=>?_
  have ho:ops[pre.length]?=some o:=by
   rw [←aq2,←hpre];simp
  rw [ah6,List.getElem?_append] at hp
  split at hp
  ·rename_i hlt
   exact h q hq p (by rw [ah6];exact hp)
  ·rename_i hge
   by_cases he:q=acc.length
   ·subst he
    simp only [Nat.sub_self,List.getElem?_cons_zero,Option.getD_some] at hp
    refine UY (P:=fun p=>listed.getD p false=true) acc _ _ (by simp) (fun e hm hbd=>?_) p hp
    have h1:=hq o (by rw [hlen];exact ho) e (by simpa using hm) hbd
    exact⟨h1,h e.on (hdc e.on h1)⟩
   ·have:q-acc.length=(q-acc.length-1)+1:=by omega
    rw [this] at hp
    simp at hp
theorem UZ {listed:Array Bool}(hdc:∀i,listed.getD i false=true→Hu ops listed i) {q p:Nat}(hq:Hu ops listed q) (hp:((Ke ops.toList).getD q 0).testBit p=true):listed.getD p false=true :=
 Kf hdc ops.toList [] [] rfl rfl (by simp) q hq p hp
theorem BK {os:List Oper}{cl:List Nat}:∀{L:List Item},AK os cl L=true↔L.Pairwise fun p q=>IX os cl p q=true
 | []=>by simp [AK]
 | p::r=>by simp [AK,BK (L:=r)]
theorem Ql (hrb:cx.rb=false) {m:Nat}{k:List lS→lT→Option R}(hJ:Qs J ops.toList) (hX:tK cx.P cx.A) (hK:rA cx.P cx.A cx.K) (hedges:∀i o,ops[i]?=some o→∀e∈o.after,Region.binds .any e=true→e.on<i) :
  ∀(n:Nat) (L:List Item) (seen ρ:List lS) (h:lT) (G:Gh) (w:World) (a:Act) (listed:Array Bool),L.length=n →
  AK ops.toList (Ke ops.toList) L=true→(∀it∈L,ops[it.i]?=some it.o∧(pU it.o=false→it.locks=[])∧(it.rsv≠none∨it.hid=true→pU it.o=true))→seen.length=ops.size→listed.size=ops.size →
  (∀j,listed.getD j true=false↔∃it∈L,it.i=j)→(∀i,listed.getD i false=true→Hu ops listed i) →
  oZ cx ops.toList m L seen ρ h k kp=some r→Inv G h w→qC cx.A G h w→o9 J G h ρ a →
  (∀ρ' h' G' w' a',k ρ' h'=some r→Ext G h w G' h' w'→Inv G' h' w'→o9 J G' h' ρ' a'→Q .normal a' w') →
  (∀v h' G' w' V a',kp v h'=some r→Ext G h w G' h' w'→Inv G' h' w'→mJ G' h' v V→J a'→Q (.panic [{ v:=V,recovered:=false }]) a' w') →
  wpAny cx.P .any ops Q n listed a w:=by
 intro n
 induction n with
 | zero =>
  intro L seen ρ h G w a listed hn _ _ _ _ hun _ hb i gl s hk _
  cases List.eq_nil_of_length_eq_zero hn
  refine⟨?_,hk _ _ G w a hb (Ext.refl G h w) i s⟩
  cases hr:Region.ready .any ops listed with
  | nil=>rfl
  | cons j js =>
   have hj:j∈Region.ready .any ops listed:=by rw [hr];simp
   obtain⟨it,CJ,_⟩:=(hun j).1 (mem_ready.1 hj).1
   cases CJ
 | succ n ih =>
  intro L seen ρ h G w a listed hn hp CJ hseen hsz hun hdc hb i gl s hk hkp
  have lt:∀j,listed.getD j true=false→j<listed.size:=fun j hj=>by
   by_cases h:j<listed.size
   ·exact h
   ·simp [Array.getD,h] at hj
  have conv:∀j,j<listed.size→listed.getD j false≠true→listed.getD j true=false:=fun j hj hn=>by
   simp only [Array.getD,hj,dite_true] at hn ⊢
   simpa using hn
  have notIn:∀j,listed.getD j false=true→listed.getD j true=false→False:=fun j h1 h2=>by
   have:=lt j h2
   simp [Array.getD,this] at h1 h2
   rw [h1] at h2;cases h2
  have some_ready:∀m,(∃it∈L,it.i=m)→∃j,j∈Region.ready .any ops listed:=by
   intro m
   induction m using Nat.strongRecOn with
   | _ m ihm =>
    rintro⟨x,hx,rfl⟩
    by_cases hall:∀e∈x.o.after,Region.binds .any e=true→listed.getD e.on false=true
    ·exact⟨x.i,mem_ready.2 ⟨(hun x.i).2 ⟨x,hx,rfl⟩,x.o,(CJ x hx).1,hall⟩⟩
    ·simp only [Classical.not_forall] at hall
     obtain⟨e,he,hbd,hnl⟩:=hall
     have hlt:=hedges x.i x.o (CJ x hx).1 e he hbd
     have:=lt x.i ((hun x.i).2 ⟨x,hx,rfl⟩)
     exact ihm e.on hlt ((hun e.on).1 (conv e.on (by omega) hnl))
  refine⟨fun hr=>?_,fun j hj=>?_⟩
  ·obtain⟨x,hx⟩:=List.exists_mem_of_length_pos (l:=L) (by omega)
   obtain⟨y,hy⟩:=some_ready x.i ⟨x,hx,rfl⟩
   rw [hr] at hy;cases hy
  ·obtain⟨hju,o,hjo,hje⟩:=mem_ready.1 hj
   obtain⟨it,hitL,rfl⟩:=(hun j).1 hju
   obtain⟨pre,post,rfl⟩:=List.append_of_mem hitL
   have hpw:=BK.1 hp
   have hsub:(pre++post).Sublist (pre++it::post):=List.Sublist.append (List.Sublist.refl _) (List.sublist_cons_self _ _)
   have hpw2:=hpw.sublist hsub
   have hpa:=List.pairwise_append.1 hpw
   have ho:o=it.o:=by have:=(CJ it (by simp)).1;rw [hjo] at this;exact Option.some.inj this
   subst ho
   have hpre:∀p∈pre,indep ops.toList p it=true∧p.i≠it.i∧p.i<seen.length:=by
    intro p hpm
    have h1:=hpa.2.2 p hpm it (by simp)
    simp only [IX,aq1,Bool.or_eq_true,bne_iff_ne,Bool.not_eq_true'] at h1
    have hpu:=(hun p.i).2 ⟨p,by simp [hpm],rfl⟩
    refine⟨h1.2.resolve_left fun hbit=>?_,h1.1.1,by rw [hseen,←hsz];exact lt _ hpu⟩
    exact notIn p.i (UZ hdc (q:=it.i) (fun o' ho' e he hbd=>by rw [hjo] at ho';cases ho';exact hje e he hbd) hbit) hpu
   have hnd:(pre.map (·.i)).Nodup:=by
    rw [List.nodup_iff_pairwise_ne,List.pairwise_map]
    exact hpa.1.imp fun hpq=>by
     simp only [IX,aq1,bne_iff_ne] at hpq
     exact hpq.1.1
   have hpost:∀q∈pre++post,q.i≠it.i:=by
    intro q hq
    rcases au0.1 hq with hq | hq
    ·exact(hpre q hq).2.1
    ·have h1:=(List.pairwise_cons.1 hpa.2.1).1 q hq
     simp only [IX,aq1,bne_iff_ne] at h1
     exact Ne.symm h1.1.1
   obtain⟨ids,kv,e1,_,e3,e4⟩:=move hrb it post (CJ it (by simp)).2.1 (CJ it (by simp)).2.2 pre seen ρ h hpre hnd hb
   refine GN hrb hX hK hjo e1 e3 i gl s (fun v h' G' w' V f1 f2 f3 f4 f5=>?_) (fun v h' G' w' V f1 f2 f3 f4=>hkp v h' G' w' V a f1 f2 f3 f4 s.df)
   have hlen:(pre++post).length=n:=by simp at hn ⊢;omega
   have hlt:=lt it.i hju
   refine ih (pre++post) _ _ h' G' w' _ _ hlen (BK.2 hpw2) (fun x hx=>CJ x (hsub.subset hx)) (by simpa using hseen) (by simpa using hsz) (fun q=>?_) (fun q hq=>?_) (e4 v h' f5 f1) f3 (gl.mono f2)
    ((s.mono f2.toMono).put it.o.dst f4 (hJ.at hjo s.df))
    (fun ρ' h'' G'' w'' a' g1 g2 g3 g4=>hk ρ' h'' G'' w'' a' g1 (f2.trans g2) g3 g4)
    (fun v h'' G'' w'' V a' g1 g2 g3 g4 g5=>hkp v h'' G'' w'' V a' g1 (f2.trans g2) g3 g4 g5)
   ·by_cases hq:it.i=q
    ·subst hq
     constructor
     ·intro h1;simp [Array.getD,hlt] at h1
     ·rintro⟨x,hx,he⟩;exact absurd he (hpost x hx)
    ·rw [getD_set_ne true hq,hun q]
     constructor
     ·rintro⟨x,hx,he⟩
      refine⟨x,?_,he⟩
      rcases au0.1 hx with hx | hx
      ·simp [hx]
      ·rcases List.mem_cons.1 hx with rfl | hx
       ·exact absurd he hq
       ·simp [hx]
     ·rintro⟨x,hx,he⟩;exact⟨x,hsub.subset hx,he⟩
   ·have hE:Hu ops listed q:=by
     by_cases hqi:it.i=q
     ·subst hqi;intro o' ho' e he hbd;rw [hjo] at ho';cases ho';exact hje e he hbd
     ·rw [getD_set_ne false hqi] at hq;exact hdc q hq
    exact fun o' ho' e he hbd=>getD_set_true (hE o' ho' e he hbd)
end
end
section
open Go Go.RowKit
section
variable {J:Act→Prop}{cx:Cx}{ρ:List lS}{h:lT}{k:List lS→lT→Option R}{r:R}{ops:Array Oper}{G:Gh}{w:World}{a:Act}{Q:Exit→Act→World→Prop}
theorem Gu:∀{fl:List Nat}{i k:Nat},Hb fl i k≠none→i∈fl
 | [],_,_,h=>absurd rfl h
 | a::r,i,k,h=>by
  unfold Hb at h
  cases ha:a == i with
  | true=>simp at ha;simp [ha]
  | false=>rw [ha] at h;exact List.mem_cons_of_mem _ (Gu h)
theorem IE {os:List Oper}{cl fl:List Nat}(hfl:∀i∈fl,aeQ rL os i=true):∀(l before:List Nat),∀it∈zZ os cl fl l before,os[it.i]?=some it.o∧(pU it.o=false→it.locks=[])∧(it.rsv≠none∨it.hid=true→pU it.o=true):=by
 intro l
 induction l with
 | nil=>intro before it CJ;cases CJ
 | cons i l ih =>
  intro before it CJ
  unfold zZ at CJ
  split at CJ
  ·rename_i o ho
   rcases List.mem_cons.1 CJ with rfl | CJ
   ·refine⟨ho,fun he=>by simp at he;simp [he],fun hx=>?_⟩
    rcases hx with hx | hx
    ·have h1:=hfl i (Gu hx)
     simp only [aeQ,ho] at h1
     exact KI h1
    ·simp only [aq1] at hx
     exact OO hx.1
   ·exact ih _ it CJ
  ·cases CJ
theorem BN (ρ:List lS) (d:Option Tmp) (v:lS):(p7 ρ d v).length=ρ.length:=by cases d <;> simp [p7]
theorem vW {os:List Oper}{m:Nat}{kp:lS→lT→Option R}(n:Nat):∀(items:List Item) (seen ρ:List lS) (h:lT),ρ.length=n →
  oZ cx os m items seen ρ h k kp=oZ cx os m items seen ρ h (fun ρ' h'=>if ρ'.length=n then k ρ' h' else none) kp:=by
 intro items
 induction items with
 | nil=>intro seen ρ h hn;simp [oZ,hn]
 | cons it rest ih =>
  intro seen ρ h hn
  simp only [oZ,vM]
  congr 1
  funext v h'
  exact ih _ _ _ (by rw [BN,hn])
def sC (J:Act→Prop) (n:Nat) (kn:List lS→lT→Option R) (ke:Ex→List lS→lT→Option R) (r:R) (G:Gh) (h:lT) (w:World) (Q:Exit→Act→World→Prop):Prop :=
 (∀ρ' h' G' w' a',kn ρ' h'=some r→Ext G h w G' h' w'→Inv G' h' w'→o9 J G' h' ρ' a'→ρ'.length=n→Q .normal a' w') ∧
 (∀e ρ' h' G' w' a',ke e ρ' h'=some r→Ext G h w G' h' w'→Inv G' h' w'→o9 J G' h' ρ' a'→ρ'.length=n →
  match e with
  | .exit id=>Q (.exit id) a' w'
  | .ret=>Q .ret a' w'
  | _=>True) ∧
 ∀v ρ' h' G' w' a' V,ke (.pan v) ρ' h'=some r→Ext G h w G' h' w'→Inv G' h' w'→mJ G' h' v V→J a'→Q (.panic [{ v:=V,recovered:=false }]) a' w'
theorem Ext.ZK {G':Gh}{h':lT}{w':World}(x:Ext G h { w with drawn:=w.drawn+1 } G' h' w'):Ext G h w G' h' w' :=
 ⟨x.os,x.tape,x.output,x.size,x.frame,x.hmono,x.own,x.kinds⟩
theorem Inv.Cr (i:Inv G h w) (n:Nat):Inv G (Cr n h) w∧Ext G h w G (Cr n h) w:=by
 cases n with
 | zero=>exact⟨i,Ext.refl G h w⟩
 | succ n =>
  have hfr:∀(n j:Nat) (bl:mT),(KL n)[j]?=some bl→bl=.free:=by
   intro n
   induction n with
   | zero=>intro j bl hb;simp [KL] at hb
   | succ n ih =>
    intro j bl hb
    cases j with
    | zero=>simp [KL] at hb;exact hb.symm
    | succ j=>exact ih j bl (by simpa [KL] using hb)
  refine i.push rfl rfl rfl (ak5 _) (fun _ _=>rfl) (fun _ _=>rfl) (fun _ _=>rfl) (fun _ _ _ h=>h) (fun _ _ _=>rfl) (fun b k v _ hv=>i.ok b k v hv) (fun j bl hb _=>?_) (fun j bl b hb ho=>?_) (fun j j' bl bl' b hb _ ho _=>?_)
  ·rw [hfr _ j bl hb];trivial
  ·rw [hfr _ j bl hb] at ho;cases ho
  ·rw [hfr _ j bl hb] at ho;cases ho
def aaR (P:Program) (ops:Array Oper) (draw:Bool) (Q:Exit→Act→World→Prop) (a:Act) (w:World):Prop :=
 match draw with
 | false=>wpOps P ops Q (ar9 ops.size) a w
 | true=>wpAny P .any ops Q ops.size (Array.replicate ops.size false) a { w with drawn:=w.drawn+1 }
theorem Fe {draw:Bool}(hJ:Qs J ops.toList) (hm:cx.P.follows .mixedOrders=true) (hX:tK cx.P cx.A) (hK:rA cx.P cx.A cx.K) {kp:lS→lT→Option R}(hb:uD cx ops.toList draw ρ h k kp=some r) (i:Inv G h w) (gl:qC cx.A G h w) (s:o9 J G h ρ a)
  (hn:ρ.length=cx.n)
  (hk:∀ρ' h' G' w' a',k ρ' h'=some r→Ext G h w G' h' w'→Inv G' h' w'→o9 J G' h' ρ' a'→ρ'.length=cx.n→Q .normal a' w')
  (hkp:∀v h' G' w' a' V,kp v h'=some r→Ext G h w G' h' w'→Inv G' h' w'→mJ G' h' v V→J a'→Q (.panic [{ v:=V,recovered:=false }]) a' w'):aaR cx.P ops draw Q a w:=by
 cases draw with
 | false =>
  simp only [uD] at hb
  rw [vW cx.n _ _ _ _ hn] at hb
  show wpOps _ _ _ _ _ _
  rw [←rM.1]
  refine Gi hJ hX hK _ _ _ _ G w a rM.2 hb i gl s (fun ρ' h' G' w' a' e1 e2 e3 e4=>?_) (fun v h' G' w' V a' e1 e2 e3 e4 e5=>?_)
  ·split at e1
   ·rename_i hl;exact hk ρ' h' G' w' a' e1 e2 e3 e4 hl
   ·cases e1
  ·exact hkp v h' G' w' a' V e1 e2 e3 e4 e5
 | true =>
  simp only [uD] at hb
  cases hd:Az ops.toList with
  | none=>simp only [hd] at hb;cases hb
  | some items =>
   simp only [hd] at hb
   unfold Az at hd
   simp only [] at hd
   generalize CJ:zZ ops.toList (Ke ops.toList) (IB ops.toList (Ke ops.toList)) (Ua ops.toList) []=items' at hd
   cases hc:(AK ops.toList (Ke ops.toList) items'&&Mi ops.toList&&(items'.length == ops.toList.length)&&(ar9 ops.toList.length).all (fun i=>items'.any fun it=>it.i == i)) with
   | false=>rw [hc] at hd;cases hd
   | true =>
    rw [hc] at hd
    cases hd
    rw [vW cx.n _ _ _ _ hn] at hb
    simp only [aq1,beq_iff_eq,av9,aq5,List.mem_range,List.any_eq_true] at hc
    obtain⟨⟨⟨h1,h2⟩,h3⟩,h4⟩:=hc
    have hspec:∀it∈items,ops[it.i]?=some it.o∧(pU it.o=false→it.locks=[])∧(it.rsv≠none∨it.hid=true→pU it.o=true):=by
     intro it hm
     rw [←CJ] at hm
     have:=IE (fun i hi=>by
      have:=(List.mem_filter.1 hi).2
      simp only [aq1] at this
      exact this.1) _ _ it hm
     rwa [aq2] at this
    show wpAny _ _ _ _ _ _ _ _
    obtain⟨ir,xr⟩:=i.Cr (Ee items)
    refine Ql (cx:={ cx with rb:=false }) rfl (m:=h.length) hJ hX hK (fun j o ho e he hbd=>?_) ops.size items _ ρ (Cr (Ee items) h) G _ a _ h3 h1 hspec (by simp) (by simp) (fun j=>?_) (fun j hj=>?_) hb ir.drew (gl.mono (xr.trans (Ext.drew _ _ _))) (s.mono xr.toMono)
     (fun ρ' h' G' w' a' e1 e2 e3 e4=>by
      split at e1
      ·rename_i hl;exact hk ρ' h' G' w' a' e1 (xr.trans e2.ZK) e3 e4 hl
      ·cases e1) (fun v h' G' w' V a' e1 e2 e3 e4 e5=>hkp v h' G' w' a' V e1 (xr.trans e2.ZK) e3 e4 e5)
    ·simp only [Mi,aq5] at h2
     have:=h2 (o,j) (List.mem_zipIdx_iff_getElem?.2 (by simpa using ho)) e (by simpa using he)
     simpa [hbd] using this
    ·constructor
     ·intro hj
      have hlt:j<ops.size:=by
       by_cases hlt:j<ops.size
       ·exact hlt
       ·simp [Array.getD,hlt] at hj
      obtain⟨x,hx,he⟩:=h4 j hlt
      exact⟨x,hx,by simpa using he⟩
     ·rintro⟨x,hx,rfl⟩
      have:=(Array.getElem?_eq_some_iff.1 (hspec x hx).1).1
      simp [Array.getD,this]
    ·exfalso
     simp [Array.getD] at hj
end
end
section
open Go Go.RowKit
section
variable {G G':Gh}{h h':lT}{w:World}{m:Nat}
def Wx (G:Gh) (h:lT) (w:World) (G':Gh) (m:Nat):Prop :=
 (∀id cs,m≤id→h[id]?=some (.cells cs)→∀k,G'.H (G.nY id) k=w.cell? ⟨G.nY id,k,none⟩) ∧
  ∀id tot sz cs b,m≤id→h[id]?=some (.vec tot sz cs)→(G.cur id).ownBlock=some b→∀k,G'.H b k=w.cell? ⟨b,k,none⟩
theorem Em (i : Inv G h w) (l : Left G h G' h' m) (st : Wx G h w G' m) {v : lS} {V : Value} (r : mJ G h v V) : mJ G' h' (v.oL m h) V := by
  have junk : mJ G' h' .junk V := .p _ _ (.junk _)
  have cellsOf : ∀ (id : Nat) (cs row part : List lS) (off : Nat), m ≤ id → h[id]? = some (.cells cs) → (∀ (j : Nat) (c : lS), part[j]? = some c → cs[off + j]? = some c) → oM part = some row →
      ∃ F : Nat → Value, ∀ (j : Nat) (v : lS), row[j]? = some v → G'.H (G.nY id) (off + j) = some (F j) ∧ v.mZ = true ∧ pS G'.H v (F j) := by
    intro id cs row part off hid hc hpart hrow
    obtain ⟨C, e, h1, h2, h3, h4⟩ := i.nY id _ hc
    obtain ⟨p1, p2⟩ := qO hrow
    refine ⟨fun j => C.getD (off + j) undef, fun j v hv => ?_⟩
    have hj : j < part.length := by rw [← p1]; exact (ag0.1 hv).1
    obtain ⟨c', e1, e2⟩ := p2 j _ (ag8 hj)
    rw [hv] at e1; cases e1
    have hcs := hpart j _ (ag8 hj)
    have hlt : off + j < C.size := by rw [h2]; exact (ag0.1 hcs).1
    obtain ⟨e3, e4⟩ := uQ e2 (h4 _ _ hcs).2
    refine ⟨?_, e4, e3.mono l.hmono⟩
    rw [st.1 id cs hid hc, cell_of w _ _ h1]
    simp [aj5, hlt]
  cases v with
  | slice rows t =>
    cases t with
    | own id =>
      simp only [lS.oL]
      cases hd : decide (id < m) with
      | true =>
        simp only [cond_true]
        exact r_ l (by simpa [lS.tM, uS] using hd) r
      | false =>
        simp only [cond_false]
        exact .p _ _ (r.sA.mono l.hmono)
    | _ => exact r_ l rfl r
  | ptr id off =>
    simp only [lS.oL]
    cases hd : decide (id < m) with
    | true =>
      simp only [cond_true]
      exact r_ l (by simpa [lS.tM, uS] using hd) r
    | false =>
      simp only [cond_false]
      have hid : m ≤ id := by simpa using hd
      split
      · rename_i cs hc
        split
        · rename_i row hrow
          obtain ⟨rfl, _⟩ := r.xF
          obtain ⟨F, hF⟩ := cellsOf id cs row _ off hid hc (fun j c hj => by rwa [aq4] at hj) hrow
          exact .p _ _ (.pptr row _ off F (fun j v hv => (hF j v hv).1) (fun j v hv => (hF j v hv).2.1) (fun j v hv => (hF j v hv).2.2))
        · exact junk
      · exact junk
  | mslice id off len sz =>
    simp only [lS.oL]
    cases hd : decide (id < m) with
    | true =>
      simp only [cond_true]
      exact r_ l (by simpa [lS.tM, uS] using hd) r
    | false =>
      simp only [cond_false]
      have hid : m ≤ id := by simpa using hd
      split
      · rename_i cs hc
        split
        · rename_i row hrow
          cases hle : decide (off + len * sz ≤ cs.length) with
          | false => exact junk
          | true =>
            simp only [cond_true]
            have hle : off + len * sz ≤ cs.length := by simpa using hle
            obtain ⟨a, cap, rfl, hcap, ha⟩ := r.vN
            by_cases h0 : len = 0
            · subst h0; exact .p _ _ (.slice0 a cap)
            · obtain ⟨rfl, _⟩ := ha (by omega)
              obtain ⟨F, hF⟩ := cellsOf id cs row _ off hid hc (fun j c hj => by
                rw [ar0] at hj
                split at hj
                · rwa [aq4] at hj
                · cases hj) hrow
              have hrl : row.length = len * sz := by rw [(qO hrow).1]; simp; omega
              exact .p _ _ (Aj (by omega) hcap (fun j v hv _ => ⟨(hF j v hv).1, (hF j v hv).2.2, (hF j v hv).2.1⟩))
        · exact junk
      · exact junk
  | vslice id tot off len sz =>
    simp only [lS.oL]
    cases hd : decide (id < m) with
    | true =>
      simp only [cond_true]
      exact r_ l (by simpa [lS.tM, uS] using hd) r
    | false =>
      simp only [cond_false]
      have hid : m ≤ id := by simpa using hd
      split
      · rename_i tot' sz' cs hc
        split
        · rename_i row hrow
          cases hle : decide (tot = tot' ∧ off + len * sz ≤ cs.length) with
          | false => exact junk
          | true =>
            simp only [cond_true]
            obtain ⟨rfl, hle⟩ : tot = tot' ∧ off + len * sz ≤ cs.length := by simpa using hle
            obtain ⟨b, cap, rfl, hnf, htot, hlc, hv⟩ := r.qK
            obtain ⟨b', cap', C, e0, g1, g2, g3, g4, g5, g6, g7, g8, g9⟩ := i.nY id _ hc
            obtain ⟨l0, cap0, k1, _⟩ := hv (by rw [g1]; rfl)
            have hcur := g1
            rw [g1] at k1
            simp only [Value.slice.injEq, ah5, Addr.mk.injEq] at k1
            obtain ⟨⟨rfl, _⟩, _, rfl⟩ := k1
            obtain ⟨p1, p2⟩ := qO hrow
            have hdl : ((cs.drop off).take (len * sz)).length = len * sz := by rw [ar6, List.length_drop]; omega
            rw [hdl] at p1
            refine .p _ _ (Aj (F := fun j => C.getD (off + j) undef) (by omega) hlc fun j v hvv _ => ?_)
            have hj : j < len * sz := by rw [← p1]; exact (ag0.1 hvv).1
            obtain ⟨c', e1, e2⟩ := p2 j _ (ag8 (by omega))
            rw [hvv] at e1; cases e1
            have hcs : cs[off + j]? = some (((cs.drop off).take (len * sz))[j]'(by omega)) := by
              have := ag8 (l := (cs.drop off).take (len * sz)) (i := j) (by omega)
              rw [ar0, if_pos hj, aq4] at this
              exact this
            obtain ⟨_, hrel⟩ := g9 _ _ hcs
            obtain ⟨z1, z2⟩ := uQ e2 hrel
            have hlt : off + j < C.size := by
              have := (ag0.1 hcs).1
              have h2 : cs.length ≤ C.size := by rw [g7, g5]; exact as0 _ g3
              omega
            refine ⟨?_, z1.mono l.hmono, z2⟩
            rw [st.2 id _ _ _ b' hid hc (by rw [hcur]; rfl), cell_of w _ _ g2]
            simp [aj5, hlt]
        · exact junk
      · exact junk
  | _ =>
    simp only [lS.oL]
    first
      | (cases hs : lS.sM m _ with
         | true => exact uT l hs r
         | false => exact junk)
theorem af5 (i:Inv G h w) (l:Left G h G' h' m) (st:Wx G h w G' m) {v:lS}{V:Value}(r:mJ G h v V):mJ G' h' (v.qJ m h) V:=by
 have one:∀{v:lS}{V:Value},mJ G h v V→mJ G' h' (v.oL m h) V:=fun r=>Em i l st r
 have agg:∀(cs:List lS) (X:Value),mJ G h (.agg cs) X→mJ G' h' (.agg (cs.map (·.oL m h))) X:=by
  intro cs X hx
  obtain⟨C,rfl,hl,hr⟩:=hx.tB
  refine .agg _ _ (by simpa using hl) fun i u hu=>?_
  simp only [ak4,ah7] at hu
  obtain⟨a,ha,rfl⟩:=hu
  exact one (hr i a ha)
 cases v with
 | agg cs=>exact agg cs V r
 | tuple vs =>
  obtain⟨C,rfl,hl,hr⟩:=r.Aq
  refine .tuple _ _ (by simpa using hl) fun i u hu=>?_
  simp only [ak4,ah7] at hu
  obtain⟨a,ha,rfl⟩:=hu
  have:=hr i a ha
  cases a <;> first | exact agg _ _ this | exact one this
 | iface t v =>
  obtain⟨W,rfl,hr⟩:=r.xL
  cases v <;> first | exact .iface _ _ _ (agg _ _ hr) | exact .iface _ _ _ (one hr)
 | _=>exact one r
theorem sQ:∀{cs cs':List lS},nQ m h cs=some cs'→cs'.length=cs.length∧∀(j:Nat) (c:lS),cs'[j]?=some c→c.mZ=true∧∃c0,cs[j]?=some c0∧c=c0.oL m h
 | [],cs',hc=>by simp only [nQ,ah5] at hc;subst hc;simp
 | v::r,cs',hc=>by
  simp only [nQ] at hc
  cases hk:(v.oL m h).mZ with
  | false=>rw [hk] at hc;cases hc
  | true =>
   rw [hk] at hc
   simp only [cond_true] at hc
   split at hc
   ·rename_i r' hr
    cases hc
    obtain⟨h1,h2⟩:=sQ hr
    refine⟨by simp [h1],fun j c hj=>?_⟩
    cases j with
    | zero=>simp at hj;subst hj;exact⟨hk,v,rfl,rfl⟩
    | succ j=>simpa using h2 j c (by simpa using hj)
   ·cases hc
theorem En:∀{bs bs':List mT},pC m h bs=some bs'→bs'.length=bs.length∧∀(j:Nat) (b:mT),bs[j]?=some b→∃b',bs'[j]?=some b'∧pX m h b=some b'
 | [],bs',hb=>by simp only [pC,ah5] at hb;subst hb;simp
 | b::r,bs',hb=>by
  simp only [pC] at hb
  split at hb
  ·rename_i b' r' hb' hr
   cases hb
   obtain⟨h1,h2⟩:=En hr
   refine⟨by simp [h1],fun j c hj=>?_⟩
   cases j with
   | zero=>simp at hj;subst hj;exact⟨b',rfl,hb'⟩
   | succ j=>simpa using h2 j c (by simpa using hj)
  ·cases hb
theorem S_ (ht:o_ m h=some h') (hm:m≤h.length):h'.length=m∧∀(id:Nat) (b:mT),id<m→h[id]?=some b→∃b',h'[id]?=some b'∧pX m h b=some b':=by
 obtain⟨h1,h2⟩:=En ht
 refine⟨by rw [h1];simp;omega,fun id b hid hb=>?_⟩
 exact h2 id b (by rw [ar0,if_pos hid];exact hb)
theorem wE {b b':mT}(hs:pX m h b=some b'):(∀G G':Gh,G'.nY=G.nY→G'.cur=G.cur→∀id,Kind G G' id b b')∧(b≠.free→b'≠.free)∧(∀n sz t,b=.front n sz t→b'=.front n sz t) ∧
  ∀(G:Gh) (id:Nat),nR G id b'=nR G id b:=by
 cases b with
 | cells cs =>
  simp only [pX,ah7] at hs
  obtain⟨cs',h1,rfl⟩:=hs
  refine⟨fun G G' e1 e2 id=>⟨(sQ h1).1.symm,by rw [e1],by rw [e2]⟩,by simp,by simp,by simp [nR]⟩
 | vec t sz cs =>
  simp only [pX,ah7] at hs
  obtain⟨cs',h1,rfl⟩:=hs
  exact⟨fun G G' e1 e2 id=>by simp [Kind,e1,e2],by simp,by simp,by simp [nR]⟩
 | tcells t cs =>
  simp only [pX,ah7] at hs
  obtain⟨cs',h1,rfl⟩:=hs
  exact⟨fun G G' e1 e2 id=>⟨rfl,(sQ h1).1.symm,by rw [e1],by rw [e2]⟩,by simp,by simp,by simp [nR]⟩
 | map es =>
  simp only [pX] at hs
  cases ha:es.all (fun e=>e.2.sM m) <;> rw [ha] at hs <;> cases hs
  exact⟨fun G G' e1 e2 id=>by simp [Kind,e1,e2],by simp,by simp,by simp⟩
 | free=>cases hs;exact⟨fun G G' e1 e2 id=>trivial,by simp,by simp,by simp⟩
 | gone=>cases hs;exact⟨fun G G' e1 e2 id=>by simp [Kind,e1,e2],by simp,by simp,by simp⟩
 | front n sz t=>cases hs;exact⟨fun G G' e1 e2 id=>by simp [Kind,e1,e2],by simp,by simp,by simp⟩
end
theorem wF {G G1:Gh}{h h1 h2:lT}{w w1:World}(x:Ext G h w G1 h1 w1) (i1:Inv G1 h1 w1) (ht:o_ h.length h1=some h2) :
  ∃G2,Inv G2 h2 w1∧Ext G h w G2 h2 w1∧h2.length=h.length∧(∀(v:lS) (V:Value),mJ G1 h1 v V→mJ G2 h2 (v.qJ h.length h1) V)∧∀b k v,G1.H b k=some v→G2.H b k=some v:=by
 classical
 have hm:h.length≤h1.length:=by
  by_cases h0:h.length=0
  ·omega
  ·have hlt:h.length-1<h.length:=by omega
   obtain⟨bl',hb,_⟩:=x.kinds (h.length-1) _ (ag8 hlt)
   have:=(ag0.1 hb).1
   omega
 let Drop:Nat→Prop:=fun b=>∃id,h.length≤id∧owner G1 h1 id=some b∧((∃cs,h1[id]?=some (.cells cs))∨∃tot sz cs,h1[id]?=some (.vec tot sz cs))
 let G2:Gh:={ G1 with H:=fun b k=>if Drop b then w1.cell? ⟨b,k,none⟩ else G1.H b k }
 have hH:∀b k,G2.H b k=if Drop b then w1.cell? ⟨b,k,none⟩ else G1.H b k:=fun _ _=>rfl
 have dropNone:∀b,Drop b→∀k,G1.H b k=none:=by
  rintro b ⟨id,_,ho,⟨cs,hc⟩ | ⟨tot,sz,cs,hc⟩⟩ k
  ·rw [oC hc] at ho
   obtain⟨C,e,_,_,h3,_⟩:=i1.nY id _ hc
   cases ho;exact h3 k
  ·rw [oC hc] at ho
   obtain⟨b',cap',C,e0,g1,g2,g3,g4,g5,g6,g7,g8,g9⟩:=i1.nY id _ hc
   simp only [nR,g1,Value.ownBlock,ah5] at ho
   subst ho;exact g8 k
 have hmono:∀b k v,G1.H b k=some v→G2.H b k=some v:=by
  intro b k v hv
  rw [hH]
  split
  ·rename_i hd;rw [dropNone b hd k] at hv;cases hv
  ·exact hv
 obtain⟨tl,tb⟩:=S_ ht hm
 have back:∀(id:Nat) (b':mT),h2[id]?=some b'→id<h.length∧∃b,h1[id]?=some b∧pX h.length h1 b=some b':=by
  intro id b' hb'
  have hid:id<h.length:=by rw [←tl];exact(ag0.1 hb').1
  have hlt:id<h1.length:=by omega
  obtain⟨b'',e1,e2⟩:=tb id _ hid (ag8 hlt)
  rw [hb'] at e1;cases e1
  exact⟨hid,_,ag8 hlt,e2⟩
 have l:Left G1 h1 G2 h2 h.length:=by
  refine⟨hmono,rfl,rfl,fun id hid ⟨b,hb,hf⟩=>?_,fun id n sz t hid hf=>?_,fun id hid ⟨b,hb,hf,hn⟩=>?_⟩
  ·obtain⟨b',e1,e2⟩:=tb id b hid hb
   exact⟨b',e1,(wE e2).2.1 hf⟩
  ·obtain⟨b',e1,e2⟩:=tb id _ hid hf
   rw [e1,(wE e2).2.2.1 n sz _ rfl]
  ·obtain⟨b',e1,e2⟩:=tb id b hid hb
   have hk:=(wE e2).1 G1 G1 rfl rfl id
   exact⟨b',e1,(hk.nY hf).1,hk.nf hf hn⟩
 have st:Wx G1 h1 w1 G2 h.length:=by
  refine⟨fun id cs hid hc k=>?_,fun id tot sz cs b hid hc ho k=>?_⟩
  ·rw [hH,if_pos ⟨id,hid,by rw [oC hc];rfl,.inl ⟨cs,hc⟩⟩]
  ·rw [hH,if_pos ⟨id,hid,by rw [oC hc];exact ho,.inr ⟨tot,sz,cs,hc⟩⟩]
 have own:∀id b,owner G2 h2 id=some b→id<h.length∧owner G1 h1 id=some b:=by
  intro id b ho
  obtain⟨bl,hb,hob⟩:=pN ho
  obtain⟨hid,b0,e1,e2⟩:=back id bl hb
  refine⟨hid,?_⟩
  rw [oC e1,←(wE e2).2.2.2]
  cases bl <;> exact hob
 have noDrop:∀id b,id<h.length→owner G1 h1 id=some b→¬Drop b:=by
  rintro id b hid ho ⟨id',hid',ho',_⟩
  have:=i1.inj id id' _ ho ho'
  omega
 have ext:Ext G h w G2 h2 w1:=by
  refine⟨x.os,x.tape,x.output,x.size,fun b hb hn=>?_,fun b k v hv=>hmono b k v (x.hmono b k v hv),fun id b ho hb=>x.own id b (own id b ho).2 hb,fun id bl hb=>?_⟩
  ·obtain⟨e1,e2⟩:=x.frame b hb hn
   refine⟨e1,fun k=>?_⟩
   rw [hH,if_neg,e2]
   rintro⟨id,hid,ho,_⟩
   exact hn id (x.own id _ ho hb)
  ·obtain⟨bl',e1,e2⟩:=x.kinds id bl hb
   obtain⟨b',e3,e4⟩:=tb id bl' (ag0.1 hb).1 e1
   exact⟨b',e3,e2.trans ((wE e4).1 G1 G2 rfl rfl id)⟩
 refine⟨G2,⟨fun b k v hv=>?_,fun id bl hb=>?_,fun a b c ha hb=>i1.inj a b c (own a c ha).2 (own b c hb).2⟩,ext,tl,fun v V r=>af5 i1 l st r,hmono⟩
 ·rw [hH] at hv
  split at hv
  ·exact hv
  ·exact i1.ok b k v hv
 ·obtain⟨hid,b0,e1,e2⟩:=back id bl hb
  have hk:=i1.nY id b0 e1
  have keepH:∀b,owner G1 h1 id=some b→∀k,G2.H b k=G1.H b k:=fun b ho k=>by rw [hH,if_neg (noDrop id b hid ho)]
  cases b0 with
  | free=>cases e2;trivial
  | gone=>cases e2;trivial
  | cells cs =>
   simp only [pX,ah7] at e2
   obtain⟨cs',e3,rfl⟩:=e2
   obtain⟨C,e,g1,g2,g3,g4⟩:=hk
   obtain⟨s1,s2⟩:=sQ e3
   refine⟨C,e,g1,by rw [s1];exact g2,fun k=>by rw [show G2.nY id=G1.nY id from rfl,keepH _ (by rw [oC e1];rfl)];exact g3 k,fun j v hv=>?_⟩
   obtain⟨k1,c0,k2,rfl⟩:=s2 j v hv
   exact⟨k1,Em i1 l st (g4 j c0 k2).2⟩
  | vec tot sz cs =>
   simp only [pX,ah7] at e2
   obtain⟨cs',e3,rfl⟩:=e2
   obtain⟨b',cap',C,e0,g1,g2,g3,g4,g5,g6,g7,g8,g9⟩:=hk
   obtain⟨s1,s2⟩:=sQ e3
   refine⟨b',cap',C,e0,g1,g2,g3,g4,g5,g6,by rw [s1];exact g7,fun k=>by rw [keepH b' (by rw [oC e1];simp [nR,g1,Value.ownBlock])];exact g8 k,fun j v hv=>?_⟩
   obtain⟨k1,c0,k2,rfl⟩:=s2 j v hv
   exact⟨k1,Em i1 l st (g9 j c0 k2).2⟩
  | tcells t cs =>
   simp only [pX,ah7] at e2
   obtain⟨cs',e3,rfl⟩:=e2
   obtain⟨C,g1,g2,g3,g4⟩:=hk
   obtain⟨s1,s2⟩:=sQ e3
   refine⟨C,g1,by rw [s1];exact g2,fun k=>by rw [show G2.nY id=G1.nY id from rfl,keepH _ (by rw [oC e1];rfl)];exact g3 k,fun j v hv=>?_⟩
   obtain⟨k1,c0,k2,rfl⟩:=s2 j v hv
   exact⟨k1,Em i1 l st (g4 j c0 k2).2⟩
  | map es =>
   simp only [pX] at e2
   cases ha:es.all (fun e=>e.2.sM h.length) <;> rw [ha] at e2 <;> cases e2
   simp only [aq5] at ha
   obtain⟨E,clock,g1,g2,g3,g4,hst⟩:=hk
   refine⟨E,clock,g1,g2,fun k=>by rw [show G2.nY id=G1.nY id from rfl,keepH _ (by rw [oC e1];rfl)];exact g3 k,fun j kv hkv=>?_,hst⟩
   obtain⟨mm,k1,k2,k3,k4⟩:=g4 j kv hkv
   exact⟨mm,k1,k2,k3.mono hmono,uT l (ha kv (aj8 hkv)) k4⟩
  | front n sz t =>
   cases e2
   rcases hk with ⟨k1,k2⟩ | ⟨b,cap,C,e,k1,k2,k3,k4,k5,k6,k7,k8⟩
   ·exact .inl ⟨k1,k2⟩
   ·exact .inr ⟨b,cap,C,e,k1,k2,k3,k4,k5,k6,fun k hk=>by rw [keepH b (by rw [oC e1];simp [nR,k1,Value.ownBlock])];exact k7 k hk,k8⟩
end
section
open Go Go.RowKit
def FR (rd:Option Nat):Fence:={ Fence.wide with round:=rd }
theorem T5 {rd:Option Nat}{n:Nat}:(FR rd).depth.isSome=true→1≤n:=fun h=>by cases h
theorem QI {rd:Option Nat}{n:Nat}{P:Program}{f:FuncId}{args:Array Value}{w:World}{S:Ending→World→Prop}(h:Calls P f args w S):CallsIn (FR rd) n P f args w S :=
 (callsIn_wide (n:=n)).2 h
theorem VE {rd:Option Nat}{n:Nat}{P:Program}{row:String}{args:Array Value}{w:World}{S:Value→World→Prop}(h:Rows P row args w S):RowsIn (FR rd) n P row args w S :=
 fun c cs _=>let ⟨v,w',r,s⟩:=h c cs;⟨v,w',r,stepsIn_wide.2 s⟩
section
variable {rd:Option Nat}{n:Nat}{P:Program}{o:Oper}{a:Act}{w:World}{K K':Act→World→Prop}{Q:Exit→Act→World→Prop}{ops:Array Oper}
theorem V5 {r:Result Next}(hK:∀a w,K a w→K' a w) (h:o.upon P a K Q r):o.uponIn (FR rd) n P a K' Q r:=by
 cases r with
 | ok x w' =>
  cases x <;> simp only [Oper.upon,Oper.uponIn] at h ⊢ <;> first
   | exact hK _ _ h
   | exact h.elim
   | exact⟨T5,VE (h.mono fun _ _ he=>hK _ _ he)⟩
   | exact⟨T5,QI (h.mono fun e _ he=>by cases e <;> first | exact hK _ _ he | exact he)⟩
 | halt x w'=>cases x <;> simp only [Oper.upon,Oper.uponIn] at h ⊢ <;> exact h
def Pe (o:Oper):Prop:=∀c,o.op≠.defer c
theorem aeS (hd:rd=none∨Pe o) (hK:∀a w,K a w→K' a w) (h:o.wp P a w K Q):o.wpIn (FR rd) n P a w K' Q:=by
 refine⟨fun _ _=>trivial,?_⟩
 have e:o.semAt (FR rd).round a.eval=execOp a.eval o:=by
  rcases hd with rfl | hd
  ·rfl
  ·exact Oper.semAt_eq _ _ _ hd
 rw [e]
 exact V5 hK h
theorem Uv (hd:rd=none∨∀o∈ops.toList,Pe o) (hno:∀a w,¬Q .outgrown a w) {i:Nat}(hK:∀a w,K a w→K' a w) (h:wpOp P ops Q i K a w):wpOpIn (FR rd) n P ops Q i K' a w:=by
 unfold wpOp at h
 unfold wpOpIn
 cases ho:ops[i]? with
 | none=>rw [ho] at h;exact hK _ _ h
 | some o =>
  simp only [ho] at h ⊢
  split at h
  ·rename_i hw
   rw [if_pos hw]
   rcases h with h | ⟨_,a',w',h⟩
   ·exact aeS (hd.imp id fun hd=>hd o (aj8 (by rw [aq2];exact ho))) hK h
   ·exact(hno _ _ h).elim
  ·rename_i hw
   rw [if_neg hw]
   exact⟨fun _ _=>trivial,hK _ _ h⟩
theorem Qm (hd:rd=none∨∀o∈ops.toList,Pe o) (hno:∀a w,¬Q .outgrown a w):∀(l:List Nat) (a:Act) (w:World),wpOps P ops Q l a w→wpOpsIn (FR rd) n P ops Q l a w
 | [],_,_,h=>h
 | i::l,a,w,h=>by
  rw [wpOps_cons] at h
  rw [wpOpsIn_cons]
  exact Uv hd hno (Qm hd hno l) h
theorem Qk (hd:rd=none∨∀o∈ops.toList,Pe o) (hno:∀a w,¬Q .outgrown a w) {md:Region.Mode}:∀(fuel:Nat) (listed:Array Bool) (a:Act) (w:World),wpAny P md ops Q fuel listed a w→wpAnyIn (FR rd) n P md ops Q fuel listed a w
 | 0,_,_,_,h=>h
 | fuel+1,listed,a,w,h=>⟨h.1,fun i hi=>Uv hd hno (Qk hd hno fuel _) (h.2 i hi)⟩
theorem aaR.wpIn {id:Nat}{draw:Bool}(hm:P.follows .mixedOrders=true) (hd:rd=none∨∀o∈ops.toList,Pe o) (hno:∀a w,¬Q .outgrown a w) (h:aaR P ops draw Q a w):(Code.region id ops draw).wpIn (FR rd) n P Q a w:=by
 cases draw with
 | false=>exact wpIn_region (Qm hd hno _ _ _ h)
 | true=>exact wpIn_region_any hm (Qk hd hno _ _ _ _ h)
end
end
section
open Go Go.RowKit
theorem wR (L:Nat) (f:lS→lS):∀(ρ pre:List lS) (i:Nat),(unpackFrom L (pre++(tV L i ρ).map f) ρ.length i pre.length).length=ρ.length ∧
  ∀(j:Nat) (v:lS),(unpackFrom L (pre++(tV L i ρ).map f) ρ.length i pre.length)[j]?=some v→v=.junk∨∃u,ρ[j]?=some u∧v=f u
 | [],pre,i=>by simp [unpackFrom]
 | u::r,pre,i=>by
  cases hb:L.testBit i with
  | true =>
   obtain⟨h1,h2⟩:=wR L f r (pre++[f u]) (i+1)
   have e1:pre++(tV L i (u::r)).map f=(pre++[f u])++(tV L (i+1) r).map f:=by simp [tV,hb]
   have e2:(pre++[f u]).length=pre.length+1:=by simp
   rw [e2] at h1 h2
   have e3:((pre++[f u])++(tV L (i+1) r).map f).getD pre.length .junk=f u:=by simp [ah6]
   rw [e1]
   simp only [ar8,unpackFrom,hb,cond_true,e3]
   refine⟨by rw [h1],fun j v hv=>?_⟩
   cases j with
   | zero=>simp at hv;exact .inr ⟨u,rfl,hv.symm⟩
   | succ j=>simpa using h2 j v (by simpa using hv)
  | false =>
   obtain⟨h1,h2⟩:=wR L f r pre (i+1)
   simp only [tV,ar8,unpackFrom,hb,cond_false,ar8]
   refine⟨by rw [h1],fun j v hv=>?_⟩
   cases j with
   | zero=>simp at hv;exact .inl hv.symm
   | succ j=>simpa using h2 j v (by simpa using hv)
theorem zB (L:Nat) (x:List lS):∀(n i j:Nat),(unpackFrom L x n i j).length=n
 | 0,_,_=>rfl
 | n+1,i,j=>by unfold unpackFrom;cases L.testBit i <;> simp [zB L x n]
theorem pP (n L:Nat) (x:List lS):(unpack n L x).length=n:=zB L x n 0 0
theorem JQ {n L:Nat}{ρ:List lS}(f:lS→lS) (hn:ρ.length=n) (j:Nat) (v:lS) (hv:(unpack n L ((pack L ρ).map f))[j]?=some v):v=.junk∨∃u,ρ[j]?=some u∧v=f u:=by
 subst hn
 have:=(wR L f ρ [] 0).2 j v
 simpa [unpack,pack] using this (by simpa [unpack,pack] using hv)
section
variable {J:Act→Prop}{cx:Cx}{ρ:List lS}{h:lT}{kn:List lS→lT→Option R}{ke:Ex→List lS→lT→Option R}{r:R}{G:Gh}{w:World}{a:Act}{Q:Exit→Act→World→Prop}{n L:Nat}
theorem o9.FD {G':Gh}{h':lT}(s:o9 J G h ρ a) (hn:ρ.length=n) (f:lS→lS) (hf:∀v V,mJ G h v V→mJ G' h' (f v) V):o9 J G' h' (unpack n L ((pack L ρ).map f)) a:=by
 refine⟨by rw [pP,←hn,s.len],fun j v hv=>?_,s.df⟩
 rcases JQ f hn j v hv with rfl | ⟨u,hu,rfl⟩
 ·exact .p _ _ (.junk _)
 ·exact hf u _ (s.rel j u hu)
theorem o9.pack (s:o9 J G h ρ a) (hn:ρ.length=n):o9 J G h (unpack n L (pack L ρ)) a:=by
 have:=s.FD (L:=L) hn id fun _ _ r=>r
 simpa using this
theorem sC.trans {G':Gh}{h':lT}{w':World}(p:sC J n kn ke r G h w Q) (x:Ext G h w G' h' w'):sC J n kn ke r G' h' w' Q :=
 ⟨fun ρ' h'' G'' w'' a' h1 h2 h3 h4=>p.1 ρ' h'' G'' w'' a' h1 (x.trans h2) h3 h4,fun e ρ' h'' G'' w'' a' h1 h2 h3 h4=>p.2.1 e ρ' h'' G'' w'' a' h1 (x.trans h2) h3 h4,
  fun v ρ' h'' G'' w'' a' V h1 h2 h3 h4 h5=>p.2.2 v ρ' h'' G'' w'' a' V h1 (x.trans h2) h3 h4 h5⟩
theorem sC.pack {r0:R}(hn:r0.1=.normal→kn (unpack n L r0.2.1) r0.2.2=some r) (he:∀e,r0.1=e→e≠.normal→ke e (unpack n L r0.2.1) r0.2.2=some r) (p:sC J n kn ke r G h w Q) :
  sC J n (Gt L) (Gr L) r0 G h w Q:=by
 refine⟨fun ρ' h' G' w' a' h1 h2 h3 h4 h5=>?_,fun e ρ' h' G' w' a' h1 h2 h3 h4 h5=>?_,fun v ρ' h' G' w' a' V h1 h2 h3 h4 h5=>?_⟩
 ·cases h1
  exact p.1 _ h' G' w' a' (hn rfl) h2 h3 (h4.pack h5) (pP _ _ _)
 ·cases h1
  cases e with
  | exit id=>exact p.2.1 (.exit id) _ h' G' w' a' (he _ rfl (by simp)) h2 h3 (h4.pack h5) (pP _ _ _)
  | ret=>exact p.2.1 .ret _ h' G' w' a' (he _ rfl (by simp)) h2 h3 (h4.pack h5) (pP _ _ _)
  | _=>trivial
 ·cases h1
  exact p.2.2 v _ h' G' w' a' V (he _ rfl (by simp)) h2 h3 h4 h5
theorem sC.aiQ {j:Bool}{r0:R}(hn:r0.1=.normal→kn (unpack n L r0.2.1) r0.2.2=some r) (he:∀e,r0.1=e→e≠.normal→ke e (unpack n L r0.2.1) r0.2.2=some r) (p:sC J n kn ke r G h w Q) :
  sC J n (Dc j h.length L .normal) (Dc j h.length L) r0 G h w Q:=by
 cases j with
 | false=>exact sC.pack hn he p
 | true =>
  refine⟨fun ρ' h' G' w' a' h1 h2 h3 h4 h5=>?_,fun e ρ' h' G' w' a' h1 h2 h3 h4 h5=>?_,fun v ρ' h' G' w' a' V h1 h2 h3 h4 h5=>?_⟩
  all_goals
   unfold Dc mK at h1
   simp only [ah7] at h1
   obtain⟨h9,ht,rfl⟩:=h1
   obtain⟨G3,i3,x3,hlen3,hrel,_⟩:=wF h2 h3 ht
  ·exact p.1 _ h9 G3 w' a' (hn rfl) x3 i3 (h4.FD h5 _ hrel) (pP _ _ _)
  ·cases e with
   | exit id=>exact p.2.1 (.exit id) _ h9 G3 w' a' (he _ rfl (by simp [Ex.qJ])) x3 i3 (h4.FD h5 _ hrel) (pP _ _ _)
   | ret=>exact p.2.1 .ret _ h9 G3 w' a' (he _ rfl (by simp [Ex.qJ])) x3 i3 (h4.FD h5 _ hrel) (pP _ _ _)
   | _=>trivial
  ·exact p.2.2 _ _ h9 G3 w' a' V (he _ rfl (by simp [Ex.qJ])) x3 i3 (hrel _ _ h4) h5
theorem sC.inBlock {id:Nat}(p:sC J n kn ke r G h w Q):sC J n kn (fun e ρ' h'=>e.inBlock id (kn ρ' h') fun e=>ke e ρ' h') r G h w (Exit.inBlock id Q):=by
 refine⟨p.1,fun e ρ' h' G' w' a' h1 h2 h3 h4 h5=>?_,fun v ρ' h' G' w' a' V h1 h2 h3 h4 h5=>p.2.2 v ρ' h' G' w' a' V h1 h2 h3 h4 h5⟩
 cases e with
 | exit j =>
  simp only [Ex.inBlock] at h1
  simp only [Exit.inBlock]
  cases hj:j == id with
  | true =>
   rw [hj] at h1
   rw [if_pos (by simpa using hj)]
   exact p.1 ρ' h' G' w' a' h1 h2 h3 h4 h5
  | false =>
   rw [hj] at h1
   rw [if_neg (by simpa using hj)]
   exact p.2.1 (.exit j) ρ' h' G' w' a' h1 h2 h3 h4 h5
 | ret=>exact p.2.1 .ret ρ' h' G' w' a' h1 h2 h3 h4 h5
 | _=>trivial
def LI (lp:(List lS×lT→Option R)→List lS×lT→Option R):Prop:=∀F s r,lp F s=some r→∃n,qT n F s=some r
theorem Qz {v:lS}{t e:Option R}(hb:mH v t e=some r):∃b,v=.bool b∧(if b then t else e)=some r:=by
 unfold mH at hb
 split at hb
 ·rename_i b;exact⟨b,rfl,by cases b <;> exact hb⟩
 ·cases hb
def Wo (J:Act→Prop):Code→Prop
 | .region _ ops _=>Qs J ops.toList
 | .seq a b=>Wo J a∧Wo J b
 | .cond _ a b=>Wo J a∧Wo J b
 | .block _ c=>Wo J c
 | .loop c=>Wo J c
 | .scope c=>Wo J c
 | _=>True
theorem sC.scope (p:sC J n kn ke r G h w Q):sC J n kn ke r G h w (Exit.noGoto Q):=by
 refine⟨fun ρ' h' G' w' a' h1 h2 h3 h4 h5=>p.1 ρ' h' G' w' a' h1 h2 h3 h4 h5,fun e ρ' h' G' w' a' h1 h2 h3 h4 h5=>?_,fun v ρ' h' G' w' a' V h1 h2 h3 h4 h5=>p.2.2 v ρ' h' G' w' a' V h1 h2 h3 h4 h5⟩
 have:=p.2.1 e ρ' h' G' w' a' h1 h2 h3 h4 h5
 cases e <;> first | exact this | trivial
theorem YQ {id:Nat}{Q:Exit→Act→World→Prop}(hno:∀a w,¬Q .outgrown a w):∀a w,¬Exit.inBlock id Q .outgrown a w:=hno
theorem Cm {rd:Option Nat}{p q:Bool}(h:rd=none∨(p&&q)=true):(rd=none∨p=true)∧(rd=none∨q=true):=by
 rcases h with h | h
 ·exact⟨.inl h,.inl h⟩
 ·simp only [aq1] at h;exact⟨.inr h.1,.inr h.2⟩
theorem GM {rd:Option Nat}{n₀:Nat}(hm:cx.P.follows .mixedOrders=true) (hX:tK cx.P cx.A) (hK:rA cx.P cx.A cx.K) (hlp:LI cx.lp):∀(c:Code) (L:Nat) (ρ:List lS) (h:lT) (kn:List lS→lT→Option R) (ke:Ex→List lS→lT→Option R) (r:R) (G:Gh) (w:World) (a:Act) (Q:Exit→Act→World→Prop),Wo J c →
  evalCode cx c L ρ h kn ke=some r→Inv G h w→qC cx.A G h w→o9 J G h ρ a→ρ.length=cx.n→sC J cx.n kn ke r G h w Q→(rd=none∨Ck c=true)→(∀a w,¬Q .outgrown a w)→c.wpIn (FR rd) n₀ cx.P Q a w:=by
 intro c
 induction c with
 | skip =>
  intro L ρ h kn ke r G w a Q hJ hb i gl s hn hk hp0 hno
  exact wpIn_skip (hk.1 ρ h G w a hb (Ext.refl G h w) i s hn)
 | region id ops draw =>
  intro L ρ h kn ke r G w a Q hJ hb i gl s hn hk hp0 hno
  refine aaR.wpIn hm (hp0.imp (fun x=>x) fun hp o ho c e=>by
   have:=aq5.1 hp o ho
   rw [e] at this;cases this) hno (Fe hJ hm hX hK hb i gl s hn hk.1 fun v h' G' w' a' V e1 e2 e3 e4 e5=>?_)
  cases hp:cx.pan with
  | true=>rw [hp] at e1;exact hk.2.2 v ρ h' G' w' a' V e1 e2 e3 e4 e5
  | false=>rw [hp] at e1;cases e1
 | seq x y ihx ihy =>
  intro L ρ h kn ke r G w a Q hJ hb i gl s hn hk hp0 hno
  refine wpIn_seq (ihx _ ρ h _ _ r G w a _ hJ.1 hb i gl s hn ⟨fun ρ' h' G' w' a' h1 h2 h3 h4 h5=>?_,fun e ρ' h' G' w' a' h1 h2 h3 h4 h5=>?_,fun v ρ' h' G' w' a' V h1 h2 h3 h4 h5=>hk.2.2 v ρ' h' G' w' a' V h1 h2 h3 h4 h5⟩ (Cm hp0).1 hno)
  ·exact ihy L ρ' h' kn ke r G' w' a' Q hJ.2 h1 h3 (gl.mono h2) h4 h5 (hk.trans h2) (Cm hp0).2 hno
  ·have:=hk.2.1 e ρ' h' G' w' a' h1 h2 h3 h4 h5
   cases e <;> first | exact this | trivial
 | cond c x y ihx ihy =>
  intro L ρ h kn ke r G w a Q hJ hb i gl s hn hk hp0 hno
  have fin:∀{v:lS}{t e:Option R}{r:R}{kn:List lS→lT→Option R}{ke:Ex→List lS→lT→Option R},v=qV cx.A ρ c→mH v t e=some r→t=evalCode cx x L ρ h kn ke→e=evalCode cx y L ρ h kn ke→sC J cx.n kn ke r G h w Q→(Code.cond c x y).wpIn (FR rd) n₀ cx.P Q a w:=by
   intro v t e r kn ke hv hc ht he hk
   obtain⟨b,rfl,hb⟩:=Qz hc
   have hcv:=(hv ▸ s.eval gl.cells c).uX
   subst ht;subst he
   refine wpIn_cond hcv ?_
   cases b with
   | true=>exact ihx L ρ h kn ke r G w a Q hJ.1 hb i gl s hn hk (Cm hp0).1 hno
   | false=>exact ihy L ρ h kn ke r G w a Q hJ.2 hb i gl s hn hk (Cm hp0).2 hno
  simp only [evalCode] at hb
  cases hf:uL x&&uL y with
  | true =>
   rw [hf] at hb
   simp only [cond_true] at hb
   obtain⟨r0,hr0,hk0⟩:=ac6.1 hb
   refine fin rfl hr0 rfl rfl (.aiQ (fun he=>?_) (fun e he hne=>?_) hk)
   ·rw [he] at hk0
    cases hl:cx.pan || (leaves [] x || leaves [] y) <;> rw [hl] at hk0 <;> exact hk0
   ·rw [he] at hk0
    cases hl:cx.pan || (leaves [] x || leaves [] y) <;> rw [hl] at hk0
    ·cases e <;> first | exact absurd rfl hne | cases hk0
    ·cases e <;> first | exact absurd rfl hne | exact hk0
  | false =>
   rw [hf] at hb
   exact fin rfl hb rfl rfl hk
 | block id c ih =>
  intro L ρ h kn ke r G w a Q hJ hb i gl s hn hk hp0 hno
  refine wpIn_block ?_
  simp only [evalCode] at hb
  cases hf:decide (2≤zM id c+bif uL c then 1 else 0) with
  | true =>
   rw [hf] at hb
   simp only [cond_true] at hb
   obtain⟨r0,hr0,hk0⟩:=ac6.1 hb
   refine ih L ρ h _ _ r0 G w a _ hJ hr0 i gl s hn (.aiQ (fun he=>?_) (fun e he hne=>?_) (hk.inBlock (id:=id))) hp0 (YQ hno)
   ·rw [he] at hk0;exact hk0
   ·rw [he] at hk0;exact hk0
  | false =>
   rw [hf] at hb
   exact ih L ρ h _ _ r G w a _ hJ hb i gl s hn hk.inBlock hp0 (YQ hno)
 | scope c ih =>
  intro L ρ h kn ke r G w a Q hJ hb i gl s hn hk hp0 hno
  rcases hp0 with rfl | hp0
  ·exact(wpIn_wide (n:=n₀)).2 (wp_scope_straight ((wpIn_wide (n:=n₀)).1 (ih L ρ h kn ke r G w a _ hJ hb i gl s hn hk.scope (.inl rfl) (fun a w hq=>hno a w hq))))
  ·cases hp0
 | label l =>
  intro L ρ h kn ke r G w a Q hJ hb i gl s hn hk hp0 hno
  exact wpIn_label (hk.1 ρ h G w a hb (Ext.refl G h w) i s hn)
 | loop c ih =>
  intro L ρ h kn ke r G w a Q hJ hb i gl s hn hk hp0 hno
  simp only [evalCode] at hb
  obtain⟨r0,hr0,hk0⟩:=ac6.1 hb
  obtain⟨n,hloop⟩:=hlp _ _ _ hr0
  refine wpIn_loop_rounds n ?_
  have key:∀(n:Nat) (G':Gh) (h':lT) (w':World) (a':Act) (x:List lS),qT n (fun s=>evalCode cx c (L ||| ue cx.full c) (unpack cx.n (L ||| ue cx.full c) s.1) s.2 (Bt cx.lkp h.length (L ||| ue cx.full c) .normal) (Bt cx.lkp h.length (L ||| ue cx.full c))) (x,h')=some r0→(cx.lkp=true∨h'.length=h.length) →
    Ext G h w G' h' w'→Inv G' h' w'→o9 J G' h' (unpack cx.n (L ||| ue cx.full c) x) a'→Code.roundsIn (FR rd) n₀ cx.P c Q n a' w':=by
   intro n
   induction n with
   | zero=>intro G' h' w' a' x hl;simp [qT] at hl
   | succ n ihn =>
    intro G' h' w' a' x hl hlen x1 i1 s1
    simp only [qT] at hl
    obtain⟨r1,hr1,hl⟩:=ac6.1 hl
    rw [roundsIn_succ]
    have round:∀(e:Ex) (ρ':List lS) (h'':lT) (G2:Gh) (w2:World) (a2:Act),Bt cx.lkp h.length (L ||| ue cx.full c) e ρ' h''=some r1→Ext G' h' w' G2 h'' w2→Inv G2 h'' w2→o9 J G2 h'' ρ' a2→ρ'.length=cx.n →
      ∃G3 h3 f e3,r1=(e3,(pack (L ||| ue cx.full c) ρ').map f,h3)∧Inv G3 h3 w2∧Ext G' h' w' G3 h3 w2∧(cx.lkp=true∨h3.length=h.length)∧(∀v V,mJ G2 h'' v V→mJ G3 h3 (f v) V) ∧
       (e=.normal→e3=.normal)∧(∀id,e=.exit id→e3=.exit id)∧(e=.ret→e3=.ret):=by
     intro e ρ' h'' G2 w2 a2 e1 e2 e3 e4 e5
     cases hlk:cx.lkp with
     | true =>
      rw [hlk] at e1
      simp only [Bt,ah5] at e1
      exact⟨G2,h'',id,e,by rw [←e1];simp,e3,e2,.inl rfl,fun _ _ h=>h,fun h=>h,fun _ h=>h,fun h=>h⟩
     | false =>
      have hlen:h'.length=h.length:=by
       rcases hlen with h1 | h1
       ·rw [hlk] at h1;cases h1
       ·exact h1
      rw [hlk] at e1
      simp only [Bt] at e1
      unfold endRound mK at e1
      simp only [ah7] at e1
      obtain⟨h3,ht,rfl⟩:=e1
      rw [←hlen] at ht
      obtain⟨G3,i3,x3,hlen3,hrel,_⟩:=wF e2 e3 ht
      rw [hlen] at hrel
      exact⟨G3,h3,(·.qJ h.length h''),e.qJ h.length h'',rfl,i3,x3,.inr (hlen3.trans hlen),hrel,fun h=>by rw [h];rfl,fun _ h=>by rw [h];rfl,fun h=>by rw [h];rfl⟩
    refine ih _ _ h' _ _ r1 G' w' a' _ hJ hr1 i1 (gl.mono x1) s1 (pP _ _ _) ⟨fun ρ' h'' G2 w2 a2 e1 e2 e3 e4 e5=>?_,fun e ρ' h'' G2 w2 a2 e1 e2 e3 e4 e5=>?_,fun v ρ' h'' G2 w2 a2 V e1 e2 e3 e4 e5=>?_⟩ hp0 hno
    ·obtain⟨G3,h3,f,ee,rfl,i3,x3,hl3,hrel,q1,_,_⟩:=round _ _ _ _ _ _ e1 e2 e3 e4 e5
     obtain rfl:=q1 rfl
     exact ihn G3 h3 w2 a2 _ hl hl3 (x1.trans x3) i3 (e4.FD e5 _ hrel)
    ·obtain⟨G3,h3,f,ee,rfl,i3,x3,hl3,hrel,_,q2,q3⟩:=round _ _ _ _ _ _ e1 e2 e3 e4 e5
     have s3:=e4.FD (L:=L ||| ue cx.full c) e5 _ hrel
     cases e with
     | exit id =>
      obtain rfl:=q2 id rfl
      simp only [Ex.nC,ah5] at hl
      subst hl
      exact hk.2.1 (.exit id) _ h3 G3 w2 a2 hk0 (x1.trans x3) i3 s3 (pP _ _ _)
     | ret =>
      obtain rfl:=q3 rfl
      simp only [Ex.nC,ah5] at hl
      subst hl
      exact hk.2.1 .ret _ h3 G3 w2 a2 hk0 (x1.trans x3) i3 s3 (pP _ _ _)
     | _=>trivial
    ·cases hlk:cx.lkp with
     | true =>
      rw [hlk] at e1
      simp only [Bt,ah5] at e1
      subst e1
      simp only [Ex.nC,ah5] at hl
      subst hl
      exact hk.2.2 _ _ _ G2 w2 a2 V hk0 (x1.trans e2) e3 e4 e5
     | false =>
      have hlen:h'.length=h.length:=by
       rcases hlen with h1 | h1
       ·rw [hlk] at h1;cases h1
       ·exact h1
      rw [hlk] at e1
      simp only [Bt] at e1
      unfold endRound mK at e1
      simp only [ah7] at e1
      obtain⟨h3,ht,rfl⟩:=e1
      rw [←hlen] at ht
      obtain⟨G3,i3,x3,hlen3,hrel,_⟩:=wF e2 e3 ht
      rw [hlen] at hrel
      simp only [Ex.qJ,Ex.nC,ah5] at hl
      subst hl
      exact hk.2.2 _ _ h3 G3 w2 a2 V hk0 (x1.trans x3) i3 (hrel _ _ e4) e5
  exact key n G h w a _ hloop (.inr rfl) (Ext.refl G h w) i (s.pack hn)
 | exit id =>
  intro L ρ h kn ke r G w a Q hJ hb i gl s hn hk hp0 hno
  exact wpIn_exit (hk.2.1 (.exit id) ρ h G w a hb (Ext.refl G h w) i s hn)
 | ret =>
  intro L ρ h kn ke r G w a Q hJ hb i gl s hn hk hp0 hno
  exact wpIn_ret (hk.2.1 .ret ρ h G w a hb (Ext.refl G h w) i s hn)
 | _=>intro L ρ h kn ke r G w a Q _ hb;simp [evalCode] at hb
theorem u5 (hm:cx.P.follows .mixedOrders=true) (hX:tK cx.P cx.A) (hK:rA cx.P cx.A cx.K) (hlp:LI cx.lp) (c:Code) (L:Nat) (ρ:List lS) (h:lT) (kn:List lS→lT→Option R) (ke:Ex→List lS→lT→Option R) (r:R) (G:Gh) (w:World) (a:Act) (Q:Exit→Act→World→Prop) (hJ:Wo J c)
  (hb:evalCode cx c L ρ h kn ke=some r) (i:Inv G h w) (gl:qC cx.A G h w) (s:o9 J G h ρ a) (hn:ρ.length=cx.n) (hk:sC J cx.n kn ke r G h w Q) (hno:∀a w,¬Q .outgrown a w):c.wp cx.P Q a w :=
 (wpIn_wide (n:=0)).1 (GM (rd:=none) hm hX hK hlp c L ρ h kn ke r G w a Q hJ hb i gl s hn hk (.inl rfl) hno)
theorem J_ {P:Program}{x:ResultVar}{v:lS}(hb:w6 P ρ h x=some v) (i:Inv G h w) (s:o9 J G h ρ a) :
  ∃V,(match x with | .tmp t=>(pure (a.tmps.getD t undef):Sem Value) | .cell b t=>do loadVar t (←asAddr (a.tmps.getD b undef))).run P w=.ok V w∧mJ G h v V:=by
 cases x with
 | tmp t=>simp only [w6,ah5] at hb;subst hb;exact⟨_,Sem.run_pure ..,s.get t⟩
 | cell b t =>
  simp only [w6] at hb
  split at hb
  ·rename_i g n hg hn
   have hx:=s.get b
   obtain⟨V,h1,h2⟩:=F4 (P:=P) hg hn i hb hx
   refine⟨V,?_,h2⟩
   have:∃A,a.tmps.getD b undef=.pointer (some A):=by
    generalize ρ.getD b .junk=x at hb hx
    generalize a.tmps.getD b undef=X at hx
    unfold mF at hb
    split at hb
    ·have hp:=hx.BL
     cases hp with | pptr cs b off F=>exact⟨_,rfl⟩
    ·obtain⟨rfl,_⟩:=hx.xF;exact⟨_,rfl⟩
    ·obtain⟨_,rfl,_⟩:=hx.B6;exact⟨_,rfl⟩
    ·cases hb
   obtain⟨A,hA⟩:=this
   rw [hA] at h1
   dsimp only
   rw [hA]
   simpa [Instr.loadAt,Instr.sureAddr,asAddr] using h1
  ·cases hb
theorem zN {P:Program}{fn:Func}{vs:List lS}(hb:fn.results.toList.mapM (w6 P ρ h)=some vs) (i:Inv G h w) (s:o9 J G h ρ a) :
  ∃V,(results fn a.tmps).run P w=.ok V w∧mJ G h (oneOf vs) V:=by
 have key:∀(l:List ResultVar) (vs:List lS),l.mapM (w6 P ρ h)=some vs→∃Vs:List Value,(l.mapM (fun x:ResultVar=>match x with | .tmp t=>(pure (a.tmps.getD t undef):Sem Value) | .cell b t=>do loadVar t (←asAddr (a.tmps.getD b undef)))).run P w=.ok Vs w ∧
   vs.length=Vs.length∧∀(j:Nat) (v:lS),vs[j]?=some v→mJ G h v (Vs.getD j undef):=by
  intro l
  induction l with
  | nil=>intro vs hv;simp at hv;subst hv;exact⟨[],by simp [Sem.run_pure],rfl,by simp⟩
  | cons x l ih =>
   intro vs hv
   simp only [List.mapM_cons,Option.bind_eq_bind,ac6] at hv
   obtain⟨v,hv1,us,hus,hv⟩:=hv
   simp only [Option.pure_def,ah5] at hv;subst hv
   obtain⟨V,h1,h2⟩:=J_ hv1 i s
   obtain⟨Vs,h3,h4,h5⟩:=ih us hus
   refine⟨V::Vs,?_,by simp [h4],fun j u hu=>?_⟩
   ·simp only [List.mapM_cons,Sem.run_bind,h1,Result.andThen_ok,h3,Sem.run_pure]
   ·cases j with
    | zero=>simp at hu;subst hu;exact h2
    | succ j=>simpa using h5 j u (by simpa using hu)
 obtain⟨Vs,h1,h2,h3⟩:=key _ _ hb
 have h4:(fn.results.mapM (fun x:ResultVar=>match x with | .tmp t=>(pure (a.tmps.getD t undef):Sem Value) | .cell b t=>do loadVar t (←asAddr (a.tmps.getD b undef)))).run P w=.ok Vs.toArray w:=by
  rw [Array.mapM_eq_mapM_toList,map_eq_pure_bind]
  simp only [Sem.run_bind,h1,Result.andThen_ok,Sem.run_pure]
 refine⟨if h:Vs.toArray.size=1 then Vs.toArray[0] else .tuple Vs.toArray,?_,?_⟩
 ·have e:results fn a.tmps=(fn.results.mapM (fun x:ResultVar=>match x with | .tmp t=>(pure (a.tmps.getD t undef):Sem Value) | .cell b t=>do loadVar t (←asAddr (a.tmps.getD b undef)))).bind fun vs=>(pure (if h:vs.size=1 then vs[0] else .tuple vs):Sem Value):=rfl
  rw [e]
  show(Bind.bind _ _:Sem Value).run P w=_
  rw [Sem.run_bind,h4,Result.andThen_ok,Sem.run_pure]
 ·match vs,Vs,h2,h3 with
  | [v],[V],_,h3=>simpa [oneOf] using h3 0 v rfl
  | [],[],_,_=>exact mJ.undef
  | u::v::vs,U::V::Vs,h2,h3 =>
   have:oneOf (u::v::vs)=.tuple (u::v::vs):=rfl
   rw [this]
   simp only [List.size_toArray,ar8,Nat.add_eq_right,Nat.add_one_ne_zero,reduceDIte]
   refine .tuple _ _ (by simpa using h2) fun j x hx=>?_
   have:=h3 j x hx
   rw [ah6] at this
   rwa [aj5,List.getElem?_toArray]
  | [],_::_,h2,_=>simp at h2
  | _::_,[],h2,_=>simp at h2
  | [_],_::_::_,h2,_=>simp at h2
  | _::_::_,[_],h2,_=>simp at h2
end
end
section
open Go Go.RowKit
section
variable {cx:Cx}{ops:Array Oper}{h:lT}{G:Gh}{w:World}{a:Act}{r:R}
def JD (L:Nat) (a0:Act) (a:Act):Prop:=a.defers=a0.defers∧a.tmps.size=a0.tmps.size∧∀t,L.testBit t=true→a.tmps.getD t undef=a0.tmps.getD t undef
theorem JD.put {L:Nat}{a0:Act}{dst:Option Tmp}{V:Value}(h:JD L a0 a) (hd:∀d,dst=some d→L.testBit d=false):JD L a0 (a.put dst V):=by
 cases dst with
 | none=>exact h
 | some d =>
  refine⟨h.1,by simpa [Act.put] using h.2.1,fun t ht=>?_⟩
  rw [←h.2.2 t ht]
  have hne:d≠t:=by
   rintro rfl
   rw [hd d rfl] at ht;cases ht
  simp [Act.put,aj5,Array.getElem?_setIfInBounds,hne]
theorem vO {L:Nat}{a0:Act}:∀{b:Code},BI L b=true→Wo (JD L a0) b
 | .region _ ops _,hb=>by
  simp only [BI,aq5] at hb
  intro o ho a V hj
  refine hj.put fun d hd=>?_
  have:=hb o ho
  rw [hd] at this
  simpa using this
 | .seq x y,hb=>by
  simp only [BI,aq1] at hb
  exact⟨vO hb.1,vO hb.2⟩
 | .cond _ x y,hb=>by
  simp only [BI,aq1] at hb
  exact⟨vO hb.1,vO hb.2⟩
 | .block _ c,hb=>vO (b:=c) hb
 | .loop c,hb=>vO (b:=c) hb
 | .skip,_=>trivial
 | .exit _,_=>trivial
 | .ret,_=>trivial
 | .scope _,hb=>by simp [BI] at hb
 | .label _,_=>trivial
 | .goto _,_=>trivial
 | .refuse _,_=>trivial
 | .rangeFunc ..,_=>trivial
theorem rS {D:List Deferred}:∀c:Code,Wo (fun a=>a.defers=D) c
 | .region _ ops _=>fun o _ a V h=>by cases o.dst <;> exact h
 | .seq a b=>⟨rS a,rS b⟩
 | .cond _ a b=>⟨rS a,rS b⟩
 | .block _ c=>rS c
 | .loop c=>rS c
 | .scope c=>rS c
 | .skip | .exit _ | .ret=>trivial
 | .label _ | .goto _ | .refuse _ | .rangeFunc ..=>trivial
theorem BS {args:List lS}{X:Array Value}{n:Nat}(hx:xP G h args X) (hn:args.length≤n) :
  o9 (fun a=>a.defers=[]) G h (args++ak7 (n-args.length) (.tuple [])) { tmps:=X++Array.replicate (n-X.size) undef,defers:=[] }:=by
 refine⟨by simp [hx.1],fun j v hv=>?_,rfl⟩
 have hs:=hx.1
 simp only [aj5]
 by_cases hj:j<args.length
 ·rw [aq3 hj] at hv
  rw [Array.getElem?_append_left (by omega)]
  have:=hx.2 j v hv
  rwa [aj5] at this
 ·rw [ak0 (by omega)] at hv
  rw [Array.getElem?_append_right (by omega)]
  rw [List.getElem?_replicate] at hv
  split at hv
  ·cases hv
   rename_i hlt
   rw [Array.getElem?_replicate,if_pos (by omega)]
   exact .undef
  ·cases hv
theorem FX {P:Program}{Q:Exit→Act→List Frame→World→Prop}{cs:List Frame}(hno:∀a w,¬Q .outgrown a cs w):∀(l:List Nat) (a:Act) (w:World),
  wpOps P ops (fun e a w=>Q e a cs w) l a w→wpOpsS P ops Q l a cs w
 | [],a,w,h=>h
 | i::rest,a,w,h=>by
  have ih:=FX (P:=P) (Q:=Q) (cs:=cs) hno rest
  simp only [wpOps,wpOpsS] at h ⊢
  cases ho:ops[i]? with
  | none=>simp only [ho] at h ⊢;exact ih a w h
  | some o =>
   simp only [ho] at h ⊢
   by_cases hw:Region.wanted o (yielded ops a.tmps)=true
   ·simp only [hw,if_true] at h ⊢
    rcases h with h | ⟨_,x,y,hl⟩
    ·have h':o.upon P a (fun a' w'=>wpOpsS P ops Q rest a' cs w') (fun e a' w'=>Q e a' cs w') ((execOp a.eval o).run P w):=Oper.wp_mono (fun a w=>ih a w) h
     split
     ·rename_i w' hr
      rw [hr] at h'
      exact h'.elim
     ·exact h'
    ·exact absurd hl (hno _ _)
   ·simp only [hw,if_false,Bool.false_eq_true] at h ⊢
    exact ih _ _ h
def z8:Option Value→FrameMode
 | none=>.returning
 | some V=>.panicking [{ v:=V,recovered:=true }]
def Fc:Option Value→FrameMode
 | none=>.returning
 | some V=>.panicking [{ v:=V,recovered:=false }]
def Tr (G:Gh) (h:lT) (w:World) (h':lT) (PV:Option Value) (e:Ending) (u':FrameMode) (w':World):Prop :=
 (∃v,e=.returned v)∧u'=z8 PV∧∃G',Ext G h w G' h' w'∧Inv G' h' w'
theorem Kj {g:Nat}{caps:List lS}{pv:Option lS}{PV:Option Value}{h':lT}{X:Array Value}(hm:cx.P.follows .mixedOrders=true) (hX:tK cx.P cx.A) (hK:rA cx.P cx.A cx.K) (hlp:LI cx.lp)
  (hb:t_ cx g caps pv h=some h') (i:Inv G h w) (gl:qC cx.A G h w) (hx:xP G h caps X) (hpv:∀v,pv=some v→∃V,PV=some V∧mJ G h v V) (hpn:pv=none→PV=none) :
  (∀w,(callFunc g X).run cx.P w=.ok (.enter g X) w) ∧
  CallsD cx.P g X (Fc PV) w (Tr G h w h' PV):=by
 unfold t_ at hb
 cases hf:cx.P.funcs[g]? with
 | none=>rw [hf] at hb;cases hb
 | some fn =>
  simp only [hf] at hb
  split at hb
  ·rename_i id ops c hbody
   split at hb
   ·rename_i o os hops
    cases hc:(Ch o&&decide (caps.length≤fn.ntmps)&&fn.results.isEmpty&&!(fn.name == "runtime.NumGoroutine")) with
    | false=>rw [hc] at hb;cases hb
    | true =>
     rw [hc] at hb
     simp only [aq1,decide_eq_true_eq,Bool.not_eq_true'] at hc
     obtain⟨⟨⟨hrec,hcl⟩,hres⟩,hnm⟩:=hc
     have hne:¬fn.name = "runtime.NumGoroutine" := by simpa using hnm
     refine⟨fun w=>by simp [callFunc,Sem.run_bind,hf,hbody,hne,Sem.run_pure],?_⟩
     simp only [cond_true] at hb
     obtain⟨r0,hr0,hend⟩:=ac6.1 hb
     refine callsD_of_wpS hf hbody fun c₀ cs hu=>?_
     have h0:ops[0]?=some o:=by rw [←aq2,hops];rfl
     unfold Ch at hrec
     simp only [aq1,Option.isNone_iff_eq_none] at hrec
     obtain⟨hgu,hrec⟩:=hrec
     obtain⟨cl,hop,hcal⟩:∃cl,o.op=.call cl∧cl.callee=.builtin .recover:=by
      split at hrec
      ·rename_i cl ho
       split at hrec
       ·rename_i hcal;exact⟨cl,ho,hcal⟩
       ·cases hrec
      ·cases hrec
     have hrun:∀(a:Act) (w:World),(execOp a.eval o).run cx.P w=.ok .recover w:=by
      intro a w
      simp [execOp,hop,resolve,hcal,invoke,builtin,Sem.run_bind,Sem.run_pure]
     have hsz:ar9 ops.size=0::((p6 ops.toList).tail).map (·.i):=by
      rw [List.map_tail,rM.1]
      have:ops.size=os.length+1:=by rw [←av9,hops];rfl
      rw [this,List.range_succ_eq_map];rfl
     let cs':List Frame:={ c₀ with mode:=z8 PV }::cs
     have hrv:mJ G h (pv.getD .niliface) (PV.getD .nilIface):=by
      cases hp:pv with
      | none =>
       rw [hpn hp]
       exact .p _ _ .niliface
      | some v =>
       obtain⟨V,hV,hr⟩:=hpv v hp
       rw [hV]
       exact hr
     obtain⟨RR,hRR⟩:∃RR,RR=Tr G h w h' PV:=⟨_,rfl⟩
     rw [←hRR]
     have slots:o9 (fun a=>a.defers=[]) G h (p7 (caps++ak7 (fn.ntmps-caps.length) (.tuple [])) o.dst (pv.getD .niliface)) (Act.put { tmps:=X++Array.replicate (fn.ntmps-X.size) undef,defers:=[] } o.dst (PV.getD .nilIface)) :=
      (BS hx hcl).put o.dst hrv (by cases o.dst <;> rfl)
     have fin:∀(e:Ex) (ρ2:List lS) (h2:lT) (G2:Gh) (w2:World) (a2:Act),(e=.normal∨e=.ret)→(e,pack 0 ρ2,h2)=r0→Ext G h w G2 h2 w2→Inv G2 h2 w2→o9 (fun a=>a.defers=[]) G2 h2 ρ2 a2 →
       a2.defers=[]∧∃u',cs'={ c₀ with mode:=u' }::cs∧∃v,(results fn a2.tmps).run cx.P w2=.ok v w2∧RR (.returned v) u' w2:=by
      intro e ρ2 h2 G2 w2 a2 he hr x2 i2 s2
      subst hr
      have ht:o_ h.length h2=some h':=by rcases he with rfl | rfl <;> exact hend
      obtain⟨G3,i3,x3,_,_,_⟩:=wF x2 i2 ht
      have hrs:fn.results.toList.mapM (w6 cx.P ρ2 h2)=some []:=by
       have:fn.results=#[]:=by simpa using hres
       rw [this];rfl
      obtain⟨V,hV,_⟩:=zN hrs i2 s2
      rw [hRR]
      exact⟨s2.df,_,rfl,V,hV,⟨V,rfl⟩,rfl,G3,x3,i3⟩
     have hlen:(p7 (caps++ak7 (fn.ntmps-caps.length) (.tuple [])) o.dst (pv.getD .niliface)).length=fn.ntmps:=by rw [BN];simp;omega
     rw [vW fn.ntmps _ _ _ _ hlen] at hr0
     have tailP:=Gi (cx:={ cx with n:=fn.ntmps,full:=2^fn.ntmps-1,pan:=false }) (J:=fun a=>a.defers=[]) (Q:=fun e a w=>Exit.thenS (c.wpS cx.P (bodyPostS cx.P fn c₀ cs RR))
       (bodyPostS cx.P fn c₀ cs RR) e a cs' w) (ops:=ops) (fun o _ a V h=>by cases o.dst <;> exact h) hX hK (p6 ops.toList).tail [] _ h G w _
      (fun it CJ=>rM.2 it (List.mem_of_mem_tail CJ)) hr0 i gl slots
      (fun ρ1 h1 G1 w1 a1 e1 x1 i1 s1=>by
       split at e1
       case isFalse=>cases e1
       rename_i hl1
       refine wpS_of_wp (u5 (cx:={ cx with n:=fn.ntmps,full:=2^fn.ntmps-1,pan:=false }) (J:=fun a=>a.defers=[]) hm hX hK hlp c 0 ρ1 h1 _ _ r0 G1 w1 a1 _ (rS c) e1 i1 (gl.mono x1) s1 hl1 ?_ (fun a w hq=>by obtain⟨_,hq⟩:=hq;rw [hRR] at hq;obtain⟨⟨_,h1⟩,_⟩:=hq;cases h1))
       ·refine⟨fun ρ2 h2 G2 w2 a2 e2 x2 i2 s2 _=>?_,fun e ρ2 h2 G2 w2 a2 e2 x2 i2 s2 _=>?_,fun v ρ2 h2 G2 w2 a2 V e2 x2 i2 _ _=>?_⟩
        ·exact fin _ ρ2 h2 G2 w2 a2 (.inl rfl) (Option.some.inj e2) (x1.trans x2) i2 s2
        ·cases e with
         | ret=>exact fin _ ρ2 h2 G2 w2 a2 (.inr rfl) (Option.some.inj e2) (x1.trans x2) i2 s2
         | exit id=>cases e2;cases hend
         | _=>trivial
        ·cases e2;cases hend)
      (fun v h1 G1 w1 V a1 e1=>by cases e1)
     have tail:wpOps cx.P ops (fun e a w=>Exit.thenS (c.wpS cx.P (bodyPostS cx.P fn c₀ cs RR))
       (bodyPostS cx.P fn c₀ cs RR) e a cs' w) (((p6 ops.toList).tail).map (·.i))
       (Act.put { tmps:=X++Array.replicate (fn.ntmps-X.size) undef,defers:=[] } o.dst (PV.getD .nilIface)) w:=by
      exact tailP
     refine wpS_seq (wpS_region ?_)
     rw [hsz]
     simp only [wpOpsS,h0]
     rw [if_pos (by simp [Region.wanted,hgu])]
     simp only [hrun]
     cases PV with
     | none =>
      have hu':c₀.mode=.returning:=hu
      have hrd:recoverD (c₀::cs)=none:=by simp [recoverD,hu']
      have hcs:(c₀::cs:List Frame)=cs':=by
       have:({ c₀ with mode:=.returning }:Frame)=c₀:=by rw [←hu']
       simp only [cs',z8,this]
      rw [hrd]
      simp only []
      rw [hcs]
      exact FX (fun a w hq=>by obtain⟨_,hq⟩:=hq;rw [hRR] at hq;obtain⟨⟨_,h1⟩,_⟩:=hq;cases h1) _ _ _ tail
     | some V =>
      have hu':c₀.mode=.panicking [{ v:=V,recovered:=false }]:=hu
      have hrd:recoverD (c₀::cs)=some (V,cs'):=by simp [recoverD,hu',cs',z8]
      rw [hrd]
      exact FX (fun a w hq=>by obtain⟨_,hq⟩:=hq;rw [hRR] at hq;obtain⟨⟨_,h1⟩,_⟩:=hq;cases h1) _ _ _ tail
   ·cases hb
  ·cases hb
theorem yB {L:Nat}{x:List lS}:∀(n i j k:Nat) (v:lS),(unpackFrom L x n i j)[k]?=some v→v=.junk∨L.testBit (i+k)=true
 | 0,i,j,k,v,h=>by simp [unpackFrom] at h
 | n+1,i,j,k,v,h=>by
  unfold unpackFrom at h
  cases hb:L.testBit i with
  | true =>
   rw [hb] at h
   cases k with
   | zero=>exact .inr hb
   | succ k =>
    have:=yB n (i+1) (j+1) k v (by simpa using h)
    rwa [show i+(k+1)=i+1+k by omega]
  | false =>
   rw [hb] at h
   cases k with
   | zero=>simp at h;exact .inl h.symm
   | succ k =>
    have:=yB n (i+1) j k v (by simpa using h)
    rwa [show i+(k+1)=i+1+k by omega]
theorem o9.any {J J':Act→Prop}{ρ:List lS}(s:o9 J G h ρ a) (hj:J' a):o9 J' G h ρ a:=⟨s.len,s.rel,hj⟩
theorem Iv {fn:Func}{RE:Ending→World→Prop}(hno:∀w,¬RE .outgrown w) {b:Code}{L:Nat}{fv:lS}{V:Value}{ρ:List lS}(hm:cx.P.follows .mixedOrders=true) (hX:tK cx.P cx.A) (hK:rA cx.P cx.A cx.K) (hlp:LI cx.lp)
  (hb:xX cx b L fv ρ h=some r) (i:Inv G h w) (gl:qC cx.A G h w) (s:o9 (fun a=>a.defers=[]) G h ρ a) (hn:ρ.length=cx.n) (hfv:mJ G h fv V)
  (hfin:∀(a':Act) G' w',r.1=.ret→Ext G h w G' r.2.2 w'→Inv G' r.2.2 w'→o9 (fun _=>True) G' r.2.2 (unpack cx.n L r.2.1) a'→∃v,(results fn a'.tmps).run cx.P w'=.ok v w'∧RE (.returned v) w') :
  ∃d,(∀w,(Deferred.ofValue V #[]).run cx.P w=.ok d w)∧b.wp cx.P (bodyPostD cx.P fn RE) { a with defers:=d::a.defers } w:=by
 unfold xX at hb
 cases hok:BI L b with
 | false=>rw [hok] at hb;cases hb
 | true =>
  rw [hok] at hb
  simp only [cond_true] at hb
  obtain⟨⟨g,fi,ca⟩,hg,hb⟩:=ac6.1 hb
  unfold rF at hg
  split at hg <;> simp only [ah5,as7,reduceCtorEq] at hg
  rename_i g' fi' ca'
  obtain⟨rfl,rfl,rfl⟩:=hg
  obtain⟨F,C,rfl,hlf,hlc,hrf,hrc⟩:=hfv.D4
  refine⟨{ target:=.fn (.func g') C,args:=F++#[] },fun w=>by simp [Deferred.ofValue,Sem.run_pure],?_⟩
  simp only [] at hb
  obtain⟨r0,hr0,hend⟩:=ac6.1 hb
  have hxs:∀{G':Gh}{h':lT}{w':World},Ext G h w G' h' w'→xP G' h' (fi'++ca') (F++#[]++C):=by
   intro G' h' w' x
   refine⟨by simp [hlf,hlc],fun j u hu=>?_⟩
   rw [aj5]
   by_cases h1:j<fi'.length
   ·rw [aq3 h1] at hu
    have:=(hrf j u hu).mono x.toMono
    rw [aj5] at this
    simpa [Array.getElem?_append,←hlf,h1] using this
   ·rw [ak0 (by omega)] at hu
    have:=(hrc _ u hu).mono x.toMono
    rw [aj5] at this
    simpa [Array.getElem?_append,←hlf,h1] using this
  have hdf:a.defers=[]:=s.df
  have leave:∀(pv:Option lS) (PV:Option Value) (G2:Gh) (h2:lT) (w2:World) (a2:Act) (h3:lT) (pk:List lS),Ext G h w G2 h2 w2→Inv G2 h2 w2→(∀v,pv=some v→∃V,PV=some V∧mJ G2 h2 v V)→(pv=none→PV=none) →
    JD L { a with defers:={ target:=.fn (.func g') C,args:=F++#[] }::a.defers } a2→t_ cx g' (fi'++ca') pv h2=some h3→r=(.ret,pk,h3)→o9 (fun _=>True) G2 h2 (unpack cx.n L pk) a2 →
    Leaves cx.P fn a2.tmps RE a2.defers (Fc PV) w2:=by
   intro pv PV G2 h2 w2 a2 h3 pk x2 i2 hv1 hv2 hj hrec hr s2
   have hd2:a2.defers=[{ target:=.fn (.func g') C,args:=F++#[] }]:=by rw [hj.1,hdf]
   obtain⟨hin,hcd⟩:=Kj hm hX hK hlp hrec i2 (gl.mono x2) (hxs x2) hv1 hv2
   rw [hd2]
   refine leaves_cons (by cases PV <;> simp [Fc]) (f:=g') (args:=F++#[]++C) (by simpa [invoke] using hin w2) ?_
   refine hcd.mono fun e u' w' hpost=>?_
   obtain⟨⟨v,rfl⟩,rfl,G',x3,i3⟩:=hpost
   have hset:settle (z8 PV)=.returning:=by cases PV <;> simp [settle,z8]
   simp only [hset]
   subst hr
   exact hfin a2 G' w' rfl (x2.trans x3) i3 (s2.mono x3.toMono)
  refine u5 (cx:={ cx with pan:=true }) (J:=JD L { a with defers:={ target:=.fn (.func g') C,args:=F++#[] }::a.defers }) hm hX hK hlp b L ρ h _ _ r0 G w _ _ (vO hok) hr0 i gl (s.any (J':=JD L _) ⟨rfl,rfl,fun _ _=>rfl⟩ |> fun s=>⟨s.len,s.rel,⟨rfl,rfl,fun _ _=>rfl⟩⟩) hn
   ⟨fun ρ2 h2 G2 w2 a2 e2 x2 i2 s2 hn2=>?_,fun e ρ2 h2 G2 w2 a2 e2 x2 i2 s2 hn2=>?_,fun v ρ2 h2 G2 w2 a2 V e2 x2 i2 rv hj=>?_⟩ (fun _ w hq=>hno w hq)
  ·cases e2
   obtain⟨h3,hrec,hr⟩:=ah7.1 hend
   exact leave none none G2 h2 w2 a2 h3 _ x2 i2 (by simp) (by simp) s2.df hrec hr.symm ((s2.pack hn2).any trivial)
  ·cases e2
   cases e with
   | ret =>
    obtain⟨h3,hrec,hr⟩:=ah7.1 hend
    exact leave none none G2 h2 w2 a2 h3 _ x2 i2 (by simp) (by simp) s2.df hrec hr.symm ((s2.pack hn2).any trivial)
   | exit id=>cases hend
   | _=>trivial
  ·cases e2
   obtain⟨h3,hrec,hr⟩:=ah7.1 hend
   refine leave (some v) (some V) G2 h2 w2 a2 h3 _ x2 i2 (fun u hu=>by cases hu;exact⟨V,rfl,rv⟩) (by simp) hj hrec hr.symm ⟨?_,fun j u hu=>?_,trivial⟩
   ·rw [pP,←hn,s.len]
    exact hj.2.1.symm
   ·rcases yB _ _ _ _ _ hu with rfl | hbit
    ·exact .p _ _ (.junk _)
    ·rcases JQ (f:=id) hn j u (by simpa using hu) with rfl | ⟨u',hu',he⟩
     ·exact .p _ _ (.junk _)
     ·rw [Nat.zero_add] at hbit
      rw [hj.2.2 j hbit]
      have he:u=u':=he
      subst he
      exact(s.rel j u hu').mono x2.toMono
theorem IH {os:List Oper}{f:Operand}(hl:z7 os=some f):∃o c,os.getLast?=some o∧o.guard=none∧o.op=.defer c∧c.callee=.value f∧c.args=#[]∧o.dst=none:=by
 unfold z7 at hl
 obtain⟨o,h1,h2⟩:=ac6.1 hl
 unfold TK at h2
 split at h2
 ·rename_i c hg ho
  split at h2
  ·rename_i f' hc
   cases he:c.args.isEmpty&&o.dst.isNone with
   | false=>rw [he] at h2;cases h2
   | true =>
    rw [he] at h2
    simp only [aq1,Array.isEmpty_iff,Option.isNone_iff_eq_none] at he
    cases h2
    exact⟨o,c,h1,hg,ho,hc,he.1,he.2⟩
  ·cases h2
 ·cases h2
theorem Ki {fn:Func}{RE:Ending→World→Prop}(hno:∀w,¬RE .outgrown w) (hm:cx.P.follows .mixedOrders=true) (hX:tK cx.P cx.A) (hK:rA cx.P cx.A cx.K) (hlp:LI cx.lp) (hpan:cx.pan=false):∀(c:Code) (L:Nat) (ρ:List lS) (h:lT) (r:R) (G:Gh) (w:World) (a:Act),
  rG cx c L ρ h=some r→Inv G h w→qC cx.A G h w→o9 (fun a=>a.defers=[]) G h ρ a→ρ.length=cx.n →
  (∀(a':Act) G' w',r.1=.ret→Ext G h w G' r.2.2 w'→Inv G' r.2.2 w'→o9 (fun _=>True) G' r.2.2 (unpack cx.n L r.2.1) a'→∃v,(results fn a'.tmps).run cx.P w'=.ok v w'∧RE (.returned v) w') →
  c.wp cx.P (bodyPostD cx.P fn RE) a w:=by
 intro c
 induction c with
 | seq x y ihx ihy =>
  intro L ρ h r G w a hb i gl s hn hfin
  have piece:evalCode cx x (L ||| ue cx.full y) ρ h (fun ρ' h'=>rG cx y L ρ' h') (KY L)=some r→(Code.seq x y).wp cx.P (bodyPostD cx.P fn RE) a w:=by
   intro hb
   refine wp_seq (u5 (J:=fun a=>a.defers=[]) hm hX hK hlp x _ ρ h _ _ r G w a _ (rS x) hb i gl s hn ⟨fun ρ2 h2 G2 w2 a2 e2 x2 i2 s2 hn2=>?_,fun e ρ2 h2 G2 w2 a2 e2 x2 i2 s2 hn2=>?_,fun v ρ2 h2 G2 w2 a2 V e2 x2 i2 rv hj=>?_⟩ (fun _ w hq=>hno w hq))
   ·exact ihy L ρ2 h2 r G2 w2 a2 e2 i2 (gl.mono x2) s2 hn2 fun a' G' w' hr x3 i3 s3=>hfin a' G' w' hr (x2.trans x3) i3 s3
   ·cases e with
    | ret =>
     cases e2
     show Leaves cx.P fn a2.tmps RE a2.defers .returning w2
     have hd2:a2.defers=[]:=s2.df
     rw [hd2]
     exact hfin a2 G2 w2 rfl x2 i2 ((s2.pack hn2).any trivial)
    | exit id=>cases e2
    | _=>trivial
   ·cases e2
  cases x with
  | region id ops draw =>
   cases draw with
   | true=>simp only [rG] at hb;exact piece hb
   | false =>
    simp only [rG] at hb
    cases hl:z7 ops.toList with
    | none=>simp only [hl] at hb;exact piece hb
    | some f =>
     simp only [hl] at hb
     obtain⟨o,cl,h1,hgu,hop,hcal,hargs,hdst⟩:=IH hl
     rw [vW cx.n _ _ _ _ hn] at hb
     have hsz:ar9 ops.size=((p6 ops.toList).dropLast).map (·.i)++[ops.size-1]:=by
      have hne:ops.toList≠[]:=by intro h0;rw [h0] at h1;cases h1
      have hlen:(p6 ops.toList).length=ops.size:=by simp [p6]
      have hm1:((p6 ops.toList).dropLast).map (·.i)=(ar9 ops.size).dropLast:=by rw [List.map_dropLast,rM.1]
      rw [hm1]
      have hpos:0<ops.size:=by rw [←av9];exact List.length_pos_iff.2 hne
      obtain⟨m,hmm⟩:∃m,ops.size=m+1:=⟨ops.size-1,by omega⟩
      rw [hmm,List.range_succ,List.dropLast_concat]
      rfl
     have hlast:ops[ops.size-1]?=some o:=by
      rw [←aq2]
      rw [List.getLast?_eq_getElem?] at h1
      simpa using h1
     refine wp_seq (wp_region ?_)
     rw [hsz]
     refine D7 (J:=fun a=>a.defers=[]) [ops.size-1] (fun o _ a V h=>by cases o.dst <;> exact h) hX hK _ [] ρ h G w a (fun it CJ=>rM.2 it ((List.dropLast_sublist _).subset CJ)) hb i gl s (fun ρ2 h2 G2 w2 a2 e2 x2 i2 s2=>?_) (fun v h2 G2 w2 V a2 e2=>by cases e2)
     split at e2
     case isFalse=>cases e2
     rename_i hn2
     obtain⟨d,hd,hwp⟩:=Iv (fn:=fn) (RE:=RE) hno hm hX hK hlp e2 i2 (gl.mono x2) s2 hn2 (s2.eval (gl.mono x2).cells f) fun a' G' w' hr x3 i3 s3=>hfin a' G' w' hr (x2.trans x3) i3 s3
     have hrun:(execOp a2.eval o).run cx.P w2=.ok (.defer d) w2:=by
      simp [execOp,hop,resolve,hcal,hargs,Sem.run_bind,Sem.run_pure,hd w2]
     simp only [wpOps,hlast]
     rw [if_pos (by simp [Region.wanted,hgu])]
     left
     unfold Oper.wp
     rw [hrun,Oper.upon_defer,hdst]
     exact hwp
  | _=>simp only [rG] at hb;exact piece hb
 | _=>intro L ρ h r G w a hb;simp [rG] at hb
end
end
end Hk
