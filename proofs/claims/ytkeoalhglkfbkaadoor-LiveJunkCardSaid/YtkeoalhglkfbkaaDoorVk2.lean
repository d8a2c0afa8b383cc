/-
  The texts Vk.Mem10, Vk.Op, Vk.Nat1, Vk.Region, Vk.Region2, Vk.Region3, Vk.Region4, Vk.Trunc, Vk.Code, Vk.Dfr, Vk.Sub, one behind another. No conditions.
-/
import Derived.Test.YtkeoalhglkfbkaaDoorVk1
import Derived.Orders
import Derived.LoopN
import Derived.Recover
set_option linter.unusedVariables false
set_option linter.unusedSimpArgs false
set_option linter.all false

namespace Hk
open Go Go.RowKit
theorem Ae {sz:Nat}:∀(rows:List (List kS)),(∀r∈rows,r.length=sz)→rows.flatten.length=rows.length * sz ∧
  ∀(k:Nat) (c:kS),rows.flatten[k]?=some c→∃(i j:Nat) (row:List kS),rows[i]?=some row∧row[j]?=some c∧k=i * sz+j
 | [],_=>⟨by simp,by simp⟩
 | r::rows,h=>by
  obtain⟨h1,h2⟩:=Ae rows fun x hx=>h x (by simp [hx])
  have hr:=h r (by simp)
  refine⟨by simp [h1,hr,Nat.add_mul]; omega,fun k c hk=>?_⟩
  simp only [List.flatten_cons] at hk
  by_cases hlt:k < r.length
  ·rw [List.getElem?_append_left hlt] at hk
   exact⟨0,k,r,rfl,hk,by omega⟩
  ·rw [List.getElem?_append_right (by omega)] at hk
   obtain⟨i,j,row,a1,a2,a3⟩:=h2 _ _ hk
   exact⟨i+1,j,row,by simpa using a1,a2,by rw [Nat.add_mul]; omega⟩
section
variable {P:Program}{G:Gh}{h:kU}{w:World}{x y v:kS}{X Y V:Value}
theorem Inv.NJ (i:Inv G h w) {id tot' sz bb cap':Nat}{old:mI}{cs':List kS}{C':Array Value}{e':TypeId}{w':World}(hid:h[id]?=some old)
  (hold:(old=.front 0 0)∨∃tot sz0 cs,old=.vec tot sz0 cs∧tot < tot')
  (os:w'.os=w.os) (tape:w'.tape=w.tape) (output:w'.output=w.output) (size:w.heap.size≤w'.heap.size)
  (heap:∀k,k < w.heap.size→nQ G id old≠some k→w'.heap[k]?=w.heap[k]?)
  (hbb:(w.heap.size≤bb)∨nQ G id old=some bb)
  (hC:w'.heap[bb]?=some (.cells C' e' (0,0))) (hcap:tot'≤cap') (hmax:cap'≤maxLen) (hCs:C'.size=cap' * sz) (hsz0:0 < sz) (hcs:cs'.length=tot' * sz)
  (hrel:∀(j:Nat) (u:kS),cs'[j]?=some u→u.mV=true∧l_ G h u (C'.getD j undef)) :
  ∃G',Inv G' (h.set id (.vec tot' sz cs')) w'∧Ext G h w G' (h.set id (.vec tot' sz cs')) w'∧G'.cur id=.slice (some ⟨bb,0,none⟩) tot' cap':=by
 let G':Gh:={ G with cur:=fun j=>if j=id then .slice (some ⟨bb,0,none⟩) tot' cap' else G.cur j }
 have hcur:G'.cur id=.slice (some ⟨bb,0,none⟩) tot' cap':=if_pos rfl
 have hbl:=i.nV id old hid
 have hHn:∀k,G.H bb k=none:=by
  intro k
  rcases hbb with h1 | h1
  ·exact i.GZ h1
  ·rcases hold with rfl | ⟨tot,sz0,cs,rfl,_⟩
   ·rcases hbl with ⟨_,h2⟩ | ⟨b,cap,C,e,h2,h3,h4,h5,h6,h7,h8⟩
    ·simp [nQ,h2,Value.ownBlock] at h1
    ·omega
   ·obtain⟨b,cap,C,e,g1,g2,g3,g4,g5,g6,g7,g8,g9⟩:=hbl
    simp [nQ,g1,Value.ownBlock] at h1
    subst h1; exact g8 k
 have key:=i.step (G':=G') id old (.vec tot' sz cs') hid os tape output size heap (fun _ _=>rfl) (fun j hj=>if_neg hj) (fun _ _ _ hh=>hh) (fun _ _ _ _=>rfl)
  (fun b k v hb hv=>by
   have hv:G.H b k=some v:=hv
   rcases hb with hb | hb
   ·rw [i.GZ hb] at hv; cases hv
   ·rcases hold with rfl | ⟨tot,sz0,cs,rfl,_⟩
    ·rcases hbl with ⟨_,h2⟩ | ⟨b,cap,C,e,h2,h3,h4,h5,h6,h7,h8⟩
     ·simp [nQ,h2,Value.ownBlock] at hb
     ·omega
    ·obtain⟨b',cap,C,e,g1,g2,g3,g4,g5,g6,g7,g8,g9⟩:=hbl
     simp [nQ,g1,Value.ownBlock] at hb
     subst hb; rw [g8] at hv; cases hv)
  (by
   rcases hold with rfl | ⟨tot,sz0,cs,rfl,hlt⟩
   ·exact⟨rfl,rfl⟩
   ·obtain⟨b,cap,C,e,g1,_⟩:=hbl
    refine⟨rfl,?_,fun e=>?_⟩
    ·rw [hcur,g1]; simp only [zC]; omega
    ·rw [hcur,g1] at e; simp only [zC] at e; omega)
  (fun m=>⟨bb,cap',C',e',hcur,hC,hcap,hmax,hCs,hsz0,hcs,hHn,fun j u hu=>⟨(hrel j u hu).1,(hrel j u hu).2.mono m⟩⟩)
  (fun b hb=>by
   have hb:(G'.cur id).ownBlock=some b:=hb
   rw [hcur] at hb
   simp only [Value.ownBlock,Option.some.injEq] at hb
   subst hb; exact hbb)
 exact⟨G',key.1,key.2,hcur⟩
structure Qf (G:Gh) (h:kU) (w:World) (sz:Nat) (rows:List (List kS)) (X:Value) (a:Option Addr) (news:List Value):Prop where
 form:∃cap,X=.slice a rows.length cap
 len:news.length=rows.length * sz
 rlen:∀r∈rows,r.length=sz
 at_:∀(j:Nat) u,news[j]?=some u→∃ad,a=some ad∧w.cell? (ad.add j)=some u
 rel:∀(i j:Nat) (row:List kS) (c:kS),rows[i]?=some row→row[j]?=some c→∃u,news[i * sz+j]?=some u∧l_ G h c u∧c.mV=true
theorem Src.toV {sz:Nat}{rows:List (List kS)}{a:Option Addr}{news:List Value}(s:Src G h w sz rows X a news):Qf G h w sz rows X a news :=
 ⟨s.form,s.len,s.rlen,s.at_,fun i j row c h1 h2=>by obtain⟨u,e1,e2,e3⟩:=s.rel i j row c h1 h2; exact⟨u,e1,.p _ _ e2,e3⟩⟩
theorem Qf.one {sz : Nat} {rows : List (List kS)} {a : Option Addr} {news : List Value} (s : Qf G h w sz rows X a news) : ∀ u ∈ news, u.oneCell' = true := by
  intro u hu
  obtain ⟨j, hj⟩ := List.getElem?_of_mem hu
  have hjl : j < rows.length * sz := by rw [← s.len]; exact (List.getElem?_eq_some_iff.1 hj).1
  have hpos : 0 < sz := by rcases Nat.eq_zero_or_pos sz with h0 | h0; · rw [h0] at hjl; omega
                           · exact h0
  have hrow : j / sz < rows.length := (Nat.div_lt_iff_lt_mul hpos).2 hjl
  have h1 : rows[j / sz]? = some rows[j / sz] := List.getElem?_eq_getElem hrow
  have hl := s.rlen _ (List.mem_of_getElem? h1)
  have h2 : rows[j / sz][j % sz]? = some (rows[j / sz][j % sz]'(by rw [hl]; exact Nat.mod_lt _ hpos)) := List.getElem?_eq_getElem _
  obtain ⟨u', e1, e2, e3⟩ := s.rel _ _ _ _ h1 h2
  rw [show j / sz * sz + j % sz = j by rw [Nat.mul_comm]; exact Nat.div_add_mod j sz] at e1
  rw [hj] at e1; cases e1
  exact (e2.CD e3).1
theorem Qf.flat {sz:Nat}{rows:List (List kS)}{a:Option Addr}{news:List Value}(s:Qf G h w sz rows X a news) :
  rows.flatten.length=news.length∧∀(k:Nat) (c:kS),rows.flatten[k]?=some c→c.mV=true∧∃u,news[k]?=some u∧l_ G h c u:=by
 obtain⟨h1,h2⟩:=Ae rows s.rlen
 refine⟨by rw [h1,s.len],fun k c hk=>?_⟩
 obtain⟨i,j,row,a1,a2,rfl⟩:=h2 k c hk
 obtain⟨u,b1,b2,b3⟩:=s.rel i j row c a1 a2
 exact⟨b3,u,b1,b2⟩
theorem Cq {sz:Nat}{rows:List (List kS)}(i:Inv G h w) (hb:xY sz h x=some rows) (hx:l_ G h x X):∃a news,Qf G h w sz rows X a news:=by
 unfold xY at hb
 split at hb
 ·rename_i r hr
  cases hb
  obtain⟨a,news,s⟩:=z8 i hr hx
  exact⟨a,news,s.toV⟩
 ·unfold Sp at hb
  split at hb
  ·rename_i id tot off len sz' hno
   split at hb
   case h_2=>cases hb
   case h_1 x0 hgb =>
    have hid:=s8 hgb
    split at hb
    case isFalse=>cases hb
    rename_i hcond
    obtain⟨rfl,hle⟩:=hcond
    simp only [Option.some.injEq] at hb
    subst hb
    obtain⟨b,cap,rfl,hnf,htot,hlc,hv⟩:=hx.rM
    obtain⟨b',cap',C,e,g1,g2,g3,g4,g5,g6,g7,g8,g9⟩:=i.nV id _ hid
    obtain⟨l0,cap0,k1,_⟩:=hv (by rw [g1]; rfl)
    rw [g1] at k1
    simp only [Value.slice.injEq,Option.some.injEq,Addr.mk.injEq] at k1
    obtain⟨⟨rfl,_⟩,_,rfl⟩:=k1
    have hcl:x0.2.length≤C.size:=by rw [g7,g5]; exact Nat.mul_le_mul_right _ g3
    have hdl:((x0.2.drop off).take (len * sz')).length=len * sz':=by rw [List.length_take,List.length_drop]; omega
    obtain⟨q1,q2,q3⟩:=sF len sz' _ (by omega:len * sz'≤((x0.2.drop off).take (len * sz')).length)
    refine⟨some ⟨b',off,none⟩,(C.toList.drop off).take (len * sz'),⟨cap,by rw [q1]⟩,by rw [q1,List.length_take,List.length_drop,Array.length_toList]; omega,q2,?_,?_⟩
    ·intro j u hu
     rw [List.getElem?_take] at hu
     split at hu
     ·refine⟨_,rfl,?_⟩
      rw [add_plain,cell_of w _ _ g2]
      rw [List.getElem?_drop,Array.getElem?_toList] at hu
      exact hu
     ·cases hu
    ·intro i' j r c hi hj
     have hrow':=q3 i' j r c hi hj
     have hlt:i' * sz'+j < len * sz':=by
      have:=(List.getElem?_eq_some_iff.1 hrow').1; omega
     have hc1:x0.2[off+(i' * sz'+j)]?=some c:=by
      rw [List.getElem?_take,if_pos hlt,List.getElem?_drop] at hrow'; exact hrow'
     obtain⟨hk,hrel⟩:=g9 _ c hc1
     have hCl:off+(i' * sz'+j) < C.size:=by have:=(List.getElem?_eq_some_iff.1 hc1).1; omega
     refine⟨C.getD (off+(i' * sz'+j)) undef,?_,hrel,hk⟩
     rw [List.getElem?_take,if_pos hlt,List.getElem?_drop,Array.getElem?_toList,Array.getElem?_eq_getElem hCl]
     simp [Array.getD_eq_getD_getElem?,hCl]
  ·cases hb
theorem Src.flat {sz:Nat}{rows:List (List kS)}{a:Option Addr}{news:List Value}(s:Src G h w sz rows X a news) :
  rows.flatten.length=news.length∧∀(k:Nat) (c:kS),rows.flatten[k]?=some c→c.mV=true∧∃u,news[k]?=some u∧qF G.H c u:=by
 obtain⟨h1,h2⟩:=Ae rows s.rlen
 refine⟨by rw [h1,s.len],fun k c hk=>?_⟩
 obtain⟨i,j,row,a1,a2,rfl⟩:=h2 k c hk
 obtain⟨u,b1,b2,b3⟩:=s.rel i j row c a1 a2
 exact⟨b3,u,b1,b2⟩
theorem C1 {G':Gh}{h':kU}{id tot n sz bb cap:Nat}{cs:List kS}(hb:h'[id]?=some (.vec tot sz cs)) (hc:G'.cur id=.slice (some ⟨bb,0,none⟩) tot cap) (hn:n≤tot) (ht:tot≤cap) :
  l_ G' h' (.vslice id tot 0 n sz) (.slice (some ⟨bb,0,none⟩) n cap) :=
 .vslice id tot 0 n sz bb cap ⟨_,hb,by simp,by simp⟩ (by rw [hc]; exact Nat.le_refl _) (by omega) fun _=>⟨0,cap,hc,by simp,by omega,by omega⟩
set_option maxHeartbeats 2000000 in
theorem J5 {t ty e:TypeId}{sz bytes:Nat}{z r:kS}{h':kU}(i:Inv G h w) (ht:P.underlying t=some (.slice e)) (hn:o_ P e=some sz) (hby:Bo P e=some bytes)
  (hz:sO P e=some z) (hzj:z.pP=false) (hzl:z.cells.length=sz) (hsz:sz≠0) (hb:nJ sz bytes h x y=some (r,h')) (hx:l_ G h x X) (hy:l_ G h y Y) :
  ∃V w' G',(Builtin.append_ #[t,t] ty #[X,Y]).run P w=.ok V w'∧Inv G' h' w'∧Ext G h w G' h' w'∧l_ G' h' r V:=by
 obtain⟨ti,hti,hts,htb,Z,hzz,hZs⟩:∃ti,P.info? e=some ti∧ti.size=sz∧ti.bytes=bytes∧∃Z,ti.zero=some Z∧Z.cells.size=sz:=by
  unfold o_ at hn; unfold Bo at hby; unfold sO at hz
  cases hi:P.info? e with
  | none=>simp [hi] at hn
  | some ti =>
   simp [hi] at hn hby hz
   obtain⟨Z,hZ1,hZ2⟩:=hz
   refine⟨ti,rfl,hn,hby,Z,hZ1,?_⟩
   subst hZ2
   rw [←hzl]; exact(vD hzj (vG G h Z)).1.symm
 have fromNil:∀{G:Gh}{h:kU}{id:Nat}{new:List (List kS)}{a:Option Addr}{news:List Value}{capY:Nat},Inv G h w→h[id]?=some (.front 0 0)→Qf G h w sz new Y a news→Y=.slice a new.length capY→new.length≠0 →
   new.length * bytes≤140737488355328→new.length≤140737488355328 →
   ∃V w' G',(Builtin.append_ #[t,t] ty #[.slice none 0 0,Y]).run P w=.ok V w'∧Inv G' (h.set id (.vec new.length sz new.flatten)) w'∧Ext G h w G' (h.set id (.vec new.length sz new.flatten)) w' ∧
    l_ G' (h.set id (.vec new.length sz new.flatten)) (.vslice id new.length 0 new.length sz) V:=by
  intro G h id new a news capY i hid src hYf hm hbytes hsmall
  have hposn:0 < news.length:=by rw [src.len]; exact Nat.mul_pos (by omega) (by omega)
  obtain⟨ad,had,_⟩:=src.at_ 0 _ (List.getElem?_eq_getElem hposn)
  subst had
  have hnews:∀j u,news[j]?=some u→w.cell? (ad.add j)=some u:=fun j u hu=>by
   obtain⟨ad',e1,e2⟩:=src.at_ j u hu; cases e1; exact e2
  have hnl:news.length=new.length * ti.size:=by rw [hts]; exact src.len
  have hrun:=run_append_nil (P:=P) w t ty e ti Z ht hti hzz ad new.length capY news hnl hnews (by omega) (by omega) (by rw [htb]; omega)
  have hcapg:=grownCap_ge w new.length 0 e
  have hcapm:=grownCap_le_maxLen w new.length 0 e (by simp only [maxLen]; omega)
  obtain⟨f1,f2⟩:=src.flat
  obtain⟨G',g1,g2,g3⟩:=i.NJ (id:=id) (tot':=new.length) (sz:=sz) (bb:=w.heap.size) (cap':=grownCap w new.length 0 e) (cs':=new.flatten)
   (w':=w.drew.alloc (.cells (news.toArray++Builtin.zeroCells Z.cells (grownCap w new.length 0 e - new.length)) e)) hid (.inl rfl) rfl rfl rfl (by simp)
   (fun k hk _=>oV w.drew _ k hk) (.inl (Nat.le_refl _)) (heap_alloc_new w.drew _) (by omega) hcapm
   (by simp only [Array.size_append,List.size_toArray,size_zeroCells,hZs,src.len,←Nat.add_mul]; congr 1; omega)
   (by omega) (by rw [f1,src.len]) (fun j u hu=>by
    obtain⟨c1,u',c2,c3⟩:=f2 j u hu
    refine⟨c1,?_⟩
    rw [Array.getD_eq_getD_getElem?,Array.getElem?_append_left (by simpa using (List.getElem?_eq_some_iff.1 c2).1),List.getElem?_toArray,c2]
    exact c3)
  rw [hYf]
  refine⟨_,_,G',hrun,g1,g2,C1 (cs:=new.flatten) ?_ g3 (Nat.le_refl _) hcapg⟩
  simp [(List.getElem?_eq_some_iff.1 hid).1]
 unfold nJ at hb
 split at hb
 ·-- a token that nobody has used
  rename_i id new hnew
  obtain⟨a,news,src⟩:=Cq i hnew hy
  obtain⟨capY,hYf⟩:=src.form
  split at hb
  ·rename_i hid
   split at hb
   case isFalse=>cases hb
   rename_i hcond
   obtain⟨hbytes,hsmall⟩:=hcond
   obtain⟨hX,_,hcur⟩:=Nq i hx hid rfl
   have hc:G.cur id=.slice none 0 0:=by
    rcases hcur with ⟨_,hc⟩ | ⟨b,cap,C,e0,hc,_,_,_,_,hs0,_⟩
    ·exact hc
    ·omega
   rw [hX,hc]
   split at hb
   ·rename_i hm
    simp only [Option.some.injEq,Prod.mk.injEq] at hb
    obtain⟨rfl,rfl⟩:=hb
    refine⟨.slice none 0 0,w,G,?_,i,Ext.refl G h w,by rw [hX,hc] at hx; exact hx⟩
    rw [hYf,hm]
    exact s5 ht hti none a 0 0 capY (Nat.le_refl _)
   ·rename_i hm
    simp only [Option.some.injEq,Prod.mk.injEq] at hb
    obtain⟨rfl,rfl⟩:=hb
    exact fromNil i hid src hYf hm hbytes hsmall
  ·cases hb
 ·-- a nil slice
  rename_i new hnew
  obtain⟨a,news,src⟩:=Cq i hnew hy
  obtain⟨capY,hYf⟩:=src.form
  have hX:=hx.Pg
  rw [hX]
  split at hb
  ·rename_i hm
   simp only [Option.some.injEq,Prod.mk.injEq] at hb
   obtain⟨rfl,rfl⟩:=hb
   refine⟨.slice none 0 0,w,G,?_,i,Ext.refl G h w,by rw [hX] at hx; exact hx⟩
   rw [hYf,hm]
   exact s5 ht hti none a 0 0 capY (Nat.le_refl _)
  ·rename_i hm
   split at hb
   case isFalse=>cases hb
   rename_i hcond
   obtain⟨hbytes,hsmall⟩:=hcond
   simp only [Option.some.injEq,Prod.mk.injEq] at hb
   obtain⟨rfl,rfl⟩:=hb
   obtain⟨G1,i1,x1,hc1,hH1⟩:=i.Eu
   have src1:Qf G1 (h++[.front 0 0]) w sz new Y a news:=⟨src.form,src.len,src.rlen,src.at_,fun i j row c h1 h2=>by
    obtain⟨u,e1,e2,e3⟩:=src.rel i j row c h1 h2; exact⟨u,e1,e2.mono x1.toMono,e3⟩⟩
   obtain⟨V,w',G',k1,k2,k3,k4⟩:=fromNil (id:=h.length) i1 (by simp) src1 hYf hm hbytes hsmall
   have hset:(h++[mI.front 0 0]).set h.length (.vec new.length sz new.flatten)=h++[.vec new.length sz new.flatten]:=by simp
   rw [hset] at k2 k3 k4
   exact⟨V,w',G',k1,k2,x1.trans k3,k4⟩
 ·-- a slice that is written into
  rename_i id tot n sz' new hnew
  obtain⟨a,news,src⟩:=Cq i hnew hy
  obtain⟨capY,hYf⟩:=src.form
  split at hb
  ·rename_i x0 hgv
   have hid:=s8 hgv
   split at hb
   case isFalse=>cases hb
   rename_i hcond
   obtain⟨rfl,hx1,hbytes,hsmall⟩:=hcond
   obtain⟨b,cap,rfl,hnf,htot,hlc,hv⟩:=hx.rM
   obtain⟨b',cap',C,e0,g1,g2,g3,g4,g5,g6,g7,g8,g9⟩:=i.nV id _ hid
   obtain⟨l0,cap0,k1,k2,k3,k4⟩:=hv (by rw [g1]; rfl)
   have hcur:=g1
   rw [g1] at k1
   simp only [Value.slice.injEq,Option.some.injEq,Addr.mk.injEq] at k1
   obtain⟨⟨rfl,_⟩,_,rfl⟩:=k1
   obtain⟨szb,cs⟩:=x0
   simp only at hx1 hid g5 g6 g7 g9 hb
   subst hx1
   have hl0:l0=0:=by
    rcases Nat.eq_zero_or_pos l0 with h0 | h0
    ·exact h0
    ·have:=Nat.mul_pos h0 g6; omega
   subst hl0
   simp only [Nat.sub_zero] at k4
   subst k4
   rw [hYf]
   split at hb
   ·rename_i hm
    simp only [Option.some.injEq,Prod.mk.injEq] at hb
    obtain⟨rfl,rfl⟩:=hb
    refine⟨_,w,G,?_,i,Ext.refl G h w,hx⟩
    rw [hm]
    exact s5 ht hti _ a n _ capY hlc
   ·rename_i hm
    have hposn:0 < news.length:=by rw [src.len]; exact Nat.mul_pos (by omega) (by omega)
    obtain⟨ad,had,_⟩:=src.at_ 0 _ (List.getElem?_eq_getElem hposn)
    subst had
    have hnews:∀j u,news[j]?=some u→w.cell? (ad.add j)=some u:=fun j u hu=>by
     obtain⟨ad',e1,e2⟩:=src.at_ j u hu; cases e1; exact e2
    have hone:=src.one
    have hnl:news.length=new.length * ti.size:=by rw [hts]; exact src.len
    obtain⟨f1,f2⟩:=src.flat
    have hnt:n≤tot:=by omega
    have hns:n * szb≤tot * szb:=Nat.mul_le_mul_right _ hnt
    have hts2:tot * szb≤C.size:=by rw [g5]; exact Nat.mul_le_mul_right _ g3
    have room:∀{m:Nat},n+new.length≤cap→m=n+new.length →
      (Builtin.append_ #[t,t] ty #[.slice (some ⟨b',0,none⟩) n cap,.slice (some ad) new.length capY]).run P w =
      .ok (.slice (some ⟨b',0,none⟩) m cap) (w.setRow b' (C.toList.take (n * szb)++news++C.toList.drop (n * szb+news.length)).toArray):=by
     intro m hroom hm'
     subst hm'
     have hfit:n * ti.size+news.length≤C.size:=by rw [hts,src.len,g5,←Nat.add_mul]; exact Nat.mul_le_mul_right _ hroom
     have hf:=run_firstCells_some (P:=P) w ti.size new.length ad new.length capY news hnl hnews
     have hst:=run_storeCells_at P b' (n * ti.size) e0 news 0 C w g2 (by simpa using hfit) hone
     simp only [Nat.add_zero] at hst
     rw [←hts]
     simp [Builtin.append_,run_underlying ht,Go.sizeOf,Go.typeInfo,hti,Builtin.lenOf,hroom,hf,Addr.add_lit,hst]
    split at hb
    ·-- within what is there
     rename_i hin
     simp only [Option.some.injEq,Prod.mk.injEq] at hb
     obtain⟨rfl,rfl⟩:=hb
     have hle:n * szb+new.flatten.length≤cs.length:=by
      rw [f1,src.len,g7,←Nat.add_mul]; exact Nat.mul_le_mul_right _ hin
     obtain⟨w1,w2⟩:=i.Me (off:=n * szb) (vs:=new.flatten) (U:=news) hid hcur g2 hle f1.symm (fun j u hu=>by
      obtain⟨c1,u',c2,c3⟩:=f2 j u hu
      refine⟨c1,?_⟩
      rw [List.getD_eq_getElem?_getD,c2]; exact c3)
     refine⟨_,_,G,room (by omega) rfl,w1,w2,C1 (cs:=putCells cs (n * szb) new.flatten) ?_ hcur hin g3⟩
     simp [(List.getElem?_eq_some_iff.1 hid).1]
    ·rename_i hin
     simp only [Option.some.injEq,Prod.mk.injEq] at hb
     obtain⟨rfl,rfl⟩:=hb
     have htk:(cs.take (n * szb)).length=n * szb:=by rw [List.length_take]; omega
     have hcl:(cs.take (n * szb)++new.flatten).length=(n+new.length) * szb:=by
      rw [List.length_append,htk,f1,src.len,Nat.add_mul]
     have cells:∀(C':Array Value),(∀k,k < n * szb→C'[k]?=C[k]?)→(∀k u,news[k]?=some u→C'[n * szb+k]?=some u) →
       ∀(j:Nat) (u:kS),(cs.take (n * szb)++new.flatten)[j]?=some u→u.mV=true∧l_ G h u (C'.getD j undef):=by
      intro C' hC1 hC2 j u hu
      by_cases hj:j < n * szb
      ·rw [List.getElem?_append_left (by omega),List.getElem?_take,if_pos hj] at hu
       have:=g9 j u hu
       rw [Array.getD_eq_getD_getElem?] at this ⊢
       rw [hC1 j hj]; exact this
      ·rw [List.getElem?_append_right (by omega),htk] at hu
       obtain⟨c1,u',c2,c3⟩:=f2 _ u hu
       refine⟨c1,?_⟩
       have:=hC2 _ _ c2
       rw [show n * szb+(j - n * szb)=j by omega] at this
       rw [Array.getD_eq_getD_getElem?,this]; exact c3
     by_cases hroom:n+new.length≤cap
     ·have hfit:n * szb+news.length≤C.size:=by rw [src.len,g5,←Nat.add_mul]; exact Nat.mul_le_mul_right _ hroom
      obtain⟨G',k5,k6,k7⟩:=i.NJ (id:=id) (tot':=n+new.length) (sz:=szb) (bb:=b') (cap':=cap) (cs':=cs.take (n * szb)++new.flatten)
       (C':=(C.toList.take (n * szb)++news++C.toList.drop (n * szb+news.length)).toArray) (e':=e0)
       (w':=w.setRow b' (C.toList.take (n * szb)++news++C.toList.drop (n * szb+news.length)).toArray) hid (.inr ⟨tot,szb,cs,rfl,by omega⟩) (by simp) (by simp) (by simp) (by simp)
       (fun k hk hne=>setRow_other w b' k _ (fun e=>hne (by simp [nQ,hcur,Value.ownBlock,e]))) (.inr (by simp [nQ,hcur,Value.ownBlock])) (setRow_heap w b' C _ e0 _ g2) hroom g4
       (by simp; omega) g6 hcl (cells _ (fun k hk=>by rw [uG C news _ k hfit,if_pos hk]) (fun k u hu=>by
        have:=(List.getElem?_eq_some_iff.1 hu).1
        rw [uG C news _ _ hfit,if_neg (by omega),if_pos (by omega),show n * szb+k - n * szb=k by omega]; exact hu))
      refine⟨_,_,G',room hroom rfl,k5,k6,C1 (cs:=cs.take (n * szb)++new.flatten) ?_ k7 (Nat.le_refl _) hroom⟩
      simp [(List.getElem?_eq_some_iff.1 hid).1]
     ·have hxl:(C.toList.take (n * szb)).length=n * szb:=by
       rw [List.length_take,Array.length_toList]; omega
      have hxc:∀j u,(C.toList.take (n * szb))[j]?=some u→w.cell? ((⟨b',0,none⟩:Addr).add j)=some u:=by
       intro j u hu
       rw [List.getElem?_take] at hu
       split at hu
       ·rw [add_plain,cell_of w _ _ g2,Nat.zero_add]; rwa [Array.getElem?_toList] at hu
       ·cases hu
      have hrun:=run_append_grow (P:=P) w t ty e ti Z ht hti hzz ⟨b',0,none⟩ n cap (C.toList.take (n * szb)) (by rw [hts]; exact hxl) hxc ad new.length capY news hnl hnews (by omega) (by omega)
       (growslice_fits (by omega) (by rw [htb]; exact hbytes))
      have hcapg:=grownCap_ge w (n+new.length) cap e
      have hcapm:=grownCap_le_maxLen w (n+new.length) cap e (by simp only [maxLen]; omega)
      obtain⟨G',k5,k6,k7⟩:=i.NJ (id:=id) (tot':=n+new.length) (sz:=szb) (bb:=w.heap.size) (cap':=grownCap w (n+new.length) cap e) (cs':=cs.take (n * szb)++new.flatten)
       (w':=w.drew.alloc (.cells ((C.toList.take (n * szb)).toArray++news.toArray++Builtin.zeroCells Z.cells (grownCap w (n+new.length) cap e - (n+new.length))) e)) hid
       (.inr ⟨tot,szb,cs,rfl,by omega⟩) rfl rfl rfl (by simp)
       (fun k hk _=>oV w.drew _ k hk) (.inl (Nat.le_refl _)) (heap_alloc_new w.drew _) (by omega) hcapm
       (by simp only [Array.size_append,List.size_toArray,size_zeroCells,hZs,src.len,hxl,←Nat.add_mul]; congr 1; omega)
       g6 hcl (cells _ (fun k hk=>by
        rw [Array.getElem?_append_left (by simp [hxl,src.len]; omega),List.append_toArray,List.getElem?_toArray,List.getElem?_append_left (by omega),List.getElem?_take,if_pos hk,Array.getElem?_toList]) (fun k u hu=>by
        have hk:=(List.getElem?_eq_some_iff.1 hu).1
        rw [Array.getElem?_append_left (by simp only [List.append_toArray,List.size_toArray,List.length_append,hxl]; omega),List.append_toArray,List.getElem?_toArray,List.getElem?_append_right (by omega),hxl,show n * szb+k - n * szb=k by omega]; exact hu))
      refine⟨_,_,G',hrun,k5,k6,C1 (cs:=cs.take (n * szb)++new.flatten) ?_ k7 (Nat.le_refl _) hcapg⟩
      simp [(List.getElem?_eq_some_iff.1 hid).1]
  ·cases hb
 ·cases hb
theorem Bm {r:kS}{h':kU}(i:Inv G h w) (hb:oZ h x=some (r,h')) (hx:l_ G h x X):∃G',Inv G' h' w∧Ext G h w G' h' w∧l_ G' h' r X:=by
 unfold oZ at hb
 split at hb
 ·rename_i id tot off len sz
  split at hb
  ·rename_i x0 hgv
   have hid:=s8 hgv
   split at hb
   ·rename_i row hrow
    split at hb
    case isFalse=>cases hb
    rename_i hle
    simp only [Option.some.injEq,Prod.mk.injEq] at hb
    obtain⟨rfl,rfl⟩:=hb
    obtain⟨b,cap,rfl,hnf,htot,hlc,hv⟩:=hx.rM
    obtain⟨b',cap',C,e0,g1,g2,g3,g4,g5,g6,g7,g8,g9⟩:=i.nV id _ hid
    obtain⟨l0,cap0,k1,k2,k3,k4⟩:=hv (by rw [g1]; rfl)
    have hcur:=g1
    rw [g1] at k1
    simp only [Value.slice.injEq,Option.some.injEq,Addr.mk.injEq] at k1
    obtain⟨⟨rfl,_⟩,_,rfl⟩:=k1
    let G':Gh:={ G with H:=fun b k=>if b=b' then C[k]? else G.H b k }
    have hH:∀b k,G'.H b k=if b=b' then C[k]? else G.H b k:=fun _ _=>rfl
    have hmono:∀b k v,G.H b k=some v→G'.H b k=some v:=by
     intro b k v hvv
     rw [hH]
     by_cases hbe:b=b'
     ·subst hbe; rw [g8] at hvv; cases hvv
     ·rw [if_neg hbe]; exact hvv
    have key:=i.step (G':=G') (w':=w) id (.vec tot x0.1 x0.2) .gone hid rfl rfl rfl (Nat.le_refl _) (fun _ _ _=>rfl) (fun _ _=>rfl) (fun _ _=>rfl) hmono
     (fun b k _ hne=>by
      rw [hH,if_neg]
      rintro rfl
      exact hne (by simp [nQ,hcur,Value.ownBlock]))
     (fun b k v hbb hvv=>by
      rw [hH] at hvv
      split at hvv
      ·rename_i he; subst he; rw [cell_of w _ _ g2]; exact hvv
      ·exact i.ok b k v hvv)
     ⟨rfl,Nat.le_refl _,fun _=>rfl⟩ (fun _=>trivial) (fun b hb=>by cases hb)
    refine⟨G',key.1,key.2,.p _ _ ?_⟩
    obtain⟨p1,p2⟩:=rQ hrow
    have hdl:((x0.2.drop off).take (len * sz)).length=len * sz:=by rw [List.length_take,List.length_drop]; omega
    rw [hdl] at p1
    refine Cb (F:=fun j=>C.getD (off+j) undef) (by omega) hlc fun j v hvv _=>?_
    have hj:j < len * sz:=by rw [←p1]; exact(List.getElem?_eq_some_iff.1 hvv).1
    obtain⟨c',e1,e2⟩:=p2 j _ (List.getElem?_eq_getElem (by omega))
    rw [hvv] at e1; cases e1
    have hcs:x0.2[off+j]?=some (((x0.2.drop off).take (len * sz))[j]'(by omega)):=by
     have:=List.getElem?_eq_getElem (l:=(x0.2.drop off).take (len * sz)) (i:=j) (by omega)
     rw [List.getElem?_take,if_pos hj,List.getElem?_drop] at this
     exact this
    obtain⟨_,hrel⟩:=g9 _ _ hcs
    obtain⟨z1,z2⟩:=wL e2 hrel
    have hlt:off+j < C.size:=by
     have:=(List.getElem?_eq_some_iff.1 hcs).1
     have h2:x0.2.length≤C.size:=by rw [g7,g5]; exact Nat.mul_le_mul_right _ g3
     omega
    refine⟨?_,z1.mono hmono,z2⟩
    rw [hH,if_pos rfl,Array.getElem?_eq_getElem hlt]
    simp [Array.getD_eq_getD_getElem?,hlt]
   ·cases hb
  ·cases hb
 ·simp only [Option.some.injEq,Prod.mk.injEq] at hb
  obtain⟨rfl,rfl⟩:=hb
  exact⟨G,i,Ext.refl G h w,hx⟩
theorem Dm:∀{cs r:List kS}{Cs:List Value}{G:Gh}{h h':kU},Inv G h w→BM h cs=some (r,h')→cs.length=Cs.length→(∀(j:Nat) (v:kS) (V:Value),cs[j]?=some v→Cs[j]?=some V→l_ G h v V) →
  ∃G',Inv G' h' w∧Ext G h w G' h' w∧r.length=cs.length∧∀(j:Nat) (v:kS) (V:Value),r[j]?=some v→Cs[j]?=some V→l_ G' h' v V
 | [],_,_,G,h,_,i,hb,_,_=>by
  simp only [BM,Option.some.injEq,Prod.mk.injEq] at hb
  obtain⟨rfl,rfl⟩:=hb
  exact⟨G,i,Ext.refl G h w,rfl,fun j v V hv=>by simp at hv⟩
 | c::cs,_,[],_,_,_,_,_,hl,_=>by simp at hl
 | c::cs,_,C::Cs,G,h,_,i,hb,hl,hr=>by
  simp only [BM] at hb
  obtain⟨⟨y,h1⟩,hy,hb⟩:=Option.bind_eq_some_iff.1 hb
  obtain⟨⟨z,h2⟩,hz,hb⟩:=Option.bind_eq_some_iff.1 hb
  simp only [Option.some.injEq,Prod.mk.injEq] at hb
  obtain⟨rfl,rfl⟩:=hb
  obtain⟨G1,i1,x1,r1⟩:=Bm i hy (hr 0 c C rfl rfl)
  obtain⟨G2,i2,x2,hl2,r2⟩:=Dm (cs:=cs) (Cs:=Cs) i1 hz (by simpa using hl) (fun j v V hv hV=>(hr (j+1) v V hv hV).mono x1.toMono)
  refine⟨G2,i2,x1.trans x2,by simp [hl2],fun j v V hv hV=>?_⟩
  cases j with
  | zero =>
   simp only [List.getElem?_cons_zero,Option.some.injEq] at hv hV
   subst hv hV
   exact r1.mono x2.toMono
  | succ j=>exact r2 j v V hv hV
theorem Ki {r:kS}{h':kU}(i:Inv G h w) (hb:pI h x=some (r,h')) (hx:l_ G h x X):∃G',Inv G' h' w∧Ext G h w G' h' w∧l_ G' h' r X:=by
 unfold pI at hb
 split at hb
 ·rename_i cs
  obtain⟨⟨z,h1⟩,hz,hb⟩:=Option.bind_eq_some_iff.1 hb
  simp only [Option.some.injEq,Prod.mk.injEq] at hb
  obtain⟨rfl,rfl⟩:=hb
  obtain⟨C,rfl,hl,hr⟩:=hx.v7
  have get:∀(j:Nat) (V:Value),C.toList[j]?=some V→C.getD j undef=V:=by
   intro j V hV
   rw [Array.getElem?_toList] at hV
   rw [Array.getD_eq_getD_getElem?,hV]; rfl
  obtain⟨G',i',x',hl',hr'⟩:=Dm (Cs:=C.toList) i hz (by simpa using hl) (fun j v V hv hV=>by
   have:=hr j v hv
   rw [get j V hV] at this
   exact this)
  refine⟨G',i',x',.agg _ _ (by rw [hl',hl]) fun j v hv=>?_⟩
  have hj:j < C.toList.length:=by
   have:=(List.getElem?_eq_some_iff.1 hv).1
   simp only [Array.length_toList]
   omega
  have hV:=List.getElem?_eq_getElem hj
  rw [get j _ hV]
  exact hr' j v _ hv hV
 ·simp only [Option.some.injEq,Prod.mk.injEq] at hb
  obtain⟨rfl,rfl⟩:=hb
  exact⟨G,i,Ext.refl G h w,hx⟩
theorem Ff {t e:TypeId}{len sz:Nat}{z r:kS}{h':kU}{parts:Array (Nat×Operand)}{f:Operand→kS}{F:Operand→Value}
  (i:Inv G h w) (ht:P.underlying t=some (.slice e)) (hz:sO P e=some z) (hn:o_ P e=some sz) (hsz:sz≠0) (hle:len * sz≤16777216) (hf:∀o,l_ G h (f o) (F o)) (hzj:z.pP=false)
  (hb:pU len sz z.cells (parts.toList.map fun p=>(p.1,f p.2)) h=some (r,h')) :
  ∃V w' G',(Instr.buildSlice t len (parts.map fun(i,x)=>(i,F x))).run P w=.ok V w'∧Inv G' h' w'∧Ext G h w G' h' w'∧l_ G' h' r V:=by
 unfold pU at hb
 split at hb
 ·rename_i rows hrows
  simp only [Option.some.injEq,Prod.mk.injEq] at hb
  obtain⟨rfl,rfl⟩:=hb
  obtain⟨cs,row,C,h1,rfl,h3,h4,h5,h6⟩:=Az (G:=G) (h:=h) (w:=w) ht hz hn hsz hle hf hzj hrows
  obtain⟨G1,i1,x1,hc1,hH1⟩:=i.Eu
  obtain⟨p1,p2⟩:=rQ h1
  have hcl:cs.length=len * sz:=by rw [h3.1,h4]
  obtain⟨q1,q2,q3⟩:=sF len sz row (by omega)
  obtain⟨f1,f2⟩:=Ae _ q2
  obtain⟨G',g1,g2,g3⟩:=i1.NJ (id:=h.length) (tot':=len) (sz:=sz) (bb:=w.heap.size) (cap':=len) (cs':=(rowsOf len sz row).flatten) (C':=C) (e':=e) (w':=w.alloc (.cells C e)) (by simp) (.inl rfl) rfl rfl rfl (by simp)
   (fun k hk _=>oV w _ k hk) (.inl (Nat.le_refl _)) (heap_alloc_new w _) (Nat.le_refl _) h5 h4 (by omega) (by rw [f1,q1]) (fun k u hu=>by
    obtain⟨i',j,r,a1,a2,rfl⟩:=f2 k u hu
    have hr:=q3 i' j r u a1 a2
    have hlt:i' * sz+j < cs.length:=by rw [←p1]; exact(List.getElem?_eq_some_iff.1 hr).1
    obtain⟨c',e1,e2⟩:=p2 _ _ (List.getElem?_eq_getElem hlt)
    rw [hr] at e1; cases e1
    obtain⟨z1,z2⟩:=wL e2 (h3.2 _ _ (List.getElem?_eq_getElem hlt))
    refine⟨z2,.p _ _ ?_⟩
    rw [hH1]; exact z1)
  have hset:(h++[mI.front 0 0]).set h.length (.vec len sz (rowsOf len sz row).flatten)=h++[.vec len sz (rowsOf len sz row).flatten]:=by simp
  rw [hset] at g1 g2
  exact⟨_,_,G',h6,g1,x1.trans g2,C1 (cs:=(rowsOf len sz row).flatten) (by simp) g3 (Nat.le_refl _) (Nat.le_refl _)⟩
 ·unfold Ga at hb
  split at hb
  ·rename_i cs hbd
   split at hb
   case isFalse=>cases hb
   rename_i hcond
   obtain⟨hzl,hall⟩:=hcond
   simp only [Option.some.injEq,Prod.mk.injEq] at hb
   obtain⟨rfl,rfl⟩:=hb
   obtain⟨C,h3,h4,h5,h6⟩:=BQ (G:=G) (h:=h) (w:=w) ht hz hn hsz hle hf hzj hzl hbd
   obtain⟨G1,i1,x1,hc1,hH1⟩:=i.Eu
   have hcl:cs.length=len * sz:=by rw [h3.1,h4]
   obtain⟨G',g1,g2,g3⟩:=i1.NJ (id:=h.length) (tot':=len) (sz:=sz) (bb:=w.heap.size) (cap':=len) (cs':=cs) (C':=C) (e':=e) (w':=w.alloc (.cells C e)) (by simp) (.inl rfl) rfl rfl rfl (by simp)
    (fun k hk _=>oV w _ k hk) (.inl (Nat.le_refl _)) (heap_alloc_new w _) (Nat.le_refl _) h5 h4 (by omega) hcl (fun k u hu =>
     ⟨List.all_eq_true.1 hall u (List.mem_of_getElem? hu),(h3.2 k u hu).mono x1.toMono⟩)
   have hset:(h++[mI.front 0 0]).set h.length (.vec len sz cs)=h++[.vec len sz cs]:=by simp
   rw [hset] at g1 g2
   exact⟨_,_,G',h6,g1,x1.trans g2,C1 (cs:=cs) (by simp) g3 (Nat.le_refl _) (Nat.le_refl _)⟩
  ·cases hb
theorem N9 {t t2 e ty:TypeId}{r:kS}{h':kU}(i:Inv G h w) (ht:P.underlying t=some (.slice e)) (hn:o_ P e=some 1)
  (hb:G8 h x y=some (r,h')) (hx:l_ G h x X) (hy:l_ G h y Y) :
  ∃V w' G',(Builtin.copy_ #[t,t2] ty #[X,Y]).run P w=.ok V w'∧Inv G' h' w'∧Ext G h w G' h' w'∧l_ G' h' r V:=by
 obtain⟨ti,hti,hts⟩:∃ti,P.info? e=some ti∧ti.size=1:=by
  unfold o_ at hn
  cases hi:P.info? e with
  | none=>simp [hi] at hn
  | some ti=>simp [hi] at hn; exact⟨ti,rfl,hn⟩
 unfold G8 at hb
 split at hb
 ·rename_i id tot off len bs
  split at hb
  ·rename_i x0 hgv
   have hid:=s8 hgv
   split at hb
   case isFalse=>cases hb
   rename_i hcond
   obtain⟨hle,hx1⟩:=hcond
   simp only [Option.some.injEq,Prod.mk.injEq] at hb
   obtain⟨rfl,rfl⟩:=hb
   have hY:=hy.Al
   subst hY
   obtain⟨b,cap,rfl,hnf,htot,hlc,hv⟩:=hx.rM
   obtain⟨b',cap',C,e0,g1,g2,g3,g4,g5,g6,g7,g8,g9⟩:=i.nV id _ hid
   obtain⟨l0,cap0,k1,k2,k3,k4⟩:=hv (by rw [g1]; rfl)
   have hcur:=g1
   rw [g1] at k1
   simp only [Value.slice.injEq,Option.some.injEq,Addr.mk.injEq] at k1
   obtain⟨⟨rfl,_⟩,_,rfl⟩:=k1
   obtain⟨szb,cs⟩:=x0
   simp only at hx1 hid g5 g6 g7 g9 hle
   subst hx1
   have hU:((bs.take len).map fun b=>Value.int .u8 b.toNat).length=((bs.take len).map fun b=>kS.int .u8 b.toNat).length:=by simp
   have hfit:off+((bs.take len).map fun b=>kS.int .u8 b.toNat).length≤cs.length:=by
    rw [List.length_map,List.length_take]; omega
   obtain⟨w1,w2⟩:=i.Me (off:=off) (vs:=(bs.take len).map fun b=>kS.int .u8 b.toNat) (U:=(bs.take len).map fun b=>Value.int .u8 b.toNat) hid hcur g2 hfit hU (fun j u hu=>by
    rw [List.getElem?_map,Option.map_eq_some_iff] at hu
    obtain⟨c,hc,rfl⟩:=hu
    refine⟨rfl,?_⟩
    rw [List.getD_eq_getElem?_getD,List.getElem?_map,hc]
    exact .p _ _ (.int _ _))
   have hCl:cs.length≤C.size:=by rw [g7,g5]; exact Nat.mul_le_mul_right _ g3
   have hone:∀u∈((bs.take len).map fun b=>Value.int .u8 b.toNat),u.oneCell'=true:=by
    intro u hu
    obtain⟨c,_,rfl⟩:=List.mem_map.1 hu
    rfl
   have hst:=run_storeCells_at P b' off e0 ((bs.take len).map fun b=>Value.int .u8 b.toNat) 0 C w g2 (by simp only [Nat.add_zero,List.length_map,List.length_take] at hfit ⊢; omega) hone
   simp only [Nat.add_zero] at hst
   refine⟨.int .i64 (min bs.length len:Nat),_,G,?_,w1,w2,.p _ _ (.int _ _)⟩
   have hsz:(⟨bs.toArray⟩:ByteArray).size=bs.length:=by simp [ByteArray.size]
   have e5:List.take (min len bs.length) (List.map (fun b=>Value.int .u8 b.toNat) bs)=List.take len (List.map (fun b=>Value.int .u8 b.toNat) bs):=by
    rw [List.take_eq_take_iff]
    simp only [List.length_map]
    omega
   rw [List.map_take] at hst
   have e6:bs.length.min len=min len bs.length:=Nat.min_comm _ _
   simp [Builtin.copy_,run_underlying ht,Go.sizeOf,Go.typeInfo,hti,hts,Builtin.lenOf,hsz,Builtin.firstCells,Sem.run_pure,e6,e5,hst,goInt,Nat.min_comm bs.length len]
  ·cases hb
 ·cases hb
theorem Gc {t e:TypeId}{sz by_:Nat}{z r:kS}{h':kU}(i:Inv G h w) (ht:P.underlying t=some (.slice e)) (hn:o_ P e=some sz) (hby:Bo P e=some by_) (hz:sO P e=some z)
  (h0:sz≠0) (hj:z.pP=false) (hl:z.cells.length=sz) (hk:z.cells.all kS.mV=true) (hb:nM sz by_ z.cells x h=some (r,h')) {k k':IntKind}{n:Int}(hxn:x=.int k n) (hX:X=.int k n) (hY:Y=.int k' n) :
  ∃V w' G',(Instr.makeSlice t X Y).run P w=.ok V w'∧Inv G' h' w'∧Ext G h w G' h' w'∧l_ G' h' r V:=by
 subst hxn; subst hX; subst hY
 simp only [nM] at hb
 split at hb
 case isFalse=>cases hb
 rename_i hcond
 obtain⟨hn0,hbytes,hmax⟩:=hcond
 simp only [Option.some.injEq,Prod.mk.injEq] at hb
 obtain⟨rfl,rfl⟩:=hb
 obtain⟨m,rfl⟩:=Int.eq_ofNat_of_zero_le hn0
 simp only [Int.toNat_natCast] at *
 unfold o_ at hn; unfold Bo at hby; unfold sO at hz
 cases hi:P.info? e with
 | none=>simp [hi] at hn
 | some ti =>
  simp only [hi,Option.map_some,Option.some.injEq,Option.bind_some,Option.map_eq_some_iff] at hn hby hz
  obtain⟨Z,hZ,hz⟩:=hz
  have hrun:=run_make (P:=P) w t e ti Z ht hi hZ k k' m m hn0 (Int.le_refl _) (by
   rw [hby]
   have:((m * by_:Nat):Int)≤140737488355328:=by omega
   rw [Int.natCast_mul] at this
   rw [Int.mul_comm]; omega) (by omega)
  obtain⟨G1,i1,x1,hc1,hH1⟩:=i.Eu
  have hrz:l_ G1 (h++[.front 0 0]) z Z:=by rw [←hz]; exact vG G1 _ Z
  have hcz:=vD hj hrz
  have hrc:=xD (G:=G1) (h:=h++[mI.front 0 0]) hcz m
  have hmade:madeCells Z.cells ((m:Int).toNat * ti.size)=(Array.range (m * Z.cells.size)).map fun j=>Z.cells[j % Z.cells.size]! := by
   rw [hn,←hl,hcz.1]; simp [madeCells]
  rw [hmade] at hrun
  have hfl:(List.replicate m z.cells).flatten.length=m * sz:=by simp [hl]
  obtain⟨G',g1,g2,g3⟩:=i1.NJ (id:=h.length) (tot':=m) (sz:=sz) (bb:=w.heap.size) (cap':=m) (cs':=(List.replicate m z.cells).flatten) (C':=(Array.range (m * Z.cells.size)).map fun j=>Z.cells[j % Z.cells.size]!) (e':=e)
   (w':=w.alloc (.cells ((Array.range (m * Z.cells.size)).map fun j=>Z.cells[j % Z.cells.size]!) e)) (by simp) (.inl rfl) rfl rfl rfl (by simp)
   (fun k hk _=>oV w _ k hk) (.inl (Nat.le_refl _)) (heap_alloc_new w _) (Nat.le_refl _) (by simp only [maxLen]; omega) (by simp [←hcz.1,hl]) (by omega) hfl (fun k u hu=>by
    refine⟨?_,hrc.2 k u hu⟩
    obtain⟨l,hl1,hl2⟩:=List.mem_flatten.1 (List.mem_of_getElem? hu)
    rw [(List.mem_replicate.1 hl1).2] at hl2
    exact List.all_eq_true.1 hk u hl2)
  have hset:(h++[mI.front 0 0]).set h.length (.vec m sz (List.replicate m z.cells).flatten)=h++[.vec m sz (List.replicate m z.cells).flatten]:=by simp
  rw [hset] at g1 g2
  exact⟨_,_,G',by simpa using hrun,g1,x1.trans g2,C1 (cs:=(List.replicate m z.cells).flatten) (by simp) g3 (Nat.le_refl _) (Nat.le_refl _)⟩
theorem N8 {t e ty:TypeId}{sz:Nat}{z:kS}{h':kU}{ts:Array TypeId}(i:Inv G h w) (ht:P.underlying t=some (.slice e)) (hz:sO P e=some z) (hzj:z.pP=false)
  (hb:Fg sz z.cells h x=some h') (hx:l_ G h x X) (hts:ts[0]?=some t):∃w',(Builtin.clear_ ts ty #[X]).run P w=.ok (.tuple #[]) w'∧Inv G h' w'∧Ext G h w G h' w':=by
 unfold Fg at hb
 split at hb
 ·rename_i tok
  cases hb
  obtain⟨a,cap,hX⟩:∃a cap,X=.slice a 0 cap:=by
   have:=hx.tQ
   cases this with
   | slice0 a cap=>exact⟨a,cap,rfl⟩
   | slice rows b off cap sz V _ _ _ _ _=>exact⟨_,cap,rfl⟩
  subst hX
  refine⟨w,?_,i,Ext.refl G _ w⟩
  cases a <;> simp [Builtin.clear_,hts,run_underlying ht,Sem.run_pure]
 ·rename_i id tot off len sz'
  split at hb
  ·rename_i h0
   cases hb
   subst h0
   obtain⟨b,cap,rfl,_⟩:=hx.rM
   refine⟨w,?_,i,Ext.refl G _ w⟩
   simp [Builtin.clear_,hts,run_underlying ht,Sem.run_pure]
  rename_i h0
  split at hb
  ·rename_i x0 hgv
   have hid:=s8 hgv
   split at hb
   case isFalse=>cases hb
   rename_i hcond
   obtain⟨rfl,hzl,hzk,hle⟩:=hcond
   cases hb
   obtain⟨b,cap,rfl,hnf,htot,hlc,hv⟩:=hx.rM
   obtain⟨b',cap',C,e0,g1,g2,g3,g4,g5,g6,g7,g8,g9⟩:=i.nV id _ hid
   obtain⟨l0,cap0,k1,k2,k3,k4⟩:=hv (by rw [g1]; rfl)
   have hcur:=g1
   rw [g1] at k1
   simp only [Value.slice.injEq,Option.some.injEq,Addr.mk.injEq] at k1
   obtain⟨⟨rfl,_⟩,_,rfl⟩:=k1
   obtain⟨Z,hz1,hz2⟩:=rT (P:=P) (G:=G) (h:=h) (w:=w) hz
   have hcz:=vD hzj hz2
   have hrc:=xD (G:=G) (h:=h) hcz len
   have hcl:x0.2.length≤C.size:=by rw [g7,g5]; exact Nat.mul_le_mul_right _ g3
   have hfl:(List.replicate len z.cells).flatten.length=len * sz':=by simp [hzl]
   have hall:∀u∈(List.replicate len z.cells).flatten,u.mV=true:=fun u hu=>by
    obtain⟨l,hl1,hl2⟩:=List.mem_flatten.1 hu
    rw [(List.mem_replicate.1 hl1).2] at hl2
    exact List.all_eq_true.1 hzk u hl2
   have hrel:∀(j:Nat) (u:kS),(List.replicate len z.cells).flatten[j]?=some u→u.mV=true∧l_ G h u ((Builtin.zeroCells Z.cells len).toList.getD j undef):=fun j u hu=>by
    refine⟨hall u (List.mem_of_getElem? hu),?_⟩
    have:=hrc.2 j u hu
    rw [List.getD_eq_getElem?_getD,Array.getElem?_toList]
    rw [Array.getD_eq_getD_getElem?] at this
    exact this
   have hzs:(Builtin.zeroCells Z.cells len).toList.length=(List.replicate len z.cells).flatten.length:=by
    rw [Array.length_toList]; exact hrc.1.symm
   have h1c:∀u∈(Builtin.zeroCells Z.cells len).toList,u.oneCell'=true:=by
    intro u hu
    obtain⟨j,hj⟩:=List.getElem?_of_mem hu
    have hjl:j < (List.replicate len z.cells).flatten.length:=by rw [←hzs]; exact(List.getElem?_eq_some_iff.1 hj).1
    obtain⟨a1,a2⟩:=hrel j _ (List.getElem?_eq_getElem hjl)
    rw [List.getD_eq_getElem?_getD,hj] at a2
    exact(a2.CD a1).1
   have hst:=run_storeCells_at P b' off e0 (Builtin.zeroCells Z.cells len).toList 0 C w g2 (by rw [hzs,hfl]; omega) h1c
   simp only [Nat.add_zero] at hst
   have hw:=i.Me (off:=off) (vs:=(List.replicate len z.cells).flatten) (U:=(Builtin.zeroCells Z.cells len).toList) hid hcur g2 (by rw [hfl]; omega) hzs hrel
   refine⟨_,?_,hw⟩
   cases len with
   | zero=>exact absurd rfl h0
   | succ n=>simp [Builtin.clear_,hts,run_underlying ht,hz1,hst,Sem.run_pure]
  ·cases hb
 ·cases hb
theorem Ja {t kt e ty:TypeId}{h':kU}{ts:Array TypeId}(i:Inv G h w) (ht:P.underlying t=some (.map kt e))
  (hb:G7 h x=some h') (hx:l_ G h x X) (hts:ts[0]?=some t):∃w',(Builtin.clear_ ts ty #[X]).run P w=.ok (.tuple #[]) w'∧Inv G h' w'∧Ext G h w G h' w':=by
 unfold G7 at hb
 split at hb
 ·cases hb
  have hX:=hx.FE
  subst hX
  exact⟨w,by simp [Builtin.clear_,hts,run_underlying ht,Sem.run_pure],i,Ext.refl G _ w⟩
 ·rename_i id
  split at hb
  ·rename_i es hid
   cases hb
   obtain⟨hX,_⟩:=hx.GH
   subst hX
   obtain⟨E,clock,g1,g2,g3,g4,g5⟩:=i.nV id _ hid
   obtain⟨s1,s2⟩:=i.mapStep (es':=[]) (E':=#[]) (clock':=clock) hid g1 g3 rfl (by simp) (MapKept.stamped_empty clock)
   refine⟨_,?_,s1,s2⟩
   simp [Builtin.clear_,hts,run_underlying ht,MapKept.run_getObj_map g1,MapKept.run_setObj_map _ g1,Sem.run_pure]
  ·cases hb
 ·cases hb
end
end Hk


namespace Hk
open Go Go.RowKit
def BI (G:Gh) (h:kU) (vs:List kS) (A:Array Value):Prop:=vs.length=A.size∧∀(i:Nat) (v:kS),vs[i]?=some v→l_ G h v (A.getD i undef)
def vQ (G:Gh) (h:kU) (w:World) (r:nZ) (h':kU) (e:Ending) (w':World):Prop :=
 ∃G',Ext G h w G' h' w'∧Inv G' h' w'∧match r with
  | .ret v=>∃V,e=.returned V∧l_ G' h' v V
  | .pan v=>∃V,e=.panicked [{ v:=V,recovered:=false }]∧l_ G' h' v V
def sQ (P:Program) (A:Cj) (K:lD):Prop :=
 ∀(f:Nat) (args:List kS) (h:kU) (r:nZ) (h':kU),K f args h=some (r,h') →
  ∀(G:Gh) (w:World) (X:Array Value),Inv G h w→sG A G.H→BI G h args X →
   (∀w,(callFunc f X).run P w=.ok (.enter f X) w)∧Calls P f X w (vQ G h w r h')
theorem F5 {G:Gh}{h:kU}{x:kS}{X:Value}(hx:l_ G h x X):l_ G h x.tT X:=by
 cases x <;> simp only [kS.tT] <;> first | exact hx | exact .p _ _ hx.tQ
theorem EN {G:Gh}{h:kU}{x:kS}{X:Value}(hx:l_ G h x X):l_ G h x.k8 X:=by
 have agg:∀(cs:List kS) (X:Value),l_ G h (.agg cs) X→l_ G h (.agg (cs.map kS.tT)) X:=by
  intro cs X hx
  obtain⟨C,rfl,hl,hr⟩:=hx.v7
  refine .agg _ _ (by simpa using hl) fun i u hu=>?_
  simp only [List.getElem?_map,Option.map_eq_some_iff] at hu
  obtain⟨a,ha,rfl⟩:=hu
  exact F5 (hr i a ha)
 cases x with
 | agg cs=>exact agg cs X hx
 | tuple vs =>
  obtain⟨C,rfl,hl,hr⟩:=hx.Ci
  refine .tuple _ _ (by simpa using hl) fun i u hu=>?_
  simp only [List.getElem?_map,Option.map_eq_some_iff] at hu
  obtain⟨a,ha,rfl⟩:=hu
  have:=hr i a ha
  cases a <;> first | exact agg _ _ this | exact F5 this
 | _=>exact F5 hx
section
variable {J:Act→Prop}{cx:Cx}{o:Oper}{ρ:List kS}{h:kU}{kv kp:kS→kU→Option R}{r:R}{G:Gh}{w:World}{a:Act}{N:Act→World→Prop}{Q:Exit→Act→World→Prop}
def aeP (o:Oper) (kv:kS→kU→Option R) (r:R) (G:Gh) (h:kU) (w:World) (a:Act) (N:Act→World→Prop):Prop :=
 ∀v h' G' w' V,kv v h'=some r→Ext G h w G' h' w'→Inv G' h' w'→l_ G' h' v V→N (a.put o.dst V) w'
def Yq (kp:kS→kU→Option R) (r:R) (G:Gh) (h:kU) (w:World) (a:Act) (Q:Exit→Act→World→Prop):Prop :=
 ∀v h' G' w' V,kp v h'=some r→Ext G h w G' h' w'→Inv G' h' w'→l_ G' h' v V→Q (.panic [{ v:=V,recovered:=false }]) a w'
theorem PM {V:Value}{w':World}(hr:(execOp a.eval o).run cx.P w=.ok (.value V) w') (hN:N (a.put o.dst V) w'):o.wp cx.P a w N Q:=by
 unfold Oper.wp; rw [hr]; exact hN
theorem Md {w':World}(hr:(execOp a.eval o).run cx.P w=.ok .skip w') (hN:N (a.put o.dst undef) w'):o.wp cx.P a w N Q:=by
 unfold Oper.wp; rw [hr]; exact hN
theorem nI {s:Sem Value}{V:Value}{w':World}(h:s.run cx.P w=.ok V w'):(do pure (Next.value (←s)):Sem Next).run cx.P w=.ok (.value V) w':=by
 simp [h,Sem.run_pure]
theorem LF {s:Sem Unit}{w':World}(h:s.run cx.P w=.ok () w'):(do s; pure Next.skip:Sem Next).run cx.P w=.ok .skip w':=by
 simp [h,Sem.run_pure]
theorem nL {v:kS}(i:Inv G h w) (hk:kv v h=some r) (hkv:aeP o kv r G h w a N) (hr:∃V,(execOp a.eval o).run cx.P w=.ok (.value V) w∧l_ G h v V):o.wp cx.P a w N Q:=by
 obtain⟨V,h1,h2⟩:=hr
 exact PM h1 (hkv v h G w V hk (Ext.refl G h w) i h2)
theorem r_ {v:kS}{h':kU}(hk:kv v h'=some r) (hkv:aeP o kv r G h w a N)
  (hr:∃V w' G',(execOp a.eval o).run cx.P w=.ok (.value V) w'∧Inv G' h' w'∧Ext G h w G' h' w'∧l_ G' h' v V):o.wp cx.P a w N Q:=by
 obtain⟨V,w',G',h1,h2,h3,h4⟩:=hr
 exact PM h1 (hkv v h' G' w' V hk h3 h2 h4)
theorem Mq {c:Call}{b:Builtin}(ho:o.op=.call c) (hcal:c.callee=.builtin b) (hb:sX cx b c.argTypes.toList (c.args.toList.map (sB cx.A ρ)) h kv=some r) (i:Inv G h w)
  (ev:∀x,l_ G h (sB cx.A ρ x) (a.eval x)) (hkv:aeP o kv r G h w a N):o.wp cx.P a w N Q:=by
 have run:∀(s:Sem Value) (V:Value) (w':World),s.run cx.P w=.ok V w'→(∀consts,(builtin b c.argTypes o.type consts (c.args.map a.eval)).run cx.P w=(do pure (Next.value (←s)):Sem Next).run cx.P w) →
   (execOp a.eval o).run cx.P w=.ok (.value V) w':=by
  intro s V w' h1 h2
  simp only [execOp,ho,resolve,hcal,Sem.run_bind,Sem.run_pure,Result.andThen_ok,invoke]
  exact(h2 _).trans (nI h1)
 unfold sX at hb
 split at hb
 ·rename_i t x hT hA
  obtain⟨x0,hx0,rfl⟩:∃x0,c.args=#[x0]∧x=sB cx.A ρ x0:=by
   cases hc:c.args with
   | mk l=>rw [hc] at hA; cases l with
    | nil=>simp at hA
    | cons y r=>simp at hA; exact⟨y,by simp [hA.2],hA.1.symm⟩
  have hT':c.argTypes=#[t]:=by cases hc:c.argTypes with | mk l=>rw [hc] at hT; simp at hT; rw [hT]
  split at hb
  ·rename_i n e ht
   refine nL i hb hkv ⟨.int .i64 n,run (Builtin.len_ #[t] o.type #[a.eval x0]) _ _ ?_ (fun _=>by simp [builtin,hx0,hT']),.p _ _ (.int _ _)⟩
   simp [Builtin.len_,run_underlying ht,goInt,Sem.run_pure]
  ·rename_i ht
   obtain⟨v,hv,hk⟩:=Option.bind_eq_some_iff.1 hb
   obtain⟨V,e1,e2⟩:=Ml (P:=cx.P) (w:=w) (ty:=o.type) ht hv (ev x0)
   exact nL i hk hkv ⟨V,run _ _ _ e1 (fun _=>by simp [builtin,hx0,hT']),e2⟩
  ·rename_i e ht
   obtain⟨v,hv,hk⟩:=Option.bind_eq_some_iff.1 hb
   obtain⟨V,e1,e2⟩:=Od (P:=cx.P) (w:=w) (ty:=o.type) ht hv (ev x0)
   exact nL i hk hkv ⟨V,run _ _ _ e1 (fun _=>by simp [builtin,hx0,hT']),e2⟩
  ·cases hb
 ·rename_i x y hA
  obtain⟨x0,y0,hx0,rfl,rfl⟩:∃x0 y0,c.args=#[x0,y0]∧x=sB cx.A ρ x0∧y=sB cx.A ρ y0:=by
   cases hc:c.args with
   | mk l=>rw [hc] at hA; match l,hA with
    | [p,q],hA=>simp at hA; exact⟨p,q,rfl,hA.1.symm,hA.2.symm⟩
  obtain⟨v,hv,hk⟩:=Option.bind_eq_some_iff.1 hb
  obtain⟨V,e1,e2⟩:=Qp (P:=cx.P) (w:=w) hv (ev x0) (ev y0)
  exact nL i hk hkv ⟨V,run (Builtin.min2 (a.eval x0) (a.eval y0)) _ _ e1 (fun _=>by simp [builtin,hx0,Builtin.min_]),e2⟩
 ·rename_i x y hA
  obtain⟨x0,y0,hx0,rfl,rfl⟩:∃x0 y0,c.args=#[x0,y0]∧x=sB cx.A ρ x0∧y=sB cx.A ρ y0:=by
   cases hc:c.args with
   | mk l=>rw [hc] at hA; match l,hA with
    | [p,q],hA=>simp at hA; exact⟨p,q,rfl,hA.1.symm,hA.2.symm⟩
  obtain⟨v,hv,hk⟩:=Option.bind_eq_some_iff.1 hb
  obtain⟨V,e1,e2⟩:=Qo (P:=cx.P) (w:=w) hv (ev x0) (ev y0)
  exact nL i hk hkv ⟨V,run (Builtin.max2 (a.eval x0) (a.eval y0)) _ _ e1 (fun _=>by simp [builtin,hx0,Builtin.max_]),e2⟩
 ·rename_i t t' x y hT hA
  obtain⟨x0,y0,hx0,rfl,rfl⟩:∃x0 y0,c.args=#[x0,y0]∧x=sB cx.A ρ x0∧y=sB cx.A ρ y0:=by
   cases hc:c.args with
   | mk l=>rw [hc] at hA; match l,hA with
    | [p,q],hA=>simp at hA; exact⟨p,q,rfl,hA.1.symm,hA.2.symm⟩
  have hT':c.argTypes=#[t,t']:=by cases hc:c.argTypes with | mk l=>rw [hc] at hT; simp at hT; rw [hT]
  split at hb
  ·rename_i e he
   have ht:cx.P.underlying t=some (.slice e):=by unfold IK at he; split at he <;> simp_all
   cases htt:(t != t') with
   | true=>simp only [htt,cond_true] at hb; cases hb
   | false =>
    simp only [htt,cond_false] at hb
    have:t=t':=by simpa using htt
    subst this
    split at hb
    ·rename_i sz by_ z hn hby hz
     cases hg:(sz == 0 || z.pP || z.cells.length != sz) with
     | true=>simp only [hg,cond_true] at hb; cases hb
     | false =>
      simp only [hg,cond_false] at hb
      simp only [Bool.or_eq_false_iff,beq_eq_false_iff_ne,bne_eq_false_iff_eq] at hg
      obtain⟨⟨h0,hj⟩,hl⟩:=hg
      unfold lK at hb
      obtain⟨⟨p,h'⟩,hv,hk⟩:=Option.bind_eq_some_iff.1 hb
      cases hvec:cx.vec t with
      | false =>
       rw [hvec,cond_false] at hv
       obtain⟨V,w',G',e1,e2,e3,e4⟩:=Mh (P:=cx.P) (ty:=o.type) i ht hn hby hz hj hl h0 hv (ev x0) (ev y0)
       exact r_ hk hkv ⟨V,w',G',run _ _ _ e1 (fun _=>by simp [builtin,hx0,hT']),e2,e3,e4⟩
      | true =>
       rw [hvec,cond_true] at hv
       obtain⟨V,w',G',e1,e2,e3,e4⟩:=J5 (P:=cx.P) (ty:=o.type) i ht hn hby hz hj hl h0 hv (ev x0) (ev y0)
       exact r_ hk hkv ⟨V,w',G',run _ _ _ e1 (fun _=>by simp [builtin,hx0,hT']),e2,e3,e4⟩
    ·cases hb
  ·cases hb
 ·rename_i t t' x y hT hA
  obtain⟨x0,y0,hx0,rfl,rfl⟩:∃x0 y0,c.args=#[x0,y0]∧x=sB cx.A ρ x0∧y=sB cx.A ρ y0:=by
   cases hc:c.args with
   | mk l=>rw [hc] at hA; match l,hA with
    | [p,q],hA=>simp at hA; exact⟨p,q,rfl,hA.1.symm,hA.2.symm⟩
  have hT':c.argTypes=#[t,t']:=by cases hc:c.argTypes with | mk l=>rw [hc] at hT; simp at hT; rw [hT]
  split at hb
  ·rename_i e he _
   have ht:cx.P.underlying t=some (.slice e):=by unfold IK at he; split at he <;> simp_all
   split at hb
   ·rename_i hn _
    unfold lK at hb
    obtain⟨⟨p,h'⟩,hv,hk⟩:=Option.bind_eq_some_iff.1 hb
    obtain⟨V,w',G',e1,e2,e3,e4⟩:=N9 (P:=cx.P) (ty:=o.type) (t2:=t') i ht hn hv (ev x0) (ev y0)
    exact r_ hk hkv ⟨V,w',G',run _ _ _ e1 (fun _=>by simp [builtin,hx0,hT']),e2,e3,e4⟩
   ·cases hb
  ·cases hb
 ·rename_i t t' x y hT hA
  obtain⟨x0,y0,hx0,rfl,rfl⟩:∃x0 y0,c.args=#[x0,y0]∧x=sB cx.A ρ x0∧y=sB cx.A ρ y0:=by
   cases hc:c.args with
   | mk l=>rw [hc] at hA; match l,hA with
    | [p,q],hA=>simp at hA; exact⟨p,q,rfl,hA.1.symm,hA.2.symm⟩
  have hT':c.argTypes[0]?=some t:=by cases hc:c.argTypes with | mk l=>rw [hc] at hT; simp at hT; rw [hT]; rfl
  split at hb
  ·rename_i kt et ht
   split at hb
   ·rename_i d hd
    cases hf:pL d (sB cx.A ρ y0) with
    | false=>rw [hf] at hb; cases hb
    | true =>
     rw [hf] at hb
     simp only [cond_true] at hb
     obtain⟨h1,hv,hk⟩:=Option.bind_eq_some_iff.1 hb
     obtain⟨w',e1,e2,e3⟩:=Mn (P:=cx.P) (ty:=o.type) i ht hd hf hv (ev x0) (ev y0) hT'
     exact r_ hk hkv ⟨_,w',G,run _ _ _ e1 (fun _=>by simp [builtin,hx0]),e2,e3,.tuple _ _ rfl (by simp)⟩
   ·cases hb
  ·cases hb
 ·rename_i t x hT hA
  obtain⟨x0,hx0,rfl⟩:∃x0,c.args=#[x0]∧x=sB cx.A ρ x0:=by
   cases hc:c.args with
   | mk l=>rw [hc] at hA; cases l with
    | nil=>simp at hA
    | cons y r=>simp at hA; exact⟨y,by simp [hA.2],hA.1.symm⟩
  have hT':c.argTypes[0]?=some t:=by cases hc:c.argTypes with | mk l=>rw [hc] at hT; simp at hT; rw [hT]; rfl
  split at hb
  ·rename_i e ht
   split at hb
   ·rename_i sz z hn hz
    cases hj:z.pP with
    | true=>rw [hj] at hb; cases hb
    | false =>
     rw [hj] at hb
     simp only [cond_false] at hb
     obtain⟨h1,hv,hk⟩:=Option.bind_eq_some_iff.1 hb
     obtain⟨w',e1,e2,e3⟩:=N8 (P:=cx.P) (ty:=o.type) i ht hz hj hv (ev x0) hT'
     exact r_ hk hkv ⟨_,w',G,run _ _ _ e1 (fun _=>by simp [builtin,hx0]),e2,e3,.tuple _ _ rfl (by simp)⟩
   ·cases hb
  ·rename_i kt et ht
   obtain⟨h1,hv,hk⟩:=Option.bind_eq_some_iff.1 hb
   obtain⟨w',e1,e2,e3⟩:=Ja (P:=cx.P) (ty:=o.type) i ht hv (ev x0) hT'
   exact r_ hk hkv ⟨_,w',G,run _ _ _ e1 (fun _=>by simp [builtin,hx0]),e2,e3,.tuple _ _ rfl (by simp)⟩
  ·cases hb
 ·cases hb
theorem Gn (hX:vR cx.P cx.A) (hK:sQ cx.P cx.A cx.K) (rsv:Option Nat) (hb:evalOp cx o rsv ρ h kv kp=some r) (i:Inv G h w) (gl:sG cx.A G.H) (s:pE J G h ρ a)
  (hkv:aeP o kv r G h w a N) (hkp:Yq kp r G h w a Q):o.wp cx.P a w N Q:=by
 have ev:∀x,l_ G h (sB cx.A ρ x) (a.eval x):=fun x=>s.eval gl x
 unfold evalOp oM at hb
 simp only [] at hb
 split at hb
 ·rename_i x ho
  exact nL i hb hkv ⟨_,by simp [execOp,ho,Sem.run_pure],ev x⟩
 ·rename_i x ho
  cases hn:B6 x with
  | true =>
   simp only [hn,cond_true] at hb
   obtain⟨G',i',x',hc,_⟩:=i.Eu
   have hx:a.eval x=.slice none 0 0:=by
    unfold B6 at hn
    split at hn
    ·rfl
    ·cases hn
   exact PM (by simp [execOp,ho,Sem.run_pure,hx]) (hkv _ _ G' w _ hb x' i' (Rg hc))
  | false =>
   simp only [hn,cond_false] at hb
   exact nL i hb hkv ⟨_,by simp [execOp,ho,Sem.run_pure],ev x⟩
 ·rename_i c x y ho
  obtain⟨v,hv,hk⟩:=Option.bind_eq_some_iff.1 hb
  obtain⟨V,h1,h2⟩:=Qr (P:=cx.P) (w:=w) hv (ev c) (ev x) (ev y)
  exact nL i hk hkv ⟨V,by simp only [execOp,ho]; exact h1,h2⟩
 ·rename_i t ho
  split at hb
  ·rename_i n z hn hz
   split at hb
   ·unfold lK at hb
    obtain⟨⟨p,h'⟩,hv,hk⟩:=Option.bind_eq_some_iff.1 hb
    obtain⟨V,w',G',h1,h2,h3,h4⟩:=N5 (P:=cx.P) i hz hv
    exact r_ hk hkv ⟨V,w',G',by simp only [execOp,ho]; exact nI h1,h2,h3,h4⟩
   ·unfold lK at hb
    obtain⟨⟨p,h'⟩,hv,hk⟩:=Option.bind_eq_some_iff.1 hb
    obtain⟨V,w',G',h1,h2,h3,h4⟩:=JZ (P:=cx.P) i hz hv
    exact r_ hk hkv ⟨V,w',G',by simp only [execOp,ho]; exact nI h1,h2,h3,h4⟩
  ·cases hb
 ·rename_i t x ho
  split at hb
  ·rename_i n hn
   split at hb
   ·unfold lK at hb
    obtain⟨⟨p,h'⟩,hv,hk⟩:=Option.bind_eq_some_iff.1 hb
    obtain⟨V,w',G',h1,h2,h3,h4⟩:=Sh (P:=cx.P) (t:=t) i hv (ev x)
    exact r_ hk hkv ⟨V,w',G',by simp only [execOp,ho]; exact nI h1,h2,h3,h4⟩
   ·unfold lK at hb
    obtain⟨⟨p,h'⟩,hv,hk⟩:=Option.bind_eq_some_iff.1 hb
    obtain⟨V,w',G',h1,h2,h3,h4⟩:=N6 (P:=cx.P) (t:=t) i hv (ev x)
    exact r_ hk hkv ⟨V,w',G',by simp only [execOp,ho]; exact nI h1,h2,h3,h4⟩
  ·cases hb
 ·rename_i t parts ho
  split at hb
  ·rename_i z fs hz ht
   split at hb
   ·rename_i places hp
    cases hj:z.pP with
    | true=>simp [hj] at hb
    | false =>
     simp only [hj,cond_false] at hb
     obtain⟨v,hv,hk⟩:=Option.bind_eq_some_iff.1 hb
     obtain⟨V,h1,h2⟩:=Mi (P:=cx.P) (G:=G) (h:=h) (w:=w) ht hz hp ev hj hv
     exact nL i hk hkv ⟨V,by simp only [execOp,ho]; exact nI h1,h2⟩
   ·cases hb
  ·rename_i z len e hz ht
   split at hb
   ·rename_i n hn
    cases hj:z.pP with
    | true=>simp [hj] at hb
    | false =>
     simp only [hj,cond_false] at hb
     obtain⟨v,hv,hk⟩:=Option.bind_eq_some_iff.1 hb
     obtain⟨V,h1,h2⟩:=N7 (P:=cx.P) (G:=G) (h:=h) (w:=w) ht hz hn ev hj hv
     exact nL i hk hkv ⟨V,by simp only [execOp,ho]; exact nI h1,h2⟩
   ·cases hb
  ·cases hb
 ·rename_i t len parts ho
  split at hb
  ·rename_i e he
   have ht:cx.P.underlying t=some (.slice e):=by unfold IK at he; split at he <;> simp_all
   split at hb
   ·rename_i n z hn hz
    cases hg:(n == 0 || z.pP || decide (len * n > 16777216)) with
    | true=>simp only [hg,cond_true] at hb; cases hb
    | false =>
     simp only [hg,cond_false] at hb
     simp only [Bool.or_eq_false_iff,beq_eq_false_iff_ne,decide_eq_false_iff_not] at hg
     obtain⟨⟨h0,hj⟩,hle⟩:=hg
     split at hb
     ·unfold lK at hb
      obtain⟨⟨p,h'⟩,hv,hk⟩:=Option.bind_eq_some_iff.1 hb
      cases hvl:cx.vlit t with
      | false =>
       rw [hvl,cond_false] at hv
       obtain⟨V,w',G',h1,h2,h3,h4⟩:=Gb (P:=cx.P) i ht hz hn h0 (by omega) ev hj hv
       exact r_ hk hkv ⟨V,w',G',by simp only [execOp,ho]; exact nI h1,h2,h3,h4⟩
      | true =>
       rw [hvl,cond_true] at hv
       obtain⟨V,w',G',h1,h2,h3,h4⟩:=Ff (P:=cx.P) i ht hz hn h0 (by omega) ev hj hv
       exact r_ hk hkv ⟨V,w',G',by simp only [execOp,ho]; exact nI h1,h2,h3,h4⟩
     ·unfold lK at hb
      obtain⟨⟨p,h'⟩,hv,hk⟩:=Option.bind_eq_some_iff.1 hb
      obtain⟨V,w',G',h1,h2,h3,h4⟩:=ER (P:=cx.P) i ht hz hn h0 (by omega) ev hj hv
      exact r_ hk hkv ⟨V,w',G',by simp only [execOp,ho]; exact nI h1,h2,h3,h4⟩
   ·cases hb
  ·cases hb
 ·rename_i t x ho
  split at hb
  ·rename_i g n hg hn
   obtain⟨v,hv,hk⟩:=Option.bind_eq_some_iff.1 hb
   obtain⟨V,h1,h2⟩:=IF (P:=cx.P) hg hn i hv (ev x)
   cases hfr:cx.rb && cx.frl with
   | false =>
    rw [hfr,cond_false] at hk
    exact nL i hk hkv ⟨V,by simp only [execOp,ho]; exact nI h1,h2⟩
   | true =>
    rw [hfr,cond_true] at hk
    unfold lK at hk
    obtain⟨⟨y,h3⟩,hy,hk⟩:=Option.bind_eq_some_iff.1 hk
    obtain⟨G1,i1,x1,r1⟩:=Ki i hy h2
    exact r_ hk hkv ⟨V,w,G1,by simp only [execOp,ho]; exact nI h1,i1,x1,r1⟩
  ·cases hb
 ·rename_i t p x ho
  split at hb
  ·rename_i n hn
   cases hfz:cx.frz with
   | false =>
    rw [hfz,cond_false] at hb
    obtain⟨h',hv,hk⟩:=Option.bind_eq_some_iff.1 hb
    obtain⟨w',h1,h2,h3⟩:=Gd (P:=cx.P) hn i hv (ev p) (ev x)
    exact Md (by simp only [execOp,ho]; exact LF h1) (hkv _ _ G w' _ hk h3 h2 .undef)
   | true =>
    rw [hfz,cond_true] at hb
    obtain⟨⟨y,h1⟩,hy,hb⟩:=Option.bind_eq_some_iff.1 hb
    obtain⟨h',hv,hk⟩:=Option.bind_eq_some_iff.1 hb
    obtain⟨G1,i1,x1,r1⟩:=Bm i hy (ev x)
    obtain⟨w',g1,g2,g3⟩:=Gd (P:=cx.P) hn i1 hv ((ev p).mono x1.toMono) r1
    exact Md (by simp only [execOp,ho]; exact LF g1) (hkv _ _ G1 w' _ hk (x1.trans g3) g2 .undef)
  ·cases hb
 ·rename_i x ho
  obtain⟨v,hv,hk⟩:=Option.bind_eq_some_iff.1 hb
  have hx:=ev x
  refine nL i hk hkv ⟨a.eval x,?_,?_⟩
  ·unfold lX at hv
   split at hv <;> simp only [Option.some.injEq,reduceCtorEq] at hv
   ·rename_i he; rw [he] at hx; obtain⟨h1,_⟩:=hx.Ai; simp [execOp,ho,h1,Sem.run_pure]
   ·rename_i he; rw [he] at hx; obtain⟨_,h1,_⟩:=hx.DX; simp [execOp,ho,h1,Sem.run_pure]
   ·rename_i he
    rw [he] at hx
    have:=hx.DG
    generalize hX:a.eval x=X at this
    cases this
    simp [execOp,ho,hX,Sem.run_pure]
   ·rename_i he; rw [he] at hx; obtain⟨F,C,h1,_⟩:=hx.Gr; simp [execOp,ho,h1,Sem.run_pure]
  ·unfold lX at hv
   split at hv <;> simp only [Option.some.injEq,reduceCtorEq] at hv
   all_goals (rename_i he; rw [he] at hx; rw [←hv]; exact hx)
 ·rename_i op t x y yt ho
  split at hb
  ·rename_i fs ht
   split at hb
   ·rename_i ks hks
    obtain⟨b,hv,hk⟩:=Option.bind_eq_some_iff.1 hb
    have:=(IL (P:=cx.P) (w:=w) ht hks x y hv (ev x) (ev y)).1
    exact nL i hk hkv ⟨_,by simp only [execOp,ho]; exact nI this,.p _ _ (.bool _)⟩
   ·cases hb
  ·rename_i fs ht
   split at hb
   ·rename_i ks hks
    obtain⟨b,hv,hk⟩:=Option.bind_eq_some_iff.1 hb
    have:=(IL (P:=cx.P) (w:=w) ht hks x y hv (ev x) (ev y)).2
    exact nL i hk hkv ⟨_,by simp only [execOp,ho]; exact nI this,.p _ _ (.bool _)⟩
   ·cases hb
  ·rename_i ht
   obtain⟨v,hv,hk⟩:=Option.bind_eq_some_iff.1 hb
   obtain⟨V,h1,h2⟩:=Qh (P:=cx.P) (w:=w) ht x y hv (ev x) (ev y)
   exact nL i hk hkv ⟨V,by simp only [execOp,ho]; exact nI h1,h2⟩
  ·obtain⟨v,hv,hk⟩:=Option.bind_eq_some_iff.1 hb
   obtain⟨V,h1,h2⟩:=Kb (P:=cx.P) (w:=w) t x y hv (ev x) (ev y)
   exact nL i hk hkv ⟨V,by simp only [execOp,ho]; exact nI h1,h2⟩
  ·obtain⟨v,hv,hk⟩:=Option.bind_eq_some_iff.1 hb
   obtain⟨V,h1,h2⟩:=Kb (P:=cx.P) (w:=w) t x y hv (ev x) (ev y)
   exact nL i hk hkv ⟨V,by simp only [execOp,ho]; exact nI h1,h2⟩
  ·cases hb
 ·rename_i op t x ho
  obtain⟨v,hv,hk⟩:=Option.bind_eq_some_iff.1 hb
  obtain⟨V,h1,h2⟩:=VV (P:=cx.P) (w:=w) hv (ev x)
  exact nL i hk hkv ⟨V,by simp only [execOp,ho]; exact nI h1,h2⟩
 ·rename_i sT dT x ho
  split at hb
  ·rename_i k0 k hs hd
   obtain⟨v,hv,hk⟩:=Option.bind_eq_some_iff.1 hb
   obtain⟨V,h1,h2⟩:=Kc (P:=cx.P) (w:=w) hs hd hv (ev x)
   exact nL i hk hkv ⟨V,by simp only [execOp,ho]; exact nI h1,h2⟩
  ·rename_i e hs hd
   split at hb
   ·rename_i hu
    obtain⟨v,hv,hk⟩:=Option.bind_eq_some_iff.1 hb
    have hv:wV h (sB cx.A ρ x)=some v:=by
     cases hrb:cx.rb with
     | true=>rw [hrb] at hv; exact hv
     | false =>
      rw [hrb] at hv
      have hv:wH (sB cx.A ρ x)=some v:=hv
      unfold wV
      split
      ·rename_i hx
       unfold wH at hv
       rw [hx] at hv; cases hv
      ·rename_i hx
       unfold wH at hv
       rw [hx] at hv; cases hv
      ·exact hv
    obtain⟨V,h1,h2⟩:=Mj (P:=cx.P) i hv (ev x)
    have hsl:∃q n c,a.eval x=Value.slice q n c:=by
     have hx:=ev x
     generalize sB cx.A ρ x=y at hv hx
     generalize a.eval x=Y at hx
     unfold wV at hv
     split at hv
     ·obtain⟨b,cap,rfl,_⟩:=hx.rM
      exact⟨_,_,_,rfl⟩
     ·obtain⟨b,cap,rfl,_⟩:=hx.x_
      exact⟨_,_,_,rfl⟩
     ·unfold wH at hv
      split at hv
      ·have hp:=hx.tQ
       cases hp <;> exact⟨_,_,_,rfl⟩
      ·cases hv
    obtain⟨q,n,c,hq⟩:=hsl
    rw [hq] at h1
    exact nL i hk hkv ⟨V,by
     simp only [execOp,ho,hq]
     refine nI ?_
     simp only [Go.convert,Sem.run_bind,run_underlying hs,run_underlying hd,run_underlying hu,Result.andThen_ok]
     exact h1,h2⟩
   ·cases hb
  ·cases hb
 ·rename_i t ho
  obtain⟨G',h1,h2,h3⟩:=i.arG
  exact r_ hb hkv ⟨.map (some w.heap.size),_,G',by simp only [execOp,ho]; exact nI (run_makeMap t w),h1,h2,h3⟩
 ·rename_i t l c ho
  split at hb
  ·rename_i e he
   have ht:cx.P.underlying t=some (.slice e):=by unfold IK at he; split at he <;> simp_all
   split at hb
   ·rename_i n by_ z hn hby hz
    cases hg:(n == 0 || z.pP || z.cells.length != n || !(z.cells.all kS.mV) || !(Ue l c)) with
    | true=>simp only [hg,cond_true] at hb; cases hb
    | false =>
     simp only [hg,cond_false] at hb
     simp only [Bool.or_eq_false_iff,beq_eq_false_iff_ne,bne_eq_false_iff_eq,Bool.not_eq_false'] at hg
     obtain⟨⟨⟨⟨h0,hj⟩,hl⟩,hall⟩,hso⟩:=hg
     unfold lK at hb
     obtain⟨⟨p,h'⟩,hv,hk⟩:=Option.bind_eq_some_iff.1 hb
     obtain⟨k,k',m,e1,e2,e3⟩:∃k k' m,sB cx.A ρ l=.int k m∧a.eval l=.int k m∧a.eval c=.int k' m:=by
      have hx:=ev l
      have hm:∃k m,sB cx.A ρ l=.int k m:=by
       cases hvm:cx.vmk <;> rw [hvm] at hv <;> simp only [cond_true,cond_false] at hv
       ·unfold qO at hv
        split at hv
        ·rename_i k m he; exact⟨k,m,he⟩
        ·cases hv
       ·unfold nM at hv
        split at hv
        ·rename_i k m he; exact⟨k,m,he⟩
        ·cases hv
      obtain⟨k,m,hm⟩:=hm
      rw [hm] at hx
      have hx:=hx.qP
      unfold Ue at hso
      split at hso
      ·simp at hso; subst hso; exact⟨k,k,m,hm,hx,hx⟩
      ·rename_i k1 a1 k2 b1
       simp at hso; subst hso
       simp only [sB,ofConst,DB,kS.int.injEq] at hm
       obtain⟨rfl,rfl⟩:=hm
       exact⟨_,_,_,rfl,rfl,rfl⟩
      ·cases hso
     obtain⟨V,w',G',h1,h2,h3,h4⟩:∃V w' G',(Instr.makeSlice t (a.eval l) (a.eval c)).run cx.P w=.ok V w'∧Inv G' h' w'∧Ext G h w G' h' w'∧l_ G' h' p V:=by
      cases hvm:cx.vmk <;> rw [hvm] at hv <;> simp only [cond_true,cond_false] at hv
      ·exact G_ (P:=cx.P) i ht hn hby hz hj hl hall hv e1 e2 e3
      ·exact Gc (P:=cx.P) i ht hn hby hz h0 hj hl hall hv e1 e2 e3
     exact r_ hk hkv ⟨V,w',G',by simp only [execOp,ho]; exact nI h1,h2,h3,h4⟩
   ·cases hb
  ·cases hb
 ·rename_i t m k ok ho
  split at hb
  ·rename_i kt e ht
   split at hb
   ·rename_i d z hd hz
    cases hf:pL d (sB cx.A ρ k) with
    | false=>simp only [hf,cond_false] at hb; cases hb
    | true =>
     simp only [hf,cond_true] at hb
     obtain⟨v,hv,hk⟩:=Option.bind_eq_some_iff.1 hb
     obtain⟨V,h1,h2⟩:=Mm (P:=cx.P) i ht hd hz hf hv (ev m) (ev k)
     exact nL i hk hkv ⟨V,by simp only [execOp,ho]; exact nI h1,h2⟩
   ·cases hb
  ·cases hb
 ·rename_i t m k x ho
  split at hb
  ·rename_i kt e ht
   split at hb
   ·rename_i d hd
    cases hf:pL d (sB cx.A ρ k) with
    | false=>simp only [hf,cond_false] at hb; cases hb
    | true =>
     simp only [hf,cond_true] at hb
     obtain⟨h',hv,hk⟩:=Option.bind_eq_some_iff.1 hb
     obtain⟨w',h1,h2,h3⟩:=Mo (P:=cx.P) i ht hd hf hv (ev m) (ev k) (ev x)
     exact Md (by simp only [execOp,ho]; exact LF h1) (hkv _ _ G w' _ hk h3 h2 .undef)
   ·cases hb
  ·cases hb
 ·rename_i t x ho
  split at hb
  ·cases hb
  ·rename_i d hne hd
   refine nL i hb hkv ⟨.iface t (a.eval x),?_,.iface _ _ _ (ev x)⟩
   have:(Instr.makeInterface t (a.eval x)).run cx.P w=.ok (.iface t (a.eval x)) w:=by
    unfold Instr.makeInterface
    simp only [Sem.run_bind,run_underlying hd,Result.andThen_ok]
    cases d <;> first | (exact absurd rfl (hne _); done) | simp [Sem.run_pure]
   simp only [execOp,ho]; exact nI this
  ·cases hb
 ·rename_i f first cap ho
  refine nL i hb hkv ⟨.func (.func f) (first.map a.eval) (cap.map a.eval),by simp only [execOp,ho]; exact nI (by simp only [Instr.makeFunc,Sem.run_pure]),.func f _ _ _ _ (by simp) (by simp) ?_ ?_⟩
  ·intro j u hu
   simp only [List.getElem?_map,Option.map_eq_some_iff,Array.getElem?_toList] at hu
   obtain⟨x,hx,rfl⟩:=hu
   have:(first.map a.eval).getD j undef=a.eval x:=by simp [Array.getD_eq_getD_getElem?,hx]
   rw [this]; exact ev x
  ·intro j u hu
   simp only [List.getElem?_map,Option.map_eq_some_iff,Array.getElem?_toList] at hu
   obtain⟨x,hx,rfl⟩:=hu
   have:(cap.map a.eval).getD j undef=a.eval x:=by simp [Array.getD_eq_getD_getElem?,hx]
   rw [this]; exact ev x
 ·rename_i t x lo hi ho
  obtain⟨l1,l2⟩:=abR (G:=G) (h:=h) ev lo
  obtain⟨h1,h2⟩:=abR (G:=G) (h:=h) ev hi
  split at hb
  ·rename_i ht
   obtain⟨v,hv,hk⟩:=Option.bind_eq_some_iff.1 hb
   obtain⟨V,e1,e2⟩:=Jg (P:=cx.P) (w:=w) l1 l2 h1 h2 ht hv (ev x)
   exact nL i hk hkv ⟨V,by simp only [execOp,ho]; exact nI e1,e2⟩
  ·rename_i e ht
   split at hb
   ·rename_i n hn
    obtain⟨v,hv,hk⟩:=Option.bind_eq_some_iff.1 hb
    obtain⟨V,e1,e2⟩:=Kp (P:=cx.P) (w:=w) l1 l2 h1 h2 ht hn hv (ev x)
    exact nL i hk hkv ⟨V,by simp only [execOp,ho]; exact nI e1,e2⟩
   ·cases hb
  ·rename_i len e ht
   split at hb
   ·rename_i n hn
    obtain⟨v,hv,hk⟩:=Option.bind_eq_some_iff.1 hb
    obtain⟨V,e1,e2⟩:=Jf (P:=cx.P) (w:=w) l1 l2 h1 h2 ht hn hv (ev x)
    exact nL i hk hkv ⟨V,by simp only [execOp,ho]; exact nI e1,e2⟩
   ·cases hb
  ·cases hb
 ·rename_i t x f ho
  split at hb
  ·rename_i fs ht
   split at hb
   ·rename_i fd hf
    split at hb
    ·rename_i n hn
     obtain⟨v,hv,hk⟩:=Option.bind_eq_some_iff.1 hb
     obtain⟨V,e1,e2⟩:=Kg (P:=cx.P) (w:=w) ht hf hn hv (ev x)
     exact nL i hk hkv ⟨V,by simp only [execOp,ho]; exact nI e1,e2⟩
    ·cases hb
   ·cases hb
  ·cases hb
 ·rename_i t x f ho
  split at hb
  ·rename_i fs ht
   split at hb
   ·rename_i fd hf
    split at hb
    ·rename_i g n hg hn
     obtain⟨v,hv,hk⟩:=Option.bind_eq_some_iff.1 hb
     obtain⟨V,e1,e2⟩:=Oa (P:=cx.P) (w:=w) (ft:=fd.type) ht hf hg hn hv (ev x)
     exact nL i hk hkv ⟨V,by simp only [execOp,ho]; exact nI e1,e2⟩
    ·cases hb
   ·cases hb
  ·cases hb
 ·rename_i t x ix ho
  split at hb
  ·rename_i e ht
   split at hb
   ·rename_i n hn
    obtain⟨v,hv,hk⟩:=Option.bind_eq_some_iff.1 hb
    obtain⟨V,e1,e2⟩:=Kl (P:=cx.P) (w:=w) ht hn hv (ev x) (ev ix)
    exact nL i hk hkv ⟨V,by simp only [execOp,ho]; exact nI e1,e2⟩
   ·cases hb
  ·rename_i len e ht
   split at hb
   ·rename_i n hn
    obtain⟨v,hv,hk⟩:=Option.bind_eq_some_iff.1 hb
    obtain⟨V,e1,e2⟩:=Kk (P:=cx.P) (w:=w) ht hn hv (ev x) (ev ix)
    exact nL i hk hkv ⟨V,by simp only [execOp,ho]; exact nI e1,e2⟩
   ·cases hb
  ·cases hb
 ·rename_i t x ix ho
  split at hb
  ·rename_i ht
   obtain⟨v,hv,hk⟩:=Option.bind_eq_some_iff.1 hb
   obtain⟨V,e1,e2⟩:=Je (P:=cx.P) (w:=w) ht hv (ev x) (ev ix)
   exact nL i hk hkv ⟨V,by simp only [execOp,ho]; exact nI e1,e2⟩
  ·rename_i len e ht
   split at hb
   ·rename_i g n hg hn
    obtain⟨v,hv,hk⟩:=Option.bind_eq_some_iff.1 hb
    obtain⟨V,e1,e2⟩:=Jc (P:=cx.P) (w:=w) ht hg hn hv (ev x) (ev ix)
    exact nL i hk hkv ⟨V,by simp only [execOp,ho]; exact nI e1,e2⟩
   ·cases hb
  ·cases hb
 ·rename_i x ix ho
  obtain⟨v,hv,hk⟩:=Option.bind_eq_some_iff.1 hb
  obtain⟨V,e1,e2⟩:=Kf (P:=cx.P) (w:=w) hv (ev x)
  exact nL i hk hkv ⟨V,by simp only [execOp,ho]; exact nI e1,e2⟩
 ·rename_i x xt t ho
  split at hb
  ·cases hb
  ·rename_i td hni ht
   split at hb
   ·rename_i z hz
    obtain⟨v,hv,hk⟩:=Option.bind_eq_some_iff.1 hb
    obtain⟨Z,hz1,hz2⟩:=rT (P:=cx.P) (w:=w) (G:=G) (h:=h) hz
    have hx:=ev x
    have run:∀X,a.eval x=X→(execOp a.eval o).run cx.P w=(do pure (Next.value (←Instr.typeAssert X xt t true)):Sem Next).run cx.P w:=by
     intro X hX; simp only [execOp,ho,hX]
    unfold A4 at hv
    split at hv
    ·rename_i t' u hu
     simp only [Option.some.injEq] at hv
     rw [hu] at hx
     obtain⟨W,h1,h2⟩:=hx.Ej
     have run1:(Instr.typeAssert (.iface t' W) xt t true).run cx.P w=if t'=t then .ok (.tuple #[W,.bool true]) w else .ok (.tuple #[Z,.bool false]) w:=by
      cases td <;> first | exact(hni _ rfl).elim | (by_cases htt:t'=t <;> simp [Instr.typeAssert,run_underlying ht,Sem.run_pure,htt,hz1])
     by_cases htt:t'=t
     ·have e:(t' == t)=true:=by simpa using htt
      rw [e] at hv
      simp only [cond_true] at hv
      subst hv
      refine nL i hk hkv ⟨.tuple #[W,.bool true],by rw [run _ h1]; exact nI (by rw [run1,if_pos htt]),.tuple _ _ rfl fun j c hc=>?_⟩
      match j with
      | 0=>simp at hc; subst hc; exact h2
      | 1=>simp at hc; subst hc; exact .p _ _ (.bool true)
      | j+2=>simp at hc
     ·have e:(t' == t)=false:=by simpa using htt
      rw [e] at hv
      simp only [cond_false] at hv
      subst hv
      refine nL i hk hkv ⟨.tuple #[Z,.bool false],by rw [run _ h1]; exact nI (by rw [run1,if_neg htt]),.tuple _ _ rfl fun j c hc=>?_⟩
      match j with
      | 0=>simp at hc; subst hc; exact hz2
      | 1=>simp at hc; subst hc; exact .p _ _ (.bool false)
      | j+2=>simp at hc
    ·rename_i hu
     simp only [Option.some.injEq] at hv
     rw [hu] at hx
     have h1:a.eval x=.nilIface:=by
      generalize a.eval x=X at hx
      cases hx with
      | p _ _ hp=>cases hp; rfl
     have run1:(Instr.typeAssert .nilIface xt t true).run cx.P w=.ok (.tuple #[Z,.bool false]) w:=by
      cases td <;> first | exact(hni _ rfl).elim | simp [Instr.typeAssert,run_underlying ht,Sem.run_pure,hz1]
     subst hv
     refine nL i hk hkv ⟨.tuple #[Z,.bool false],by rw [run _ h1]; exact nI run1,.tuple _ _ rfl fun j c hc=>?_⟩
     match j with
     | 0=>simp at hc; subst hc; exact hz2
     | 1=>simp at hc; subst hc; exact .p _ _ (.bool false)
     | j+2=>simp at hc
    ·cases hv
   ·cases hb
  ·cases hb
 ·rename_i x ho
  unfold Oe at hb
  split at hb
  ·rename_i t v hv
   have hx:=ev x
   rw [hv] at hx
   obtain⟨W,h1,h2⟩:=hx.Ej
   have hrun:(execOp a.eval o).run cx.P w=.halt (.panic (.iface t W)) w:=by
    simp only [execOp,ho,h1,Instr.panic]
    rfl
   unfold Oper.wp
   rw [hrun]
   exact hkp _ _ G w _ hb (Ext.refl G h w) i (.iface _ _ _ h2)
  ·cases hb
 ·rename_i c ho
  split at hb
  ·rename_i b hcal
   exact Mq ho hcal hb i ev hkv
  ·rename_i f hcal
   obtain⟨⟨g,fi,ca⟩,hv,hk⟩:=Option.bind_eq_some_iff.1 hb
   have hf:=ev f
   unfold sK at hv
   split at hv <;> simp only [Option.some.injEq,Prod.mk.injEq,reduceCtorEq] at hv
   rename_i g' fi' ca' hfv
   obtain⟨rfl,rfl,rfl⟩:=hv
   rw [hfv] at hf
   obtain⟨F,C,hF,hlf,hlc,hrf,hrc⟩:=hf.Gr
   simp only [] at hk
   unfold lL at hk
   obtain⟨⟨res,h'⟩,hcall,hk⟩:=Option.bind_eq_some_iff.1 hk
   have hargs0:BI G h (fi'++c.args.toList.map (sB cx.A ρ)++ca') (F++c.args.map a.eval++C):=by
    refine⟨by simp [hlf,hlc],fun j u hu=>?_⟩
    rw [Array.getD_eq_getD_getElem?]
    by_cases h1:j < fi'.length
    ·rw [List.append_assoc,List.getElem?_append_left h1] at hu
     rw [Array.append_assoc,Array.getElem?_append_left (by omega)]
     have:=hrf j u hu
     rwa [Array.getD_eq_getD_getElem?] at this
    ·by_cases h2:j < fi'.length+c.args.size
     ·rw [List.append_assoc,List.getElem?_append_right (by omega),List.getElem?_append_left (by simp; omega)] at hu
      rw [Array.append_assoc,Array.getElem?_append_right (by omega),Array.getElem?_append_left (by simp; omega)]
      simp only [List.getElem?_map,Option.map_eq_some_iff,Array.getElem?_toList] at hu
      obtain⟨x,hx,rfl⟩:=hu
      rw [←hlf]
      simp only [Array.getElem?_map,hx,Option.map_some,Option.getD_some]
      exact ev x
     ·rw [List.getElem?_append_right (by simp; omega)] at hu
      rw [Array.getElem?_append_right (by simp; omega)]
      have:=hrc _ u hu
      rw [Array.getD_eq_getD_getElem?] at this
      simpa [hlf] using this
   have hargs:BI G h (uS cx.A g' (fi'++c.args.toList.map (sB cx.A ρ)++ca')) (F++c.args.map a.eval++C):=by
    unfold uS
    cases cx.A.grow g' with
    | true=>exact hargs0
    | false =>
     refine⟨by simpa using hargs0.1,fun j u hu=>?_⟩
     simp only [cond_false,List.getElem?_map,Option.map_eq_some_iff] at hu
     obtain⟨x,hx,rfl⟩:=hu
     exact EN (hargs0.2 j x hx)
   cases hext:cx.A.ext g' with
   | some ek =>
   simp only [zV,hext] at hcall
   obtain⟨v,V,hr,hrun,hV⟩:=SE hX hext hcall hargs.1 hargs.2 (w:=w)
   cases hr
   have hrun':(execOp a.eval o).run cx.P w=.ok (.value V) w:=by
    simp only [execOp,ho,resolve,hcal,hF,Deferred.ofValue,Sem.run_bind,Sem.run_pure,Result.andThen_ok,invoke]
    exact hrun
   exact PM hrun' (hkv v h G w V hk (Ext.refl G h w) i hV)
   | none =>
   simp only [zV,hext] at hcall
   obtain⟨henter,hcalls⟩:=hK _ _ _ _ _ hcall G w _ i gl hargs
   have hrun:(execOp a.eval o).run cx.P w=.ok (.enter g' (F++c.args.map a.eval++C)) w:=by
    simp only [execOp,ho,resolve,hcal,hF,Deferred.ofValue,Sem.run_bind,Sem.run_pure,Result.andThen_ok,invoke]
    exact henter w
   unfold Oper.wp
   rw [hrun]
   refine Calls.mono hcalls fun e w' hpost=>?_
   obtain⟨G',x',i',hres⟩:=hpost
   cases res with
   | ret v =>
    obtain⟨V,rfl,hV⟩:=hres
    exact hkv v h' G' w' V hk x' i' hV
   | pan v =>
    obtain⟨V,rfl,hV⟩:=hres
    exact hkp v h' G' w' V hk x' i' hV
  ·cases hb
 ·cases hb
end
end Hk


namespace Hk
open Go Go.RowKit
section
variable {cx:Cx}{o:Oper}{ρ:List kS}{h:kU}{kv kp:kS→kU→Option R}{r:R}{ids:List Nat}{ops:List Oper}
theorem Cv {rsv:Option Nat}:evalOp cx o rsv ρ h kv kp=(evalOp cx o rsv ρ h kY wS).bind (kZ kv kp):=by
 unfold evalOp
 generalize sB cx.A ρ=v
 have B:∀(e:Option kS),(e.bind fun w=>kv w h)=(e.bind fun w=>kY w h).bind (kZ kv kp):=by intro e; cases e <;> rfl
 have BV:∀(e:Option (kS×kU)),lK e kv=(lK e kY).bind (kZ kv kp):=by intro e; cases e <;> rfl
 have BR:∀(e:Option (nZ×kU)),lL e kv kp=(lL e kY wS).bind (kZ kv kp):=by
  intro e
  cases e with
  | none=>rfl
  | some e=>obtain⟨r,h⟩:=e; cases r <;> rfl
 have BH:∀(e:Option kU),(e.bind fun h'=>kv (.tuple []) h')=(e.bind fun h'=>kY (.tuple []) h').bind (kZ kv kp):=by intro e; cases e <;> rfl
 have BB:∀(e:Option Bool) (f:Bool→kS),(e.bind fun b=>kv (f b) h)=(e.bind fun b=>kY (f b) h).bind (kZ kv kp):=by intro e f; cases e <;> rfl
 have C:∀(b:Bool) (x y:Option R),x=y.bind (kZ kv kp)→(bif b then none else x)=(bif b then none else y).bind (kZ kv kp):=by intro b x y hxy; cases b <;> simp [hxy]
 have D:∀(b:Bool) (x y:Option R),x=y.bind (kZ kv kp)→(bif b then x else none)=(bif b then y else none).bind (kZ kv kp):=by intro b x y hxy; cases b <;> simp [hxy]
 have bu:∀(b:Builtin) (ts:List TypeId) (args:List kS),sX cx b ts args h kv=(sX cx b ts args h kY).bind (kZ kv kp):=by
  intro b ts args
  unfold sX
  repeat' split
  all_goals first
   | rfl
   | exact B _
   | exact BV _
   | exact BH _
   | exact D _ _ _ (BH _)
   | exact C _ _ _ (BH _)
   | (refine C _ _ _ ?_; (repeat' split) <;> first | rfl | (refine C _ _ _ ?_; exact BV _))
 have PA:∀(x:kS),Oe x h kp=(Oe x h wS).bind (kZ kv kp):=by intro x; cases x <;> rfl
 unfold oM
 cases ho:o.op with
 | panic x=>exact PA _
 | call c =>
  simp only []
  cases c.callee with
  | builtin b=>exact bu _ _ _
  | value f =>
   simp only []
   cases sK (v f) with
   | none=>rfl
   | some g=>exact BR _
  | _=>rfl
 | assign x =>
  simp only []
  cases hn:B6 x with
  | true=>rfl
  | false=>rfl
 | load t x =>
  simp only []
  split
  ·rename_i g n hg hn
   cases kW g n h (v x) with
   | none=>rfl
   | some w =>
    simp only [Option.bind_some]
    cases cx.rb && cx.frl with
    | false=>rfl
    | true=>exact BV _
  ·rfl
 | store t p x =>
  simp only []
  split
  ·cases cx.frz with
   | false=>exact BH _
   | true =>
    simp only [cond_true]
    cases oZ h (v x) with
    | none=>rfl
    | some y=>exact BH _
  ·rfl
 | makeFunc b f c=>cases b <;> rfl
 | makeMap t r=>cases r <;> rfl
 | typeAssert x xt t ok =>
  cases ok with
  | false=>rfl
  | true =>
   simp only []
   repeat' split
   all_goals first
    | rfl
    | exact B _
 | slice t x lo hi mx =>
  cases mx with
  | some _=>rfl
  | none =>
   simp only []
   repeat' split
   all_goals first
    | rfl
    | exact B _
 | _ =>
  simp only []
  repeat' split
  all_goals first
   | rfl
   | exact B _
   | exact BV _
   | exact BH _
   | exact BB _ _
   | (refine C _ _ _ ?_; first | exact B _ | exact BV _ | (split <;> exact BV _))
   | exact D _ _ _ (B _)
   | exact D _ _ _ (BH _)
theorem Kz:oP cx o ids ρ h kv kp=(oP cx o ids ρ h kY wS).bind (kZ kv kp):=by
 unfold oP
 rw [Cv (kv:=fun v h'=>kv v (oA ids h h')),Cv (kv:=fun v h'=>kY v (oA ids h h')),Option.bind_assoc]
 refine congrArg (Option.bind _) ?_
 funext r
 obtain⟨e,l,h⟩:=r
 cases e with
 | normal =>
  match l with
  | []=>rfl
  | [v]=>rfl
  | _::_::_=>rfl
 | _=>rfl
def An (cx:Cx) (ops:List Oper) (o:Oper) (ids:List Nat) (ρ:List kS) (h:kU) (kv:kS→kU→Option R) (kp:kS→kU→Option R):Option R :=
 match o.guard with
 | none=>oP cx o ids ρ h kv kp
 | some (j,want)=>match (ops[j]?).bind (·.dst) with
  | some d=>match ρ.getD d .junk with
   | .bool g=>bif want then(bif g then oP cx o ids ρ h kv kp else kv (.tuple []) h) else(bif g then kv (.tuple []) h else oP cx o ids ρ h kv kp)
   | .tuple []=>kv (.tuple []) h
   | _=>none
  | none=>none
theorem A6:tM cx ops o ids ρ h kv kp=An cx ops o ids ρ h kv kp:=by
 unfold tM An
 cases o.guard with
 | none=>rfl
 | some jw =>
  obtain⟨j,want⟩:=jw
  simp only []
  cases (ops[j]?).bind (·.dst) with
  | none=>rfl
  | some d =>
   dsimp only
   generalize ρ.getD d .junk=x
   cases x with
   | bool g=>cases want <;> cases g <;> first | rfl | exact Kz.symm
   | tuple vs=>cases vs <;> rfl
   | _=>rfl
end
end Hk


namespace Hk
open Go Go.RowKit
section
variable {cx:Cx}{o:Oper}{ρ ρ':List kS}{h h':kU}{kv kp:kS→kU→Option R}{r:R}{ids:List Nat}{ops:List Oper}
theorem TF {t:Tmp}:t∈yB o↔Operand.tmp t∈o.op.operands:=by
 unfold yB
 simp only [List.mem_filterMap,Array.mem_toList_iff]
 constructor
 ·rintro⟨x,hx,he⟩
  cases x <;> simp at he
  subst he; exact hx
 ·intro hx; exact⟨_,hx,rfl⟩
theorem Kr {A:Cj}(hag:∀t∈yB o,ρ'.getD t .junk=ρ.getD t .junk) {x:Operand}(hx:x∈o.op.operands):sB A ρ' x=sB A ρ x:=by
 cases x with
 | tmp t=>exact hag t (TF.2 hx)
 | _=>rfl
theorem Gm {rsv:Option Nat}(hag:∀t∈yB o,ρ'.getD t .junk=ρ.getD t .junk):evalOp cx o rsv ρ' h kv kp=evalOp cx o rsv ρ h kv kp:=by
 have ev:∀x∈o.op.operands,sB cx.A ρ' x=sB cx.A ρ x:=fun x hx=>Kr hag hx
 unfold evalOp
 generalize sB cx.A ρ'=v' at *
 generalize sB cx.A ρ=v at *
 clear hag
 have mapP:∀(parts:Array (Nat×Operand)),(∀p∈parts,p.2∈o.op.operands)→(parts.toList.map fun p=>(p.1,v' p.2))=parts.toList.map fun p=>(p.1,v p.2):=by
  intro parts hp
  refine List.map_congr_left fun p hm=>?_
  rw [ev p.2 (hp p (by simpa using hm))]
 have mapA:∀(xs:Array Operand),(∀x∈xs,x∈o.op.operands)→xs.toList.map v'=xs.toList.map v:=by
  intro xs hp
  exact List.map_congr_left fun p hm=>ev p (hp p (by simpa using hm))
 unfold oM
 cases ho:o.op with
 | call c =>
  simp only [ho,Op.operands,Call.operands] at ev mapA
  cases hc:c.callee with
  | builtin b=>simp only [hc] at ev mapA ⊢; rw [mapA c.args (by simp)]
  | value f=>simp only [hc] at ev mapA ⊢; rw [mapA c.args (by intro x hx; simp [hx]),ev f (by simp)]
  | _=>simp only [hc]
 | build t parts=>simp only [ho,Op.operands] at mapP ⊢; rw [mapP parts (by intro p hp; simp; exact⟨_,hp⟩)]
 | buildSlice t len parts=>simp only [ho,Op.operands] at mapP ⊢; rw [mapP parts (by intro p hp; simp; exact⟨_,hp⟩)]
 | slice t x lo hi mx =>
  have e1:=ev x (by simp [ho,Op.operands])
  have e2:lo.map v'=lo.map v:=by cases lo with | none=>rfl | some l=>simp [ev l (by simp [ho,Op.operands])]
  have e3:hi.map v'=hi.map v:=by cases hi with | none=>rfl | some l=>simp [ev l (by simp [ho,Op.operands])]
  cases mx with
  | none=>simp only [e1,e2,e3]
  | some m=>rfl
 | makeMap t hint=>cases hint <;> rfl
 | typeAssert x xt t ok =>
  cases ok with
  | false=>rfl
  | true=>simp only [ho,Op.operands] at ev ⊢; rw [ev x (by simp)]
 | makeFunc b first cap =>
  simp only [ho,Op.operands] at mapA
  cases b <;> first | rfl | simp only [mapA cap (by intro x hx; simp [hx]),mapA first (by intro x hx; simp [hx])]
 | _=>simp only [ho,Op.operands] at ev ⊢ <;> simp_all
def qV (h:kU) (id:Nat):Prop:=(∃cs,h[id]?=some (.cells cs))∨(∃es,h[id]?=some (.map es))∨∃tot sz cs,h[id]?=some (.vec tot sz cs)
def xB (cx:Cx) (o:Oper) (ρ:List kS):Option Nat:=(u6 o).bind fun x=>zG (sB cx.A ρ x)
theorem YU {g:Bool}{n:Nat}{x v:kS}(hv:kW g n h x=some v) (h2:kU) (ha:∀id,zG x=some id→qV h id→h2[id]?=h[id]?):kW g n h2 x=some v:=by
 cases x with
 | pptr cs=>exact hv
 | ptr id off =>
  simp only [kW] at hv ⊢
  have:nC h2 id=nC h id:=by
   unfold nC
   cases hb:h[id]? with
   | none=>simp [nC,hb] at hv
   | some bl=>cases bl with
    | cells cs=>rw [ha id rfl (.inl ⟨cs,hb⟩),hb]
    | _=>simp [nC,hb] at hv
  rw [this]; exact hv
 | vptr id tot off =>
  simp only [kW] at hv ⊢
  have:mZ h2 id tot=mZ h id tot:=by
   unfold mZ
   cases hb:h[id]? with
   | none=>simp [mZ,hb] at hv
   | some bl=>cases bl with
    | vec t s cs=>rw [ha id rfl (.inr (.inr ⟨t,s,cs,hb⟩)),hb]
    | _=>simp [mZ,hb] at hv
  rw [this]; exact hv
 | _=>simp [kW] at hv
theorem ZL (hrb:cx.rb=false) (he:qH o=false) (hb:evalOp cx o none ρ h kv kp=some r) :
  ∃v,kv v h=some r∧∀(h2:kU) (kv2 kp2:kS→kU→Option R),(∀id,xB cx o ρ=some id→qV h id→h2[id]?=h[id]?)→evalOp cx o none ρ h2 kv2 kp2=kv2 v h2:=by
 have key:∀{e:Option kS},(e.bind fun w=>kv w h)=some r→(∀h2 kv2 kp2,evalOp cx o none ρ h2 kv2 kp2=e.bind fun w=>kv2 w h2) →
   ∃v,kv v h=some r∧∀(h2:kU) (kv2 kp2:kS→kU→Option R),(∀id,xB cx o ρ=some id→qV h id→h2[id]?=h[id]?)→evalOp cx o none ρ h2 kv2 kp2=kv2 v h2:=by
  intro e h1 h2
  obtain⟨v,hv,hk⟩:=Option.bind_eq_some_iff.1 h1
  exact⟨v,hk,fun a b c _=>by rw [h2,hv]; rfl⟩
 have key0:∀{v:kS},kv v h=some r→(∀h2 kv2 kp2,evalOp cx o none ρ h2 kv2 kp2=kv2 v h2) →
   ∃v,kv v h=some r∧∀(h2:kU) (kv2 kp2:kS→kU→Option R),(∀id,xB cx o ρ=some id→qV h id→h2[id]?=h[id]?)→evalOp cx o none ρ h2 kv2 kp2=kv2 v h2 :=
  fun h1 h2=>⟨_,h1,fun a b c _=>h2 a b c⟩
 unfold evalOp oM at hb
 cases ho:o.op with
 | load t a =>
  simp only [ho] at hb
  split at hb
  ·rename_i g n hg hn
   obtain⟨v,hv,hk⟩:=Option.bind_eq_some_iff.1 hb
   rw [hrb,Bool.false_and,cond_false] at hk
   refine⟨v,hk,fun h2 kv2 kp2 ha=>?_⟩
   have:=YU hv h2 fun id hid hblk=>ha id (by simp [xB,u6,ho,hid]) hblk
   simp only [evalOp,oM,ho,hg,hn,this,Option.bind_some,hrb,Bool.false_and,cond_false]
  ·cases hb
 | lookup t m k ok =>
  simp only [ho] at hb
  split at hb
  ·rename_i kt e hu
   split at hb
   ·rename_i d z hd hz
    cases hf:pL d (sB cx.A ρ k) with
    | false=>rw [hf] at hb; cases hb
    | true =>
     rw [hf] at hb
     obtain⟨v,hv,hk⟩:=Option.bind_eq_some_iff.1 hb
     refine⟨v,hk,fun h2 kv2 kp2 ha=>?_⟩
     have:Co z ok h2 (sB cx.A ρ m) (sB cx.A ρ k)=some v:=by
      rw [←hv]
      unfold Co
      have hg:Dv h2 (sB cx.A ρ m)=Dv h (sB cx.A ρ m):=by
       generalize hm:sB cx.A ρ m=x at hv
       cases x with
       | map id =>
        simp only [Dv]
        cases hb:h[id]? with
        | none=>simp [Co,Dv,hb] at hv
        | some bl=>cases bl with
         | map es=>rw [ha id (by simp [xB,u6,ho,hm,zG]) (.inr (.inl ⟨es,hb⟩)),hb]
         | _=>simp [Co,Dv,hb] at hv
       | _=>rfl
      rw [hg]
     simp only [evalOp,oM,ho,hu,hd,hz,hf,cond_true,this,Option.bind_some]
   ·cases hb
  ·cases hb
 | call c =>
  simp only [qH,ho] at he
  simp only [ho] at hb
  cases hc:c.callee with
  | builtin b =>
   simp only [hc] at hb he
   unfold sX at hb
   split at hb
   ·rename_i t x hT hA
    split at hb
    ·rename_i ht; exact key0 hb fun _ _ _=>by simp only [evalOp,oM,ho,hc,sX,hT,hA,ht]
    ·rename_i ht; exact key hb fun _ _ _=>by simp only [evalOp,oM,ho,hc,sX,hT,hA,ht]
    ·rename_i ht; exact key hb fun _ _ _=>by simp only [evalOp,oM,ho,hc,sX,hT,hA,ht]
    ·cases hb
   ·rename_i hA; exact key hb fun _ _ _=>by simp only [evalOp,oM,ho,hc,sX,hA]
   ·rename_i hA; exact key hb fun _ _ _=>by simp only [evalOp,oM,ho,hc,sX,hA]
   ·simp at he
   ·simp at he
   ·simp at he
   ·simp at he
   ·cases hb
  | value f=>simp [hc] at he
  | _=>simp [hc] at he
 | binOp op t x y yt =>
  simp only [ho] at hb
  split at hb
  ·rename_i fs hu
   split at hb
   ·rename_i ks hks
    obtain⟨v,hv,hk⟩:=Option.bind_eq_some_iff.1 hb
    exact⟨_,hk,fun a b c _=>by simp [evalOp,oM,ho,hu,hks,hv]⟩
   ·cases hb
  ·rename_i fs hu
   split at hb
   ·rename_i ks hks
    obtain⟨v,hv,hk⟩:=Option.bind_eq_some_iff.1 hb
    exact⟨_,hk,fun a b c _=>by simp [evalOp,oM,ho,hu,hks,hv]⟩
   ·cases hb
  all_goals first
   | exact key hb fun _ _ _=>by simp [evalOp,oM, *]
   | cases hb
 | assign x =>
  simp only [ho,qH] at he hb
  simp only [he,cond_false] at hb
  exact key0 hb fun _ _ _=>by simp only [evalOp,oM,ho,he,cond_false]
 | makeInterface t x =>
  simp only [ho] at hb
  split at hb
  ·cases hb
  ·exact key0 hb fun _ _ _=>by simp [evalOp,oM, *]
  ·cases hb
 | makeFunc b first cap =>
  cases b <;> simp only [ho] at hb <;> first
   | exact key0 hb fun _ _ _=>by simp only [evalOp,oM,ho]
   | cases hb
 | slice t x lo hi mx =>
  cases mx with
  | some m=>simp only [ho] at hb; cases hb
  | none =>
   simp only [ho] at hb
   split at hb
   ·exact key hb fun _ _ _=>by simp [evalOp,oM, *]
   ·split at hb
    ·exact key hb fun _ _ _=>by simp [evalOp,oM, *]
    ·cases hb
   ·split at hb
    ·exact key hb fun _ _ _=>by simp [evalOp,oM, *]
    ·cases hb
   ·cases hb
 | typeAssert x xt t ok =>
  cases ok with
  | false=>simp only [ho] at hb; cases hb
  | true =>
   simp only [ho] at hb
   split at hb
   ·cases hb
   ·split at hb
    ·exact key hb fun _ _ _=>by simp only [evalOp,oM, *]
    ·cases hb
   ·cases hb
 | move x =>
  simp only [ho] at hb
  exact key0 hb fun _ _ _=>by simp only [evalOp,oM,ho]
 | fieldAddr t x f =>
  simp only [ho] at hb
  split at hb
  ·split at hb
   ·split at hb
    ·exact key hb fun _ _ _=>by simp [evalOp,oM, *]
    ·cases hb
   ·cases hb
  ·cases hb
 | field t x f =>
  simp only [ho] at hb
  split at hb
  ·split at hb
   ·split at hb
    ·exact key hb fun _ _ _=>by simp [evalOp,oM, *]
    ·cases hb
   ·cases hb
  ·cases hb
 | indexAddr t x i =>
  simp only [ho] at hb
  split at hb
  ·split at hb
   ·exact key hb fun _ _ _=>by simp [evalOp,oM, *]
   ·cases hb
  ·split at hb
   ·exact key hb fun _ _ _=>by simp [evalOp,oM, *]
   ·cases hb
  ·cases hb
 | index t x i =>
  simp only [ho] at hb
  split at hb
  ·exact key hb fun _ _ _=>by simp [evalOp,oM, *]
  ·split at hb
   ·exact key hb fun _ _ _=>by simp [evalOp,oM, *]
   ·cases hb
  ·cases hb
 | convert t t' x =>
  simp only [ho] at hb
  split at hb
  ·exact key hb fun _ _ _=>by simp [evalOp,oM, *]
  ·split at hb
   ·exact key hb fun _ _ _=>by simp [evalOp,oM, *]
   ·cases hb
  ·cases hb
 | build t parts =>
  simp only [ho] at hb
  have kb:∀{j:Bool}{e:Option kS},(bif j then none else e.bind fun w=>kv w h)=some r→(∀h2 kv2 kp2,evalOp cx o none ρ h2 kv2 kp2=bif j then none else e.bind fun w=>kv2 w h2) →
    ∃v,kv v h=some r∧∀(h2:kU) (kv2 kp2:kS→kU→Option R),(∀id,xB cx o ρ=some id→qV h id→h2[id]?=h[id]?)→evalOp cx o none ρ h2 kv2 kp2=kv2 v h2:=by
   intro j e h1 h2
   cases j with
   | true=>cases h1
   | false=>exact key h1 h2
  split at hb
  ·split at hb
   ·exact kb hb fun _ _ _=>by simp only [evalOp,oM, *]
   ·cases hb
  ·split at hb
   ·exact kb hb fun _ _ _=>by simp only [evalOp,oM, *]
   ·cases hb
  ·cases hb
 | _ =>
  simp only [ho,qH] at he
  simp only [ho] at hb
  first
   | exact key hb fun _ _ _=>by simp only [evalOp,oM,ho]
   | cases hb
   | (simp at he; done)
theorem AP {t:Tmp}:t∈Br ops o↔t∈yB o∨aoE ops o=some t:=by simp [Br,eq_comm]
theorem BW (hag:∀t∈yB o,ρ'.getD t .junk=ρ.getD t .junk):oP cx o ids ρ' h kv kp=oP cx o ids ρ h kv kp:=Gm hag
theorem Kw (hag:∀t∈Br ops o,ρ'.getD t .junk=ρ.getD t .junk):tM cx ops o ids ρ' h kv kp=tM cx ops o ids ρ h kv kp:=by
 have h1:oP cx o ids ρ' h kv kp=oP cx o ids ρ h kv kp:=BW fun t ht=>hag t (AP.2 (.inl ht))
 simp only [A6]
 unfold An
 cases hg:o.guard with
 | none=>exact h1
 | some jw =>
  obtain⟨j,want⟩:=jw
  simp only []
  cases hd:(ops[j]?).bind (·.dst) with
  | none=>rfl
  | some d =>
   simp only []
   rw [hag d (AP.2 (.inr (by simp [aoE,hg,hd]))),h1]
theorem Fu (hrb:cx.rb=false) (he:qH o=false) (hb:tM cx ops o [] ρ h kv kp=some r) :
  ∃v,kv v h=some r∧∀(h2:kU) (kv2 kp2:kS→kU→Option R),(∀id,xB cx o ρ=some id→qV h id→h2[id]?=h[id]?)→tM cx ops o [] ρ h2 kv2 kp2=kv2 v h2:=by
 have key:∀(hb:oP cx o [] ρ h kv kp=some r),
   ∃v,kv v h=some r∧∀(h2:kU) (kv2 kp2:kS→kU→Option R),(∀id,xB cx o ρ=some id→qV h id→h2[id]?=h[id]?)→oP cx o [] ρ h2 kv2 kp2=kv2 v h2:=by
  intro hb
  obtain⟨v,h1,h2⟩:=ZL hrb he hb
  exact⟨v,h1,fun h3 kv2 kp2 ha=>h2 h3 _ _ ha⟩
 simp only [A6] at hb ⊢
 unfold An at hb ⊢
 cases hg:o.guard with
 | none=>simp only [hg] at hb ⊢; exact key hb
 | some jw =>
  obtain⟨j,want⟩:=jw
  simp only [hg] at hb ⊢
  cases hd:(ops[j]?).bind (·.dst) with
  | none=>simp only [hd] at hb; cases hb
  | some d =>
   simp only [hd] at hb ⊢
   generalize ρ.getD d .junk=x at hb ⊢
   split at hb
   ·rename_i g
    cases want <;> cases g <;> simp only [cond_true,cond_false] at hb ⊢
    ·exact key hb
    ·exact⟨_,hb,fun _ _ _ _=>rfl⟩
    ·exact⟨_,hb,fun _ _ _ _=>rfl⟩
    ·exact key hb
   ·exact⟨_,hb,fun _ _ _ _=>rfl⟩
   ·cases hb
theorem Gt {dst:Option Tmp}{v:kS}{t:Tmp}(hne:∀d,dst=some d→d≠t):(qS ρ dst v).getD t .junk=ρ.getD t .junk:=by
 cases dst with
 | none=>rfl
 | some d=>simp [qS,List.getD_eq_getElem?_getD,List.getElem?_set,hne d rfl]
theorem Pn {x y:Option Tmp}{u v:kS}(hne:∀d,x=some d→y≠some d):qS (qS ρ x u) y v=qS (qS ρ y v) x u:=by
 cases x with
 | none=>rfl
 | some d=>cases y with
  | none=>rfl
  | some e=>exact List.set_comm _ _ (fun he=>hne d rfl (by rw [he]))
theorem HQ {d:Option Tmp}{ts:List Tmp}(hd:abK d ts=true):∀t∈ts,∀e,d=some e→e≠t:=by
 rintro t ht e rfl rfl
 simp [abK] at hd
 exact hd ht
theorem Qq {x y:Oper}(ha:Of ops x y=true) :
  (∀t∈Br ops y,∀d,x.dst=some d→d≠t)∧(∀t∈Br ops x,∀d,y.dst=some d→d≠t)∧(∀d,x.dst=some d→y.dst≠some d):=by
 simp only [Of,Bool.and_eq_true] at ha
 refine⟨HQ ha.1.1,HQ ha.1.2,fun d hd he=>?_⟩
 exact HQ ha.2 d (by simp [he]) d hd rfl
theorem VU {id n:Nat}{v:kS}{x:kS×kU}(hx:vL id n h v=some x):∃b,h[id]?=some .free∧x=(.ptr id 0,h.set id b)∧∀h2:kU,h2[id]?=some .free→vL id n h2 v=some (.ptr id 0,h2.set id b):=by
 unfold vL at hx
 simp only [] at hx
 split at hx
 ·rename_i hf
  split at hx
  ·rename_i hc
   cases hx
   refine⟨_,hf,rfl,fun h2 h3=>?_⟩
   unfold vL
   simp only [h3]
   rw [if_pos hc]
  ·cases hx
 ·cases hx
theorem G6 {id len sz:Nat}{zero:List kS}{parts:List (Nat×kS)}{x:kS×kU}(hx:rO id len sz zero parts h=some x) :
  ∃b,h[id]?=some .free∧x=(x.1,h.set id b)∧∀h2:kU,h2[id]?=some .free→rO id len sz zero parts h2=some (x.1,h2.set id b):=by
 unfold rO at hx
 split at hx
 ·rename_i rows hf hr
  cases hx
  refine⟨_,hf,rfl,fun h2 h3=>?_⟩
  unfold rO
  simp only [h3,hr]
 ·cases hx
theorem KF {id:Nat}(he:sY o=true) (hb:evalOp cx o (some id) ρ h kv kp=some r) :
  ∃v b,h[id]?=some .free∧kv v (h.set id b)=some r∧∀(h2:kU) (kv2 kp2:kS→kU→Option R),h2[id]?=some .free→evalOp cx o (some id) ρ h2 kv2 kp2=kv2 v (h2.set id b):=by
 have K1:∀{n:Nat}{v:kS},lK (vL id n h v) kv=some r→∃u b,h[id]?=some .free∧kv u (h.set id b)=some r∧∀(h2:kU) (kv2:kS→kU→Option R),h2[id]?=some .free→lK (vL id n h2 v) kv2=kv2 u (h2.set id b):=by
  intro n v hv
  unfold lK at hv
  obtain⟨x,hx,hk⟩:=Option.bind_eq_some_iff.1 hv
  obtain⟨b,h1,rfl,h3⟩:=VU hx
  exact⟨_,b,h1,hk,fun h2 kv2 hf=>by rw [h3 h2 hf]; rfl⟩
 have K2:∀{len sz:Nat}{zero:List kS}{parts:List (Nat×kS)},lK (rO id len sz zero parts h) kv=some r →
   ∃u b,h[id]?=some .free∧kv u (h.set id b)=some r∧∀(h2:kU) (kv2:kS→kU→Option R),h2[id]?=some .free→lK (rO id len sz zero parts h2) kv2=kv2 u (h2.set id b):=by
  intro len sz zero parts hv
  unfold lK at hv
  obtain⟨x,hx,hk⟩:=Option.bind_eq_some_iff.1 hv
  obtain⟨b,h1,h2,h3⟩:=G6 hx
  refine⟨x.1,b,h1,?_,fun h2 kv2 hf=>by rw [h3 h2 hf]; rfl⟩
  rw [h2] at hk; exact hk
 unfold sY at he
 simp only [Bool.and_eq_true] at he
 have he:=he.2
 unfold evalOp oM at hb ⊢
 split at he
 ·rename_i t ho
  simp only [ho] at hb ⊢
  split at hb
  ·rename_i n z hn hz
   obtain⟨u,b,e1,e2,e3⟩:=K1 hb
   refine⟨u,b,e1,e2,fun h2 kv2 kp2 hf=>?_⟩
   exact e3 h2 kv2 hf
  ·cases hb
 ·rename_i t x ho
  simp only [ho] at hb ⊢
  split at hb
  ·rename_i n hn
   obtain⟨u,b,e1,e2,e3⟩:=K1 hb
   refine⟨u,b,e1,e2,fun h2 kv2 kp2 hf=>?_⟩
   exact e3 h2 kv2 hf
  ·cases hb
 ·rename_i t len parts ho
  simp only [ho] at hb ⊢
  split at hb
  ·rename_i e hel
   split at hb
   ·rename_i n z hn hz
    cases hj:(n == 0 || z.pP || decide (len * n > 16777216)) with
    | true=>rw [hj] at hb; cases hb
    | false =>
     rw [hj] at hb
     obtain⟨u,b,e1,e2,e3⟩:=K2 hb
     refine⟨u,b,e1,e2,fun h2 kv2 kp2 hf=>?_⟩
     exact e3 h2 kv2 hf
   ·cases hb
  ·cases hb
 ·cases he
theorem MZ (he:sY o=true):qH o=true:=by
 unfold sY at he
 simp only [Bool.and_eq_true] at he
 have he:=he.2
 split at he
 ·rename_i ho; simp [qH,ho]
 ·rename_i ho; simp [qH,ho]
 ·rename_i ho; simp [qH,ho]
 ·cases he
theorem Qv (he:w9 o=true):qH o=true:=by
 unfold w9 at he
 simp only [Bool.and_eq_true] at he
 have he:=he.2
 split at he
 ·rename_i c ho
  simp only [qH,ho]
  cases hc:c.callee with
  | value f=>rfl
  | _=>simp [hc] at he
 ·cases he
theorem SQ {m:Nat}(hb:yK cx o m ids ρ h kv=some r) :
  ∃v t,t.length=m∧kv v (t++h.drop m)=some r∧∀(h2:kU) (kv2:kS→kU→Option R),h2.take m=h.take m→yK cx o m ids ρ h2 kv2=kv2 v (t++h2.drop m):=by
 unfold yK at hb ⊢
 cases hs:(h.take m).all (z_ m) with
 | false=>rw [hs] at hb; cases hb
 | true =>
  rw [hs] at hb
  simp only [cond_true] at hb
  obtain⟨r0,h1,h2⟩:=Option.bind_eq_some_iff.1 hb
  unfold Wf at h2
  split at h2
  ·rename_i v t
   cases hl:t.length == m with
   | false=>rw [hl] at h2; cases h2
   | true =>
    rw [hl] at h2
    refine⟨v,t,by simpa using hl,h2,fun h3 kv2 he=>?_⟩
    rw [he,hs,h1]
    simp only [cond_true,Option.bind_some,Wf,hl]
  ·cases h2
theorem v8 {m:Nat}{it:Item}(hag:∀t∈Br ops it.o,ρ'.getD t .junk=ρ.getD t .junk):oX cx ops m it ids ρ' h kv kp=oX cx ops m it ids ρ h kv kp:=by
 have hop:∀t∈yB it.o,ρ'.getD t .junk=ρ.getD t .junk:=fun t ht=>hag t (AP.2 (.inl ht))
 have hsh:∀t∈yB it.o,(ρ'.map (DN m)).getD t .junk=(ρ.map (DN m)).getD t .junk:=by
  intro t ht
  have h0:∀l:List kS,(l.map (DN m)).getD t .junk=DN m (l.getD t .junk):=by
   intro l
   rw [List.getD_eq_getElem?_getD,List.getD_eq_getElem?_getD,List.getElem?_map]
   cases l[t]? <;> rfl
  rw [h0,h0,hop t ht]
 unfold oX
 cases it.rsv with
 | some j=>simp only []; rw [Gm hop]
 | none =>
  simp only []
  rw [Kw hag]
  cases it.hid with
  | false=>rfl
  | true =>
   simp only [cond_true,yK]
   rw [BW hsh]
def Yp (it:Item) (m:Nat) (ids:List Nat) (h h':kU):Prop :=
 (qH it.o=false→h'=h)∧(∀id∈ids,qV h id→h'[id]?=h[id]?) ∧
 (∀j,it.rsv=some j→∃b,h[m+j]?=some .free∧h'=h.set (m+j) b) ∧
 (it.rsv=none→it.hid=true→∃t,t.length=m∧h'=t++h.drop m)
theorem CM (hag:∀t∈yB o,ρ'.getD t .junk=ρ.getD t .junk):seenAt cx.A o ρ'=seenAt cx.A o ρ:=by
 unfold seenAt
 cases hr:u6 o with
 | none=>rfl
 | some x =>
  refine Kr hag ?_
  unfold u6 at hr
  split at hr
  ·rename_i ho; cases hr; simp [ho,Op.operands]
  ·rename_i ho; cases hr; simp [ho,Op.operands]
  ·cases hr
theorem ai3 (hag:∀t∈yB o,ρ'.getD t .junk=ρ.getD t .junk):xB cx o ρ'=xB cx o ρ:=by
 have:=CM (cx:=cx) hag
 unfold xB seenAt at *
 cases hr:u6 o with
 | none=>rfl
 | some x=>simp only [hr] at this; simp [this]
theorem TU {id:Nat}(hf:h[id]?=some .free):¬qV h id:=by
 rintro(⟨_,h1⟩ | ⟨_,h1⟩ | ⟨_,_,_,h1⟩) <;> rw [hf] at h1 <;> cases h1
theorem Q5 (hrb:cx.rb=false) (he:qH o=false) (hr:u6 o=none) (hb:tM cx ops o [] ρ h kv kp=some r) :
  ∃v,kv v h=some r∧∀(h2:kU) (kv2 kp2:kS→kU→Option R),tM cx ops o [] ρ h2 kv2 kp2=kv2 v h2:=by
 obtain⟨v,h1,h2⟩:=Fu hrb he hb
 exact⟨v,h1,fun h3 kv2 kp2=>h2 h3 kv2 kp2 fun id hid=>by simp [xB,hr] at hid⟩
theorem adE (hrb:cx.rb=false) {m:Nat}{it:Item}{T:kU→kU}
  (hT:(it.rsv≠none)∨(it.rsv=none∧it.hid=true∧(T h).take m=h.take m∧∀t:kU,t.length=m→T (t++h.drop m)=t++(T h).drop m)∨(it.rsv=none∧it.hid=false∧qH it.o=false∧u6 it.o=none))
  (hlocks:qH it.o=false→ids=[])
  (hset:∀j,it.rsv=some j→(T h)[m+j]?=h[m+j]?∧∀b,T (h.set (m+j) b)=(T h).set (m+j) b)
  (hb:oX cx ops m it ids ρ (T h) kv kp=some r):oX cx ops m it ids ρ h (fun v h'=>kv v (T h')) kp=some r:=by
 unfold oX at hb ⊢
 cases hr:it.rsv with
 | some j =>
  simp only [hr] at hb ⊢
  cases hf:sY it.o with
  | false=>rw [hf] at hb; cases hb
  | true =>
   rw [hf] at hb
   simp only [cond_true] at hb ⊢
   obtain⟨v,b,h1,h2,h3⟩:=KF hf hb
   obtain⟨h4,h5⟩:=hset j hr
   rw [h3 h _ _ (h4 ▸ h1),h5]
   exact h2
 | none =>
  simp only [hr] at hb ⊢
  rcases hT with hT | ⟨_,hh,ht,hd⟩ | ⟨_,hh,he,hrd⟩
  ·exact absurd hr hT
  ·rw [hh] at hb ⊢
   simp only [cond_true] at hb ⊢
   cases hf:w9 it.o with
   | false=>rw [hf] at hb; cases hb
   | true =>
    rw [hf] at hb
    simp only [cond_true] at hb ⊢
    obtain⟨v,t,h1,h2,h3⟩:=SQ hb
    rw [h3 h _ ht.symm,hd t h1]
    exact h2
  ·rw [hh] at hb ⊢
   simp only [cond_false] at hb ⊢
   rw [hlocks he] at hb ⊢
   obtain⟨v,h1,h2⟩:=Q5 hrb he hrd hb
   rw [h2]
   exact h1
theorem move (hrb:cx.rb=false) {m:Nat}{k:List kS→kU→Option R}(it:Item) (post:List Item) (hil:qH it.o=false→it.locks=[]) (hie:it.rsv≠none∨it.hid=true→qH it.o=true):∀(pre:List Item) (seen ρ:List kS) (h:kU),
  (∀p∈pre,indep ops p it=true∧p.i≠it.i∧p.i < seen.length)→(pre.map (·.i)).Nodup →
  o9 cx ops m (pre++it::post) seen ρ h k kp=some r →
  ∃ids kv,oX cx ops m it ids ρ h kv kp=some r∧(∀j∈it.locks,(∀p∈pre,p.i≠j)→∀id,zG (seen.getD j .junk)=some id→id∈ids)∧(qH it.o=false→ids=[]) ∧
   ∀v h',Yp it m ids h h'→kv v h'=some r→o9 cx ops m (pre++post) (seen.set it.i (seenAt cx.A it.o ρ)) (qS ρ it.o.dst v) h' k kp=some r:=by
 intro pre
 induction pre with
 | nil =>
  intro seen ρ h _ _ hb
  simp only [List.nil_append,o9,x9] at hb
  refine⟨_,_,hb,fun j hj _ id hid=>?_,fun he=>by simp [mY,hil he],fun v h' _ hk=>hk⟩
  exact List.mem_filterMap.2 ⟨j,hj,hid⟩
 | cons p pre ih =>
  intro seen ρ h hpre hnd hb
  obtain⟨hind,hne,hlt⟩:=hpre p (by simp)
  have hpl:p.rsv≠none∨p.locks=[]:=by
   cases hr:p.rsv with
   | some j=>exact .inl (by simp)
   | none =>
    refine .inr ?_
    cases hir:it.rsv <;> cases hh:p.hid <;> simp [indep,hr,hir,hh] at hind
    ·exact hind.2.1.2
    ·exact hind.2.1
    ·exact hind.2.2
    ·exact hind.2
  have hap:Of ops p.o it.o=true:=by simp only [indep,Bool.and_eq_true] at hind; exact hind.1
  have hind2:=hind
  simp only [indep,hap,Bool.true_and] at hind2
  obtain⟨ha1,ha2,ha3⟩:=Qq hap
  simp only [List.map_cons,List.nodup_cons] at hnd
  have agI:∀(vp:kS),∀t∈Br ops it.o,(qS ρ p.o.dst vp).getD t .junk=ρ.getD t .junk:=fun vp t ht=>Gt (ha1 t ht)
  have agO:∀(vp:kS),∀t∈yB it.o,(qS ρ p.o.dst vp).getD t .junk=ρ.getD t .junk:=fun vp t ht=>agI vp t (AP.2 (.inl ht))
  have agP:∀(v:kS),∀t∈Br ops p.o,(qS ρ it.o.dst v).getD t .junk=ρ.getD t .junk:=fun v t ht=>Gt (ha2 t ht)
  have agPO:∀(v:kS),∀t∈yB p.o,(qS ρ it.o.dst v).getD t .junk=ρ.getD t .junk:=fun v t ht=>agP v t (AP.2 (.inl ht))
  have main:∀(idsP:List Nat) (vp:kS) (T:kU→kU),(p.rsv≠none∨(p.locks=[]∧idsP=[])) →
    o9 cx ops m (pre++it::post) (seen.set p.i (seenAt cx.A p.o ρ)) (qS ρ p.o.dst vp) (T h) k kp=some r →
    (∀ids kv,(qH it.o=false→ids=[])→(∀j∈it.locks,(∀q∈pre,q.i≠j)→∀id,zG ((seen.set p.i (seenAt cx.A p.o ρ)).getD j .junk)=some id→id∈ids) →
     oX cx ops m it ids ρ (T h) kv kp=some r→oX cx ops m it ids ρ h (fun v h'=>kv v (T h')) kp=some r ∧
     ∀v h',Yp it m ids h h'→Yp it m ids (T h) (T h')∧∀kv2,oX cx ops m p (mY p.locks (seen.set it.i (seenAt cx.A it.o ρ))) (qS ρ it.o.dst v) h' kv2 kp=kv2 vp (T h')) →
    ∃ids kv,oX cx ops m it ids ρ h kv kp=some r∧(∀j∈it.locks,(∀q∈p::pre,q.i≠j)→∀id,zG (seen.getD j .junk)=some id→id∈ids)∧(qH it.o=false→ids=[]) ∧
     ∀v h',Yp it m ids h h'→kv v h'=some r→o9 cx ops m (p::pre++post) (seen.set it.i (seenAt cx.A it.o ρ)) (qS ρ it.o.dst v) h' k kp=some r:=by
   intro idsP vp T _ hnext hrun
   obtain⟨ids,kv,e1,e2,e3,e4⟩:=ih _ _ _ (fun q hq=>by
    have:=hpre q (by simp [hq])
    exact⟨this.1,this.2.1,by simpa using this.2.2⟩) hnd.2 hnext
   rw [v8 (agI vp)] at e1
   obtain⟨r1,r2⟩:=hrun ids kv e3 e2 e1
   refine⟨ids,_,r1,fun j hj hno id hid=>?_,e3,fun v h' hkeep hk=>?_⟩
   ·refine e2 j hj (fun q hq=>hno q (by simp [hq])) id ?_
    have:p.i≠j:=hno p (by simp)
    simpa [List.getD_eq_getElem?_getD,List.getElem?_set,this] using hid
   ·obtain⟨k1,k2⟩:=r2 v h' hkeep
    have e5:=e4 v (T h') k1 hk
    simp only [List.cons_append,o9,x9]
    rw [k2]
    rw [CM (agPO v),Pn (ρ:=ρ) (x:=it.o.dst) (y:=p.o.dst) (fun d h1 h2=>ha3 d h2 h1),List.set_comm _ _ (Ne.symm hne),←CM (agO vp)]
    exact e5
  simp only [List.cons_append,o9,x9] at hb
  cases hpr:p.rsv with
  | some a =>
   have hb':=hb
   unfold oX at hb'
   simp only [hpr] at hb'
   cases hf:sY p.o with
   | false=>rw [hf] at hb'; cases hb'
   | true =>
    rw [hf] at hb'
    simp only [cond_true] at hb'
    obtain⟨vp,b,f1,f2,f3⟩:=KF hf hb'
    have hlen:m+a < h.length:=(List.getElem?_eq_some_iff.1 f1).1
    have tk:∀x:kU,(x.set (m+a) b).take m=x.take m:=fun x=>List.take_set_of_le (by omega)
    have ts:∀t x:kU,t.length=m→(t++x.drop m).set (m+a) b=t++(x.set (m+a) b).drop m:=by
     intro t x ht
     rw [List.set_append_right _ _ (by omega),List.drop_set,if_neg (by omega),ht]
    refine main [] vp (fun x=>x.set (m+a) b) (.inl (by simp [hpr])) f2 fun ids kv he hl hrun=>⟨?_,fun v h' hk=>⟨?_,fun kv2=>?_⟩⟩
    ·refine adE hrb ?_ he (fun j hj=>?_) hrun
     ·cases hir:it.rsv with
      | some j=>exact .inl (by simp)
      | none =>
       refine .inr ?_
       simp only [hpr,hir] at hind2
       cases hh:it.hid with
       | true=>exact .inl ⟨rfl,rfl,tk h,fun t ht=>ts t h ht⟩
       | false =>
        simp [hh] at hind2
        exact .inr ⟨rfl,rfl,hind2.1,hind2.2⟩
     ·simp only [hpr,hj,bne_iff_ne,ne_eq] at hind2
      exact⟨List.getElem?_set_ne (by omega),fun b'=>List.set_comm _ _ (by omega)⟩
    ·obtain⟨k1,k2,k3,k4⟩:=hk
     refine⟨fun he=>by rw [k1 he],fun id hid hbl=>?_,fun j hj=>?_,fun hr hh=>?_⟩
     ·by_cases hia:m+a=id
      ·subst hia
       by_cases h2:m+a < h'.length
       ·simp [List.getElem?_set,hlen,h2]
       ·exfalso
        cases hir:it.rsv with
        | some j=>obtain⟨b',_,rfl⟩:=k3 j hir; simp at h2; omega
        | none =>
         cases hh:it.hid with
         | true=>obtain⟨t,ht,rfl⟩:=k4 hir hh; simp at h2; omega
         | false =>
          simp only [hpr,hir,hh] at hind2
          simp at hind2
          rw [k1 hind2.1] at h2; exact h2 hlen
      ·rw [List.getElem?_set_ne hia,List.getElem?_set_ne hia]
       refine k2 id hid ?_
       unfold qV at hbl ⊢
       rwa [List.getElem?_set_ne hia] at hbl
     ·obtain⟨b',f4,rfl⟩:=k3 j hj
      simp only [hpr,hj,bne_iff_ne,ne_eq] at hind2
      exact⟨b',by rw [List.getElem?_set_ne (by omega)]; exact f4,List.set_comm _ _ (by omega)⟩
     ·obtain⟨t,ht,rfl⟩:=k4 hr hh
      exact⟨t,ht,ts t h ht⟩
    ·have hfree:h'[m+a]?=some .free:=by
      obtain⟨k1,k2,k3,k4⟩:=hk
      cases hir:it.rsv with
      | some j =>
       obtain⟨b',f4,rfl⟩:=k3 j hir
       simp only [hpr,hir,bne_iff_ne,ne_eq] at hind2
       rw [List.getElem?_set_ne (by omega)]; exact f1
      | none =>
       cases hh:it.hid with
       | true =>
        obtain⟨t,ht,rfl⟩:=k4 hir hh
        rw [List.getElem?_append_right (by omega),List.getElem?_drop,ht]
        rw [show m+(m+a - m)=m+a by omega]; exact f1
       | false =>
        simp only [hpr,hir,hh] at hind2
        simp at hind2
        rw [k1 hind2.1]; exact f1
     rw [v8 (agP v)]
     unfold oX
     simp only [hpr,hf,cond_true]
     exact f3 h' _ _ hfree
  | none =>
   have hlk:p.locks=[]:=hpl.resolve_left (by simp [hpr])
   cases hph:p.hid with
   | true =>
    have hb':=hb
    unfold oX at hb'
    simp only [hpr,hph,cond_true] at hb'
    cases hf:w9 p.o with
    | false=>rw [hf] at hb'; cases hb'
    | true =>
     rw [hf] at hb'
     simp only [cond_true,hlk,mY,List.filterMap_nil] at hb'
     obtain⟨vp,t,f1,f2,f3⟩:=SQ hb'
     have hkind:(∃j,it.rsv=some j)∨(it.rsv=none∧it.hid=false∧qH it.o=false∧u6 it.o=none):=by
      cases hir:it.rsv with
      | some j=>exact .inl ⟨j,rfl⟩
      | none =>
       simp only [hpr,hir,hph] at hind2
       simp at hind2
       exact .inr ⟨rfl,hind2.2.1,hind2.2.2.1,hind2.2.2.2⟩
     refine main [] vp (fun x=>t++x.drop m) (.inr ⟨hlk,rfl⟩) f2 fun ids kv he hl hrun=>⟨?_,fun v h' hk=>⟨?_,fun kv2=>?_⟩⟩
     ·refine adE hrb ?_ he (fun j hj=>⟨?_,fun b'=>?_⟩) hrun
      ·rcases hkind with ⟨j,hj⟩ | hk
       ·exact .inl (by simp [hj])
       ·exact .inr (.inr hk)
      ·rw [List.getElem?_append_right (by omega),List.getElem?_drop,f1,show m+(m+j - m)=m+j by omega]
      ·rw [List.set_append_right _ _ (by omega),List.drop_set,if_neg (by omega),f1]
     ·obtain⟨k1,k2,k3,k4⟩:=hk
      rcases hkind with ⟨j,hj⟩ | ⟨g1,g2,g3,g4⟩
      ·obtain⟨b',f4,rfl⟩:=k3 j hj
       have hie':=hie (.inl (by simp [hj]))
       have hlen:m+j < h.length:=(List.getElem?_eq_some_iff.1 f4).1
       have e1:t++(h.set (m+j) b').drop m=(t++h.drop m).set (m+j) b':=by
        rw [List.set_append_right _ _ (by omega),List.drop_set,if_neg (by omega),f1]
       refine⟨fun he=>(by rw [hie'] at he; cases he),fun id hid hbl=>?_,fun j' hj'=>?_,fun hr=>(by rw [hj] at hr; cases hr)⟩
       ·rw [e1]
        refine List.getElem?_set_ne fun hji=>?_
        subst hji
        refine TU ?_ hbl
        rw [List.getElem?_append_right (by omega),List.getElem?_drop,f1,show m+(m+j - m)=m+j by omega]
        exact f4
       ·rw [hj] at hj'; cases hj'
        refine⟨b',?_,e1⟩
        rw [List.getElem?_append_right (by omega),List.getElem?_drop,f1,show m+(m+j - m)=m+j by omega]
        exact f4
      ·have:=k1 g3
       subst this
       exact⟨fun _=>rfl,fun _ _ _=>rfl,fun j hj=>(by rw [g1] at hj; cases hj),fun _ hh=>(by rw [g2] at hh; cases hh)⟩
     ·have htake:h'.take m=h.take m:=by
       obtain⟨k1,k2,k3,k4⟩:=hk
       rcases hkind with ⟨j,hj⟩ | ⟨g1,g2,g3,g4⟩
       ·obtain⟨b',f4,rfl⟩:=k3 j hj
        exact List.take_set_of_le (by omega)
       ·rw [k1 g3]
      rw [v8 (agP v)]
      unfold oX
      simp only [hpr,hph,hf,cond_true,hlk,mY,List.filterMap_nil]
      exact f3 h' _ htake
   | false =>
    have hpe:qH p.o=false:=by
     cases hir:it.rsv <;> simp [hpr,hir,hph] at hind2
     ·exact hind2.1.1
     ·exact hind2.1
    have hb':=hb
    unfold oX at hb'
    simp only [hpr,hph,cond_false,hlk,mY,List.filterMap_nil] at hb'
    obtain⟨vp,hnext,hlight⟩:=Fu hrb hpe hb'
    refine main [] vp id (.inr ⟨hlk,rfl⟩) hnext fun ids kv he hl hrun=>⟨hrun,fun v h' hk=>⟨hk,fun kv2=>?_⟩⟩
    rw [v8 (agP v)]
    unfold oX
    simp only [hpr,hph,cond_false,hlk,mY,List.filterMap_nil]
    refine hlight h' _ _ fun id hid hblk=>?_
    obtain⟨k1,k2,k3,k4⟩:=hk
    cases hir:it.rsv with
    | some j =>
     obtain⟨b',f4,rfl⟩:=k3 j hir
     refine List.getElem?_set_ne fun hji=>?_
     subst hji
     exact TU f4 hblk
    | none =>
     cases hie2:qH it.o with
     | false=>rw [k1 hie2]
     | true =>
      refine k2 id ?_ hblk
      have hrd:(u6 p.o).isSome=true:=by
       unfold xB at hid
       cases hr:u6 p.o with
       | none=>simp [hr] at hid
       | some x=>rfl
      simp only [hpr,hir,hph,cond_false,Bool.and_eq_true,Bool.or_eq_true] at hind2
      have hmem:p.i∈it.locks:=by
       rcases hind2.2 with (h1 | h1) | h1
       ·simp [hrd] at h1
       ·simp [hie2] at h1
       ·simpa using h1
      refine hl p.i hmem (fun q hq he=>hnd.1 (List.mem_map.2 ⟨q,hq,he⟩)) id ?_
      have:(seen.set p.i (seenAt cx.A p.o ρ)).getD p.i .junk=seenAt cx.A p.o ρ:=by simp [List.getD_eq_getElem?_getD,hlt]
      rw [this]
      unfold xB at hid
      unfold seenAt
      cases hr:u6 p.o with
      | none=>simp [hr] at hid
      | some x=>simpa [hr] using hid
end
end Hk


namespace Hk
open Go Go.RowKit
structure Sub (h h':kU):Prop where
 live:∀id,Hk.live h id→Hk.live h' id
 front:∀(id n sz:Nat),h[id]?=some (.front n sz)→h'[id]?=some (.front n sz)
 nf:∀id,vE h id→vE h' id
theorem l_.sub {G:Gh}{h h':kU}(s:Sub h h') {v:kS}{V:Value}(r:l_ G h v V):l_ G h' v V:=by
 induction r with
 | p v V hp=>exact .p v V hp
 | agg cs C hl _ ih=>exact .agg cs C hl ih
 | tuple cs C hl _ ih=>exact .tuple cs C hl ih
 | nil=>exact .nil
 | own rows id n sz V hp hf hn hr hc=>exact .own rows id n sz V hp (s.front _ _ _ hf) hn hr hc
 | ownv id V hp hb=>exact .ownv id V hp (s.nf _ hb)
 | vslice id tot off len sz b cap hl ht hc hv=>exact .vslice id tot off len sz b cap (s.nf _ hl) ht hc hv
 | vptr id tot off b hl ht hv=>exact .vptr id tot off b (s.nf _ hl) ht hv
 | ptr id off hl=>exact .ptr id off (s.live _ hl)
 | mslice id off len sz cap hl hc=>exact .mslice id off len sz cap (s.live _ hl) hc
 | mslice0 id off sz cap a=>exact .mslice0 id off sz cap a
 | map id hl=>exact .map id (s.live _ hl)
 | func f first cap F C hlf hlc _ _ ihf ihc=>exact .func f first cap F C hlf hlc ihf ihc
 | iface t v V _ ih=>exact .iface t v V ih
theorem auQ {h:kU}{id:Nat}:qV h id↔∃b,h[id]?=some b∧((∃cs,b=.cells cs)∨(∃es,b=.map es)∨∃tot sz cs,b=.vec tot sz cs):=by
 constructor
 ·rintro(⟨cs,hc⟩ | ⟨es,hc⟩ | ⟨t,s,cs,hc⟩)
  ·exact⟨_,hc,.inl ⟨_,rfl⟩⟩
  ·exact⟨_,hc,.inr (.inl ⟨_,rfl⟩)⟩
  ·exact⟨_,hc,.inr (.inr ⟨_,_,_,rfl⟩)⟩
 ·rintro⟨b,hb,⟨cs,rfl⟩ | ⟨es,rfl⟩ | ⟨t,s,cs,rfl⟩⟩
  ·exact .inl ⟨_,hb⟩
  ·exact .inr (.inl ⟨_,hb⟩)
  ·exact .inr (.inr ⟨_,_,_,hb⟩)
theorem qV.nf {h:kU}{id:Nat}(hb:qV h id):∃b,h[id]?=some b∧b≠.free∧∀n sz,b≠.front n sz:=by
 rcases hb with ⟨cs,hc⟩ | ⟨es,hc⟩ | ⟨t,s,cs,hc⟩ <;> exact⟨_,hc,by simp,by simp⟩
theorem Wg (h:kU) (a id:Nat):(qV h a∧a=id∧(uT h a)[id]?=some .gone)∨(¬(qV h a∧a=id)∧(uT h a)[id]?=h[id]?):=by
 unfold uT
 cases hb:h[a]? with
 | none=>exact .inr ⟨fun hh=>(by obtain⟨⟨_,h1⟩ | ⟨_,h1⟩ | ⟨_,_,_,h1⟩,_⟩:=hh <;> rw [hb] at h1 <;> cases h1),rfl⟩
 | some b =>
  have hlt:a < h.length:=(List.getElem?_eq_some_iff.1 hb).1
  cases b with
  | cells cs =>
   by_cases ha:a=id
   ·subst ha; exact .inl ⟨.inl ⟨_,hb⟩,rfl,by simp [hlt]⟩
   ·exact .inr ⟨fun h=>ha h.2,by simp [List.getElem?_set,ha]⟩
  | map es =>
   by_cases ha:a=id
   ·subst ha; exact .inl ⟨.inr (.inl ⟨_,hb⟩),rfl,by simp [hlt]⟩
   ·exact .inr ⟨fun h=>ha h.2,by simp [List.getElem?_set,ha]⟩
  | vec t s cs =>
   by_cases ha:a=id
   ·subst ha; exact .inl ⟨.inr (.inr ⟨_,_,_,hb⟩),rfl,by simp [hlt]⟩
   ·exact .inr ⟨fun h=>ha h.2,by simp [List.getElem?_set,ha]⟩
  | _=>exact .inr ⟨fun hh=>(by obtain⟨⟨_,h1⟩ | ⟨_,h1⟩ | ⟨_,_,_,h1⟩,_⟩:=hh <;> rw [hb] at h1 <;> cases h1),rfl⟩
theorem yZ (ids:List Nat):∀(h:kU) (id:Nat),(id∈ids∧qV h id∧(rG ids h)[id]?=some .gone)∨(¬(id∈ids∧qV h id)∧(rG ids h)[id]?=h[id]?):=by
 induction ids with
 | nil=>intro h id; exact .inr ⟨by simp,rfl⟩
 | cons a ids ih =>
  intro h id
  have hc:(rG (a::ids) h)=rG ids (uT h a):=rfl
  rw [hc]
  rcases Wg h a id with ⟨h1,rfl,h3⟩ | ⟨h1,h2⟩
  ·rcases ih (uT h a) a with ⟨h4,h5,h6⟩ | ⟨h4,h5⟩
   ·exact .inl ⟨by simp,h1,h6⟩
   ·exact .inl ⟨by simp,h1,h5.trans h3⟩
  ·have hb:qV (uT h a) id↔qV h id:=by unfold qV; rw [h2]
   rcases ih (uT h a) id with ⟨h4,h5,h6⟩ | ⟨h4,h5⟩
   ·exact .inl ⟨by simp [h4],hb.1 h5,h6⟩
   ·refine .inr ⟨fun hh=>?_,h5.trans h2⟩
    rcases List.mem_cons.1 hh.1 with he | he
    ·exact h1 ⟨he ▸ hh.2,he.symm⟩
    ·exact h4 ⟨he,hb.2 hh.2⟩
theorem RG (h r:kU) (a id:Nat) (hlt:qV h a→a < r.length):(qV h a∧a=id∧(sD h r a)[id]?=h[id]?)∨(¬(qV h a∧a=id)∧(sD h r a)[id]?=r[id]?):=by
 unfold sD
 cases hb:h[a]? with
 | none=>exact .inr ⟨fun hh=>(by obtain⟨⟨_,h1⟩ | ⟨_,h1⟩ | ⟨_,_,_,h1⟩,_⟩:=hh <;> rw [hb] at h1 <;> cases h1),rfl⟩
 | some b =>
  cases b with
  | cells cs =>
   have:=hlt (.inl ⟨_,hb⟩)
   by_cases ha:a=id
   ·subst ha; exact .inl ⟨.inl ⟨_,hb⟩,rfl,by simp [this,hb]⟩
   ·exact .inr ⟨fun h=>ha h.2,by simp [List.getElem?_set,ha]⟩
  | map es =>
   have:=hlt (.inr (.inl ⟨_,hb⟩))
   by_cases ha:a=id
   ·subst ha; exact .inl ⟨.inr (.inl ⟨_,hb⟩),rfl,by simp [this,hb]⟩
   ·exact .inr ⟨fun h=>ha h.2,by simp [List.getElem?_set,ha]⟩
  | vec t s cs =>
   have:=hlt (.inr (.inr ⟨_,_,_,hb⟩))
   by_cases ha:a=id
   ·subst ha; exact .inl ⟨.inr (.inr ⟨_,_,_,hb⟩),rfl,by simp [this,hb]⟩
   ·exact .inr ⟨fun h=>ha h.2,by simp [List.getElem?_set,ha]⟩
  | _=>exact .inr ⟨fun hh=>(by obtain⟨⟨_,h1⟩ | ⟨_,h1⟩ | ⟨_,_,_,h1⟩,_⟩:=hh <;> rw [hb] at h1 <;> cases h1),rfl⟩
theorem L8 (h r:kU) (a:Nat):(sD h r a).length=r.length:=by
 unfold sD; split <;> simp
theorem L9 (h:kU) (ids:List Nat):∀(r:kU) (id:Nat),(∀a∈ids,qV h a→a < r.length) →
  (id∈ids∧qV h id∧(oA ids h r)[id]?=h[id]?)∨(¬(id∈ids∧qV h id)∧(oA ids h r)[id]?=r[id]?):=by
 induction ids with
 | nil=>intro r id _; exact .inr ⟨by simp,rfl⟩
 | cons a ids ih =>
  intro r id hlt
  have hc:oA (a::ids) h r=oA ids h (sD h r a):=rfl
  rw [hc]
  have ih':=ih (sD h r a) id fun b hb hbl=>by rw [L8]; exact hlt b (by simp [hb]) hbl
  rcases RG h r a id (hlt a (by simp)) with ⟨h1,rfl,h3⟩ | ⟨h1,h2⟩
  ·rcases ih' with ⟨h4,h5,h6⟩ | ⟨h4,h5⟩
   ·exact .inl ⟨by simp,h1,h6⟩
   ·exact .inl ⟨by simp,h1,h5.trans h3⟩
  ·rcases ih' with ⟨h4,h5,h6⟩ | ⟨h4,h5⟩
   ·exact .inl ⟨by simp [h4],h5,h6⟩
   ·refine .inr ⟨fun hh=>?_,h5.trans h2⟩
    rcases List.mem_cons.1 hh.1 with he | he
    ·exact h1 ⟨he ▸ hh.2,he.symm⟩
    ·exact h4 ⟨he,hh.2⟩
theorem QO (ids:List Nat) (h:kU):Sub h (rG ids h) where
 live:=fun id ⟨b,h1,h2⟩=>by
  rcases yZ ids h id with ⟨_,_,h5⟩ | ⟨_,h5⟩
  ·exact⟨_,h5,by simp⟩
  ·exact⟨b,h5.trans h1,h2⟩
 front:=fun id n sz hf=>by
  rcases yZ ids h id with ⟨_,h4,_⟩ | ⟨_,h5⟩
  ·obtain⟨b,h6,_,h7⟩:=h4.nf; rw [hf] at h6; cases h6; exact absurd rfl (h7 _ _)
  ·exact h5.trans hf
 nf:=fun id ⟨b,h1,h2,h3⟩=>by
  rcases yZ ids h id with ⟨_,_,h5⟩ | ⟨_,h5⟩
  ·exact⟨_,h5,by simp,by simp⟩
  ·exact⟨b,h5.trans h1,h2,h3⟩
theorem wE {G:Gh}{ids:List Nat}{h:kU}{id b:Nat}(ho:owner G (rG ids h) id=some b):owner G h id=some b∧¬(id∈ids∧qV h id):=by
 rcases yZ ids h id with ⟨_,_,h5⟩ | ⟨h4,h5⟩
 ·simp [owner,h5] at ho
 ·refine⟨?_,h4⟩
  unfold owner at *; rw [h5] at ho; exact ho
theorem zS.sub {G:Gh}{h h':kU}{w:World}{id:Nat}{bl:mI}(s:Sub h h') (b:zS G h w id bl):zS G h' w id bl:=by
 cases bl with
 | cells cs =>
  obtain⟨C,e,h1,h2,h3,h4⟩:=b
  exact⟨C,e,h1,h2,h3,fun i v hv=>⟨(h4 i v hv).1,(h4 i v hv).2.sub s⟩⟩
 | map es =>
  obtain⟨E,c,h1,h2,h3,h4,hst⟩:=b
  refine⟨E,c,h1,h2,h3,fun i kv hkv=>?_,hst⟩
  obtain⟨m,h5,h6,h7,h8⟩:=h4 i kv hkv
  exact⟨m,h5,h6,h7,h8.sub s⟩
 | vec t sz cs =>
  obtain⟨b',cap,C,e,g1,g2,g3,g4,g5,g6,g7,g8,g9⟩:=b
  exact⟨b',cap,C,e,g1,g2,g3,g4,g5,g6,g7,g8,fun i v hv=>⟨(g9 i v hv).1,(g9 i v hv).2.sub s⟩⟩
 | _=>exact b
theorem Inv.rG {G:Gh}{h:kU}{w:World}(i:Inv G h w) (ids:List Nat):Inv G (rG ids h) w where
 ok:=i.ok
 nV:=fun id bl hb=>by
  rcases yZ ids h id with ⟨_,_,h5⟩ | ⟨h4,h5⟩
  ·rw [h5] at hb; cases hb; trivial
  ·exact(i.nV id bl (h5.symm.trans hb)).sub (QO ids h)
 inj:=fun a b c h1 h2=>i.inj a b c (wE h1).1 (wE h2).1
theorem ayJ {G:Gh}{h:kU}{w:World}{id:Nat}(i:Inv G h w) (hb:qV h id):∃b,owner G h id=some b∧b < w.heap.size:=by
 have key:∀b,owner G h id=some b→∃b,owner G h id=some b∧b < w.heap.size:=fun b hb=>⟨b,hb,i.lt hb⟩
 rcases hb with ⟨cs,hb⟩ | ⟨es,hb⟩ | ⟨t,s,cs,hb⟩
 ·exact key (G.nV id) (by rw [oD hb]; rfl)
 ·exact key (G.nV id) (by rw [oD hb]; rfl)
 ·obtain⟨b,cap,C,e,g1,_⟩:=i.nV id _ hb
  exact key b (by rw [oD hb]; simp [nQ,g1,Value.ownBlock])
theorem NL {G G':Gh}{h h':kU}{w w':World}{ids:List Nat}(i:Inv G h w) (x:Ext G (Hk.rG ids h) w G' h' w') (i':Inv G' h' w') :
  Ext G h w G' (oA ids h h') w'∧Inv G' (oA ids h h') w'∧Sub h' (oA ids h h')∧∀id∈ids,qV h id→(oA ids h h')[id]?=h[id]?:=by
 have gone:∀id,id∈ids→qV h id→h'[id]?=some .gone∧G'.nV id=G.nV id∧G'.cur id=G.cur id:=by
  intro id h1 h2
  rcases yZ ids h id with ⟨_,_,h5⟩ | ⟨h4,_⟩
  ·obtain⟨bl,h6,h7⟩:=x.kinds id _ h5
   cases bl <;> simp_all [Kind]
  ·exact absurd ⟨h1,h2⟩ h4
 have get:=fun id=>L9 h ids h' id fun a ha hb=>(List.getElem?_eq_some_iff.1 (gone a ha hb).1).1
 have sub:Sub h' (oA ids h h'):=by
  refine⟨fun id ⟨b,h1,h2⟩=>?_,fun id n sz hf=>?_,fun id ⟨b,h1,h2,h3⟩=>?_⟩
  ·rcases get id with ⟨_,h4,h5⟩ | ⟨_,h5⟩
   ·obtain⟨b',h6,h7,_⟩:=h4.nf
    exact⟨b',h5.trans h6,h7⟩
   ·exact⟨b,h5.trans h1,h2⟩
  ·rcases get id with ⟨h3,h4,_⟩ | ⟨_,h5⟩
   ·rw [(gone id h3 h4).1] at hf; cases hf
   ·exact h5.trans hf
  ·rcases get id with ⟨_,h4,h5⟩ | ⟨_,h5⟩
   ·obtain⟨b',h6,h7,h8⟩:=h4.nf
    exact⟨b',h5.trans h6,h7,h8⟩
   ·exact⟨b,h5.trans h1,h2,h3⟩
 have own:∀id b,owner G' (oA ids h h') id=some b→(id∈ids∧qV h id∧owner G h id=some b)∨(¬(id∈ids∧qV h id)∧owner G' h' id=some b):=by
  intro id b ho
  rcases get id with ⟨h3,h4,h5⟩ | ⟨h4,h5⟩
  ·obtain⟨_,e1,e2⟩:=gone id h3 h4
   refine .inl ⟨h3,h4,?_⟩
   unfold owner at ho ⊢
   rwa [h5,e1,e2] at ho
  ·refine .inr ⟨h4,?_⟩
   unfold owner at *; rw [h5] at ho; exact ho
 have ext:Ext G h w G' (oA ids h h') w':=by
  refine⟨x.os,x.tape,x.output,x.size,fun b hb hn=>x.frame b hb fun id ho=>hn id (wE ho).1,x.hmono,fun id b ho hlt=>?_,fun id bl hb=>?_⟩
  ·rcases own id b ho with ⟨_,_,h2⟩ | ⟨_,h2⟩
   ·exact h2
   ·exact(wE (x.own id b h2 hlt)).1
  ·rcases get id with ⟨h3,h4,h5⟩ | ⟨h4,h5⟩
   ·refine⟨bl,h5.trans hb,?_⟩
    obtain⟨_,e1,e2⟩:=gone id h3 h4
    cases bl <;> simp [Kind,e1,e2]
   ·rcases yZ ids h id with ⟨h6,h7,_⟩ | ⟨_,h7⟩
    ·exact absurd ⟨h6,h7⟩ h4
    ·obtain⟨bl',h8,h9⟩:=x.kinds id bl (h7.trans hb)
     exact⟨bl',h5.trans h8,h9⟩
 refine⟨ext,⟨i'.ok,fun id bl hb=>?_,fun a b c h1 h2=>?_⟩,sub,fun id h1 h2=>?_⟩
 ·rcases get id with ⟨h3,h4,h5⟩ | ⟨h4,h5⟩
  ·have hb':h[id]?=some bl:=h5.symm.trans hb
   obtain⟨_,e1,e2⟩:=gone id h3 h4
   refine(i.nV id bl hb').Dc ext.toMono e1 e2 fun b ho=>?_
   refine x.frame b (i.lt (by rw [oD hb']; exact ho)) fun j hj=>?_
   obtain⟨h6,h7⟩:=wE hj
   have:=i.inj j id _ h6 (by rw [oD hb']; exact ho)
   subst this
   exact h7 ⟨h3,h4⟩
  ·exact(i'.nV id bl (h5.symm.trans hb)).sub sub
 ·rcases own a c h1 with ⟨_,a2,a3⟩ | ⟨a1,a2⟩ <;> rcases own b _ h2 with ⟨_,b2,b3⟩ | ⟨b1,b2⟩
  ·exact i.inj a b _ a3 b3
  ·exact i.inj a b _ a3 (wE (x.own b _ b2 (i.lt a3))).1
  ·exact i.inj a b _ (wE (x.own a _ a2 (i.lt b3))).1 b3
  ·exact i'.inj a b c a2 b2
 ·rcases get id with ⟨_,_,h5⟩ | ⟨h4,_⟩
  ·exact h5
  ·exact absurd ⟨h1,h2⟩ h4
section
variable {G G':Gh}{h h':kU}{w:World}{m:Nat}
structure Left (G:Gh) (h:kU) (G':Gh) (h':kU) (m:Nat):Prop where
 hmono:∀b k v,G.H b k=some v→G'.H b k=some v
 nV:G'.nV=G.nV
 cur:G'.cur=G.cur
 live:∀id,id < m→Hk.live h id→Hk.live h' id
 front:∀(id n sz:Nat),id < m→h[id]?=some (.front n sz)→h'[id]?=some (.front n sz)
 nf:∀id,id < m→vE h id→vE h' id
theorem uK (l:Left G h G' h' m) {v:kS}{V:Value}(hs:v.vX m=true) (r:l_ G h v V):l_ G' h' v V:=by
 cases r with
 | p v V hp=>exact .p v V (hp.mono l.hmono)
 | agg cs C hl hh=>simp [kS.vX] at hs
 | tuple cs C hl hh=>simp [kS.vX] at hs
 | nil=>exact .nil
 | own rows id n sz V hp hf hn hr hc =>
  have hid:id < m:=by simpa [kS.vX,xR] using hs
  exact .own rows id n sz V (hp.mono l.hmono) (l.front _ _ _ hid hf) hn hr (by rw [l.cur]; exact hc)
 | ownv id V hp hb =>
  have hid:id < m:=by simpa [kS.vX,xR] using hs
  exact .ownv id V (hp.mono l.hmono) (l.nf _ hid hb)
 | vslice id tot off len sz b cap hl ht hc hv =>
  have hid:id < m:=by simpa [kS.vX,xR] using hs
  exact .vslice id tot off len sz b cap (l.nf _ hid hl) (by rw [l.cur]; exact ht) hc (by rw [l.cur]; exact hv)
 | vptr id tot off b hl ht hv =>
  have hid:id < m:=by simpa [kS.vX,xR] using hs
  exact .vptr id tot off b (l.nf _ hid hl) (by rw [l.cur]; exact ht) (by rw [l.cur]; exact hv)
 | ptr id off hl =>
  have hid:id < m:=by simpa [kS.vX,xR] using hs
  rw [←l.nV]; exact .ptr id off (l.live _ hid hl)
 | mslice id off len sz cap hl hc =>
  have hid:id < m:=by simpa [kS.vX,xR] using hs
  rw [←l.nV]; exact .mslice id off len sz cap (l.live _ hid hl) hc
 | mslice0 id off sz cap a=>exact .mslice0 id off sz cap a
 | map id hl =>
  have hid:id < m:=by simpa [kS.vX,xR] using hs
  rw [←l.nV]; exact .map id (l.live _ hid hl)
 | func f first cap F C hlf hlc hf hc =>
  simp only [kS.vX,Bool.and_eq_true,List.isEmpty_iff] at hs
  obtain⟨rfl,rfl⟩:=hs
  exact .func f [] [] F C hlf hlc (by simp) (by simp)
 | iface t v V hh=>simp [kS.vX] at hs
theorem yE (l:Left G h G' h' m) {v:kS}{V:Value}(hs:v.uY m=true) (r:l_ G h v V):l_ G' h' v V:=by
 cases v with
 | agg cs =>
  obtain⟨C,rfl,hl,hr⟩:=r.v7
  simp only [kS.uY,List.all_eq_true] at hs
  exact .agg cs C hl fun i u hu=>uK l (hs u (List.mem_of_getElem? hu)) (hr i u hu)
 | iface t v =>
  obtain⟨W,rfl,hr⟩:=r.Ej
  exact .iface t v W (uK l hs hr)
 | func f first cap =>
  obtain⟨F,C,rfl,hlf,hlc,hf,hc⟩:=r.Gr
  simp only [kS.uY,Bool.and_eq_true,List.all_eq_true] at hs
  exact .func f first cap F C hlf hlc (fun i u hu=>uK l (hs.1 u (List.mem_of_getElem? hu)) (hf i u hu)) (fun i u hu=>uK l (hs.2 u (List.mem_of_getElem? hu)) (hc i u hu))
 | _=>exact uK l hs r
theorem Rz {id:Nat}{b:mI}(hb:(h.take m)[id]?=some b):id < m∧h[id]?=some b:=by
 rw [List.getElem?_take] at hb
 split at hb
 ·rename_i hlt; exact⟨hlt,hb⟩
 ·cases hb
theorem wG {id b:Nat}(ho:owner G (h.take m) id=some b):id < m∧owner G h id=some b:=by
 obtain⟨bl,h1,h2⟩:=qE ho
 obtain⟨h3,h4⟩:=Rz h1
 exact⟨h3,by rw [oD h4]; exact h2⟩
theorem El:Left G h G (h.take m) m where
 hmono:=fun _ _ _ h=>h
 nV:=rfl
 cur:=rfl
 live:=fun id hid ⟨b,h1,h2⟩=>⟨b,by rw [List.getElem?_take,if_pos hid]; exact h1,h2⟩
 front:=fun id n sz hid hf=>by rw [List.getElem?_take,if_pos hid]; exact hf
 nf:=fun id hid ⟨b,h1,h2⟩=>⟨b,by rw [List.getElem?_take,if_pos hid]; exact h1,h2⟩
theorem Inv.take (i:Inv G h w) (hs:(h.take m).all (z_ m)=true):Inv G (h.take m) w where
 ok:=i.ok
 nV:=fun id bl hb=>by
  obtain⟨h1,h2⟩:=Rz hb
  have h3:z_ m bl=true:=List.all_eq_true.1 hs bl (List.mem_of_getElem? hb)
  have h4:=i.nV id bl h2
  cases bl with
  | cells cs =>
   simp only [z_,List.all_eq_true] at h3
   obtain⟨C,e,g1,g2,g3,g4⟩:=h4
   exact⟨C,e,g1,g2,g3,fun j v hv=>⟨(g4 j v hv).1,yE El (h3 v (List.mem_of_getElem? hv)) (g4 j v hv).2⟩⟩
  | map es =>
   simp only [z_,List.all_eq_true] at h3
   obtain⟨C,e,g1,g2,g3,g4,hst⟩:=h4
   refine⟨C,e,g1,g2,g3,fun j kv hv=>?_,hst⟩
   obtain⟨mm,g5,g6,g7,g8⟩:=g4 j kv hv
   exact⟨mm,g5,g6,g7,yE El (h3 kv (List.mem_of_getElem? hv)) g8⟩
  | vec t sz cs =>
   simp only [z_,List.all_eq_true] at h3
   obtain⟨b',cap,C,e,g1,g2,g3,g4,g5,g6,g7,g8,g9⟩:=h4
   exact⟨b',cap,C,e,g1,g2,g3,g4,g5,g6,g7,g8,fun j v hv=>⟨(g9 j v hv).1,yE El (h3 v (List.mem_of_getElem? hv)) (g9 j v hv).2⟩⟩
  | _=>exact h4
 inj:=fun a b c h1 h2=>i.inj a b c (wG h1).2 (wG h2).2
theorem as1 {t:kU}{w':World}(i:Inv G h w) (x:Ext G (h.take m) w G' t w') (i':Inv G' t w') (ht:t.length=m) :
  ∃G2,Ext G h w G2 (t++h.drop m) w'∧Inv G2 (t++h.drop m) w'∧EP G' t G2 (t++h.drop m):=by
 let G2:Gh:={ H:=G'.H,nV:=fun id=>if id < m then G'.nV id else G.nV id,cur:=fun id=>if id < m then G'.cur id else G.cur id }
 have b1:∀id,id < m→G2.nV id=G'.nV id:=fun id hid=>if_pos hid
 have c1:∀id,id < m→G2.cur id=G'.cur id:=fun id hid=>if_pos hid
 have b2:∀id,¬id < m→G2.nV id=G.nV id:=fun id hid=>if_neg hid
 have c2:∀id,¬id < m→G2.cur id=G.cur id:=fun id hid=>if_neg hid
 have g1:∀id,id < m→(t++h.drop m)[id]?=t[id]?:=fun id hid=>List.getElem?_append_left (by omega)
 have g2:∀id,¬id < m→(t++h.drop m)[id]?=h[id]?:=fun id hid=>by
  rw [List.getElem?_append_right (by omega),List.getElem?_drop,ht,show m+(id - m)=id by omega]
 have kn:∀{A B C D:Gh}{id:Nat}{x y:mI},C.nV id=A.nV id→C.cur id=A.cur id→D.nV id=B.nV id→D.cur id=B.cur id→Kind A B id x y→Kind C D id x y:=by
  intro A B C D id x y e1 e2 e3 e4 hk
  cases x <;> cases y <;> simp_all [Kind]
 have own:∀id b,owner G2 (t++h.drop m) id=some b→(id < m∧owner G' t id=some b)∨(¬id < m∧owner G h id=some b):=by
  intro id b ho
  by_cases hid:id < m
  ·refine .inl ⟨hid,?_⟩
   unfold owner at ho ⊢
   rwa [g1 id hid,b1 id hid,c1 id hid] at ho
  ·refine .inr ⟨hid,?_⟩
   unfold owner at ho ⊢
   rwa [g2 id hid,b2 id hid,c2 id hid] at ho
 have ext:Ext G h w G2 (t++h.drop m) w':=by
  refine⟨x.os,x.tape,x.output,x.size,fun b hb hn=>x.frame b hb fun id ho=>hn id (wG ho).2,x.hmono,fun id b ho hlt=>?_,fun id bl hb=>?_⟩
  ·rcases own id b ho with ⟨_,h2⟩ | ⟨_,h2⟩
   ·exact(wG (x.own id b h2 hlt)).2
   ·exact h2
  ·by_cases hid:id < m
   ·obtain⟨bl',h1,h2⟩:=x.kinds id bl (by rw [List.getElem?_take,if_pos hid]; exact hb)
    exact⟨bl',by rw [g1 id hid]; exact h1,kn rfl rfl (b1 id hid) (c1 id hid) h2⟩
   ·exact⟨bl,by rw [g2 id hid]; exact hb,kn rfl rfl (b2 id hid) (c2 id hid) (Kind.refl G id bl)⟩
 have mono:EP G' t G2 (t++h.drop m):=⟨fun _ _ _ h=>h,fun id bl hb=>by
  have hid:id < m:=by rw [←ht]; exact(List.getElem?_eq_some_iff.1 hb).1
  exact⟨bl,by rw [g1 id hid]; exact hb,kn rfl rfl (b1 id hid) (c1 id hid) (Kind.refl G' id bl)⟩⟩
 refine⟨G2,ext,⟨i'.ok,fun id bl hb=>?_,fun a b c ha hb=>?_⟩,mono⟩
 ·by_cases hid:id < m
  ·rw [g1 id hid] at hb
   exact(i'.nV id bl hb).Dc mono (b1 id hid) (c1 id hid) fun b _=>⟨rfl,fun _=>rfl⟩
  ·rw [g2 id hid] at hb
   refine(i.nV id bl hb).Dc ext.toMono (b2 id hid) (c2 id hid) fun b ho=>?_
   refine x.frame b ((i.nV id bl hb).lt ho) fun j hj=>?_
   obtain⟨j1,j2⟩:=wG hj
   have:=i.inj j id b j2 (by rw [oD hb]; exact ho)
   omega
 ·rcases own a c ha with ⟨a1,a2⟩ | ⟨a1,a2⟩ <;> rcases own b c hb with ⟨b1,b2⟩ | ⟨b1,b2⟩
  ·exact i'.inj a b c a2 b2
  ·have:=i.inj a b c (wG (x.own a c a2 (i.lt b2))).2 b2
   omega
  ·have:=i.inj a b c a2 (wG (x.own b c b2 (i.lt a2))).2
   omega
  ·exact i.inj a b c a2 b2
end
end Hk


namespace Hk
open Go Go.RowKit
section
variable {J:Act→Prop}{cx:Cx}{o:Oper}{ρ:List kS}{h:kU}{kv kp:kS→kU→Option R}{r:R}{ids:List Nat}{ops:Array Oper}{G:Gh}{w:World}{a:Act}{Q:Exit→Act→World→Prop}{K:Act→World→Prop}
theorem BX (hX:vR cx.P cx.A) (hK:sQ cx.P cx.A cx.K) (hb:oP cx o ids ρ h kv kp=some r) (i:Inv G h w) (gl:sG cx.A G.H) (s:pE J G h ρ a)
  (hkv:∀v h' G' w' V,kv v h'=some r→Ext G h w G' h' w'→Inv G' h' w'→l_ G' h' v V→(∀id∈ids,qV h id→h'[id]?=h[id]?)→K (a.put o.dst V) w')
  (hkp:Yq kp r G h w a Q):o.wp cx.P a w K Q:=by
 refine Gn hX hK none hb (i.rG ids) gl ⟨s.len,fun j v hv=>(s.rel j v hv).sub (QO ids h),s.df⟩ ?_ ?_
 ·intro v h' G' w' V hk x i' rv
  obtain⟨x2,i2,sb,kp2⟩:=NL i x i'
  exact hkv v _ G' w' V hk x2 i2 (rv.sub sb) kp2
 ·intro v h' G' w' V hk x i' rv
  obtain⟨x2,i2,sb,kp2⟩:=NL i x i'
  exact hkp v _ G' w' V hk x2 i2 (rv.sub sb)
theorem PR {j d:Nat}{g:Bool}(hd:(ops.toList[j]?).bind (·.dst)=some d) (s:pE J G h ρ a) (hg:ρ.getD d .junk=.bool g):yielded ops a.tmps j=some g:=by
 have h1:=s.get d
 rw [hg] at h1
 have h2:=h1.wW
 have h3:a.tmps[d]?=some (.bool g):=by
  rw [Array.getD_eq_getD_getElem?] at h2
  cases h4:a.tmps[d]? with
  | none=>rw [h4] at h2; cases h2
  | some v=>rw [h4] at h2; simp at h2; rw [h2]
 rw [Array.getElem?_toList] at hd
 simp [yielded,hd,h3]
theorem PT {j d:Nat}(hd:(ops.toList[j]?).bind (·.dst)=some d) (s:pE J G h ρ a) (hg:ρ.getD d .junk=.tuple []):yielded ops a.tmps j=none:=by
 have h1:=s.get d
 rw [hg] at h1
 have h2:=h1.Us
 rw [Array.getElem?_toList] at hd
 unfold yielded
 rw [hd]
 simp only [Option.bind_some]
 rw [Array.getD_eq_getD_getElem?] at h2
 cases h4:a.tmps[d]? with
 | none=>rfl
 | some v=>rw [h4] at h2; simp at h2; rw [h2]; rfl
theorem zK {n:Nat}(hX:vR cx.P cx.A) (hK:sQ cx.P cx.A cx.K) (hn:ops[n]?=some o) (hb:tM cx ops.toList o ids ρ h kv kp=some r) (i:Inv G h w) (gl:sG cx.A G.H) (s:pE J G h ρ a)
  (hkv:∀v h' G' w' V,kv v h'=some r→Ext G h w G' h' w'→Inv G' h' w'→l_ G' h' v V→(∀id∈ids,qV h id→h'[id]?=h[id]?)→K (a.put o.dst V) w')
  (hkp:Yq kp r G h w a Q):wpOp cx.P ops Q n K a w:=by
 unfold wpOp
 simp only [hn]
 have skip:kv (.tuple []) h=some r→K (a.put o.dst undef) w:=fun hk =>
  hkv _ h G w _ hk (Ext.refl G h w) i (.p _ _ (.tuple [] #[] rfl (by simp))) fun _ _ _=>rfl
 have run:oP cx o ids ρ h kv kp=some r→o.wp cx.P a w K Q:=fun hb=>BX hX hK hb i gl s hkv hkp
 rw [A6] at hb
 unfold An at hb
 cases hg:o.guard with
 | none =>
  simp only [hg] at hb
  rw [if_pos (by simp [Region.wanted,hg])]
  exact .inl (run hb)
 | some jw =>
  obtain⟨j,want⟩:=jw
  simp only [hg] at hb
  cases hd:(ops.toList[j]?).bind (·.dst) with
  | none=>simp only [hd] at hb; cases hb
  | some d =>
   simp only [hd] at hb
   split at hb
   ·rename_i g hgv
    have hy:=PR hd s hgv
    cases want <;> cases g <;> simp only [cond_true,cond_false] at hb
    ·rw [if_pos (by simp [Region.wanted,hg,hy])]; exact .inl (run hb)
    ·rw [if_neg (by simp [Region.wanted,hg,hy])]; exact skip hb
    ·rw [if_neg (by simp [Region.wanted,hg,hy])]; exact skip hb
    ·rw [if_pos (by simp [Region.wanted,hg,hy])]; exact .inl (run hb)
   ·rename_i hgv
    have hy:=PT hd s hgv
    rw [if_neg (by simp [Region.wanted,hg,hy])]; exact skip hb
   ·cases hb
open Classical in
theorem Kx (hrb:cx.rb=false) {n:Nat}(hX:vR cx.P cx.A) (hK:sQ cx.P cx.A cx.K) (hn:ops[n]?=some o) (hb:tM cx ops.toList o ids ρ h kv kp=some r) (hids:qH o=false→ids=[]) (i:Inv G h w) (gl:sG cx.A G.H) (s:pE J G h ρ a)
  (hkv:∀v h' G' w' V,kv v h'=some r→Ext G h w G' h' w'→Inv G' h' w'→l_ G' h' v V→((qH o=false→h'=h)∧∀id∈ids,qV h id→h'[id]?=h[id]?)→K (a.put o.dst V) w')
  (hkp:Yq kp r G h w a Q):wpOp cx.P ops Q n K a w:=by
 cases he:qH o with
 | true=>exact zK hX hK hn hb i gl s (fun v h' G' w' V h1 h2 h3 h4 h5=>hkv v h' G' w' V h1 h2 h3 h4 ⟨fun h=>(by rw [he] at h; cases h),h5⟩) hkp
 | false =>
  cases hids he
  obtain⟨v0,h1,h2⟩:=Fu hrb he hb
  have h3:=h2 h (fun v h'=>if v=v0∧h'=h then some r else none) (fun _ _=>none) fun _ _ _=>rfl
  simp only [and_self,if_true] at h3
  refine zK hX hK hn h3 i gl s (fun v h' G' w' V h4 h5 h6 h7 h8=>?_) (fun v h' G' w' V h4=>by cases h4)
  split at h4
  ·rename_i hvh
   obtain⟨rfl,rfl⟩:=hvh
   exact hkv _ _ G' w' V h1 h5 h6 h7 ⟨fun _=>rfl,h8⟩
  ·cases h4
theorem Mt {m:Nat}(hX:vR cx.P cx.A) (hK:sQ cx.P cx.A cx.K) (hb:yK cx o m ids ρ h kv=some r) (i:Inv G h w) (gl:sG cx.A G.H) (s:pE J G h ρ a)
  (hkv:∀v h' G' w' V,kv v h'=some r→Ext G h w G' h' w'→Inv G' h' w'→l_ G' h' v V→(∀id∈ids,qV h id→h'[id]?=h[id]?)→K (a.put o.dst V) w'):o.wp cx.P a w K Q:=by
 unfold yK at hb
 cases hs:(h.take m).all (z_ m) with
 | false=>rw [hs] at hb; cases hb
 | true =>
  rw [hs] at hb
  simp only [cond_true] at hb
  obtain⟨r0,h1,h2⟩:=Option.bind_eq_some_iff.1 hb
  unfold Wf at h2
  split at h2
  ·rename_i v t
   cases hl:t.length == m with
   | false=>rw [hl] at h2; cases h2
   | true =>
    rw [hl] at h2
    simp only [cond_true] at h2
    have hl:t.length=m:=by simpa using hl
    have s2:pE J G (h.take m) (ρ.map (DN m)) a:=⟨by rw [List.length_map]; exact s.len,fun j u hu=>by
     rw [List.getElem?_map] at hu
     cases hj:ρ[j]? with
     | none=>rw [hj] at hu; cases hu
     | some u0 =>
      rw [hj] at hu
      simp only [Option.map_some,Option.some.injEq] at hu
      subst hu
      unfold DN
      cases hsh:u0.uY m with
      | true=>exact yE El hsh (s.rel j u0 hj)
      | false=>exact .p _ _ (.junk _),s.df⟩
    refine BX hX hK h1 (i.take hs) gl s2 (fun v' h' G' w' V e1 e2 e3 e4 e5=>?_) (fun v' h' G' w' V e1=>by simp [wS] at e1)
    simp only [kY,Option.some.injEq,Prod.mk.injEq,List.cons.injEq,and_true,true_and] at e1
    obtain⟨rfl,rfl⟩:=e1
    obtain⟨G2,x2,i2,m2⟩:=as1 i e2 e3 hl
    refine hkv _ _ G2 w' V h2 x2 i2 (e4.mono m2) fun id hid hblk=>?_
    by_cases hlt:id < m
    ·rw [List.getElem?_append_left (by omega)]
     have:(h.take m)[id]?=h[id]?:=by rw [List.getElem?_take,if_pos hlt]
     rw [e5 id hid (by unfold qV at hblk ⊢; rwa [this]),this]
    ·rw [List.getElem?_append_right (by omega),List.getElem?_drop,hl,show m+(id - m)=id by omega]
  ·cases h2
open Classical in
theorem Jj (hrb:cx.rb=false) {n m:Nat}{it:Item}(hX:vR cx.P cx.A) (hK:sQ cx.P cx.A cx.K) (hn:ops[n]?=some it.o) (hb:oX cx ops.toList m it ids ρ h kv kp=some r) (hids:qH it.o=false→ids=[]) (i:Inv G h w) (gl:sG cx.A G.H) (s:pE J G h ρ a)
  (hkv:∀v h' G' w' V,kv v h'=some r→Ext G h w G' h' w'→Inv G' h' w'→l_ G' h' v V→Yp it m ids h h'→K (a.put it.o.dst V) w')
  (hkp:Yq kp r G h w a Q):wpOp cx.P ops Q n K a w:=by
 have hf0:=hb
 unfold oX at hb
 cases hr:it.rsv with
 | some j =>
  simp only [hr] at hb
  cases hf:sY it.o with
  | false=>rw [hf] at hb; cases hb
  | true =>
   rw [hf] at hb
   simp only [cond_true] at hb
   obtain⟨v0,b,f1,f2,f3⟩:=KF hf hb
   have f4:=f3 h (fun v h'=>if v=v0∧h'=h.set (m+j) b then some r else none) (fun _ _=>none) f1
   simp only [and_self,if_true] at f4
   have hg:it.o.guard=none:=by
    unfold sY at hf
    simp only [Bool.and_eq_true,Option.isNone_iff_eq_none] at hf
    exact hf.1
   unfold wpOp
   simp only [hn]
   rw [if_pos (by simp [Region.wanted,hg])]
   refine .inl (Gn hX hK _ f4 i gl s (fun v h' G' w' V e1 e2 e3 e4=>?_) (fun v h' G' w' V e1=>by cases e1))
   split at e1
   ·rename_i hvh
    obtain⟨rfl,rfl⟩:=hvh
    refine hkv _ _ G' w' V f2 e2 e3 e4 ⟨fun he=>(by rw [MZ hf] at he; cases he),fun id _ hbl=>?_,fun j' hj'=>?_,fun hn=>(by rw [hr] at hn; cases hn)⟩
    ·refine List.getElem?_set_ne fun hji=>?_
     subst hji
     exact TU f1 hbl
    ·rw [hr] at hj'; cases hj'
     exact⟨b,f1,rfl⟩
   ·cases e1
 | none =>
  simp only [hr] at hb
  cases hh:it.hid with
  | true =>
   rw [hh] at hb
   simp only [cond_true] at hb
   cases hf:w9 it.o with
   | false=>rw [hf] at hb; cases hb
   | true =>
    rw [hf] at hb
    simp only [cond_true] at hb
    obtain⟨v0,t,f1,f2,f3⟩:=SQ hb
    have f4:=f3 h (fun v h'=>if v=v0∧h'=t++h.drop m then some r else none) rfl
    simp only [and_self,if_true] at f4
    have hg:it.o.guard=none:=by
     unfold w9 at hf
     simp only [Bool.and_eq_true,Option.isNone_iff_eq_none] at hf
     exact hf.1
    unfold wpOp
    simp only [hn]
    rw [if_pos (by simp [Region.wanted,hg])]
    refine .inl (Mt hX hK f4 i gl s (fun v h' G' w' V e1 e2 e3 e4 e5=>?_))
    split at e1
    ·rename_i hvh
     obtain⟨rfl,rfl⟩:=hvh
     exact hkv _ _ G' w' V f2 e2 e3 e4 ⟨fun he=>(by rw [Qv hf] at he; cases he),e5,fun j hj=>(by rw [hr] at hj; cases hj),fun _ _=>⟨t,f1,rfl⟩⟩
    ·cases e1
  | false =>
   rw [hh] at hb
   simp only [cond_false] at hb
   refine Kx hrb hX hK hn hb hids i gl s (fun v h' G' w' V e1 e2 e3 e4 e5=>?_) hkp
   exact hkv v h' G' w' V e1 e2 e3 e4 ⟨e5.1,e5.2,fun j hj=>(by rw [hr] at hj; cases hj),fun _ hh'=>(by rw [hh] at hh'; cases hh')⟩
def RZ (J:Act→Prop) (ops:List Oper):Prop:=∀o∈ops,∀(a:Act) (V:Value),J a→J (a.put o.dst V)
theorem RZ.at {ops:Array Oper}(hJ:RZ J ops.toList) {n:Nat}{o:Oper}(hn:ops[n]?=some o) {a:Act}{V:Value}(h:J a):J (a.put o.dst V) :=
 hJ o (List.mem_of_getElem? (by rw [Array.getElem?_toList]; exact hn)) a V h
theorem Gv {k:List kS→kU→Option R}(l2:List Nat) (hJ:RZ J ops.toList) (hX:vR cx.P cx.A) (hK:sQ cx.P cx.A cx.K):∀(items:List Item) (seen ρ:List kS) (h:kU) (G:Gh) (w:World) (a:Act),
  (∀it∈items,ops[it.i]?=some it.o∧it.locks=[]∧it.rsv=none∧it.hid=false)→o9 cx ops.toList 0 items seen ρ h k kp=some r→Inv G h w→sG cx.A G.H→pE J G h ρ a →
  (∀ρ' h' G' w' a',k ρ' h'=some r→Ext G h w G' h' w'→Inv G' h' w'→pE J G' h' ρ' a'→wpOps cx.P ops Q l2 a' w') →
  (∀v h' G' w' V a',kp v h'=some r→Ext G h w G' h' w'→Inv G' h' w'→l_ G' h' v V→J a'→Q (.panic [{ v:=V,recovered:=false }]) a' w') →
  wpOps cx.P ops Q (items.map (·.i)++l2) a w:=by
 intro items
 induction items with
 | nil=>intro seen ρ h G w a _ hb i gl s hk _; exact hk _ _ G w a hb (Ext.refl G h w) i s
 | cons it rest ih =>
  intro seen ρ h G w a Da hb i gl s hk hkp
  obtain⟨h1,h2,h3,h4⟩:=Da it (by simp)
  simp only [o9,x9,oX,h3,h4,cond_false,h2,mY,List.filterMap_nil] at hb
  rw [List.map_cons,List.cons_append,wpOps_cons]
  refine zK hX hK h1 hb i gl s (fun v h' G' w' V e1 e2 e3 e4 _=>?_) (fun v h' G' w' V e1 e2 e3 e4=>hkp v h' G' w' V a e1 e2 e3 e4 s.df)
  exact ih _ _ _ G' w' _ (fun x hx=>Da x (by simp [hx])) e1 e3 (gl.mono e2.hmono) ((s.mono e2.toMono).put it.o.dst e4 (hJ.at h1 s.df))
   (fun ρ' h'' G'' w'' a' f1 f2 f3 f4=>hk ρ' h'' G'' w'' a' f1 (e2.trans f2) f3 f4)
   (fun v h'' G'' w'' V a' f1 f2 f3 f4 f5=>hkp v h'' G'' w'' V a' f1 (e2.trans f2) f3 f4 f5)
theorem IQ {k:List kS→kU→Option R}(hJ:RZ J ops.toList) (hX:vR cx.P cx.A) (hK:sQ cx.P cx.A cx.K) (items:List Item) (seen ρ:List kS) (h:kU) (G:Gh) (w:World) (a:Act)
  (h1:∀it∈items,ops[it.i]?=some it.o∧it.locks=[]∧it.rsv=none∧it.hid=false) (h2:o9 cx ops.toList 0 items seen ρ h k kp=some r) (h3:Inv G h w) (h4:sG cx.A G.H) (h5:pE J G h ρ a)
  (h6:∀ρ' h' G' w' a',k ρ' h'=some r→Ext G h w G' h' w'→Inv G' h' w'→pE J G' h' ρ' a'→Q .normal a' w')
  (h7:∀v h' G' w' V a',kp v h'=some r→Ext G h w G' h' w'→Inv G' h' w'→l_ G' h' v V→J a'→Q (.panic [{ v:=V,recovered:=false }]) a' w') :
  wpOps cx.P ops Q (items.map (·.i)) a w:=by
 have:=Gv [] hJ hX hK items seen ρ h G w a h1 h2 h3 h4 h5 h6 h7
 rwa [List.append_nil] at this
theorem sZ:(qR ops.toList).map (·.i)=List.range ops.size∧∀it∈qR ops.toList,ops[it.i]?=some it.o∧it.locks=[]∧it.rsv=none∧it.hid=false:=by
 constructor
 ·apply List.ext_getElem?
  intro j
  simp only [qR,List.map_map,List.getElem?_map,List.getElem?_zipIdx,List.getElem?_range',Array.getElem?_toList]
  by_cases hj:j < ops.size
  ·simp [hj]
  ·simp [hj]
 ·intro it Da
  simp only [qR,List.mem_map] at Da
  obtain⟨⟨o,i⟩,h1,rfl⟩:=Da
  have:=List.mem_zipIdx_iff_getElem?.1 h1
  simp only [Array.getElem?_toList] at this
  exact⟨this,rfl,rfl,rfl⟩
def JP (ops:Array Oper) (listed:Array Bool) (i:Nat):Prop:=∀o,ops[i]?=some o→∀e∈o.after,Region.binds .any e=true→listed.getD e.on false=true
theorem ME {t p:Nat}:(C7 t).testBit p=decide (t=p):=by
 unfold C7
 rw [Nat.one_shiftLeft,Nat.testBit_two_pow]
theorem V8 {P:Nat→Prop}(acc:List Nat):∀(es:List Edge) (m:Nat),(∀p,m.testBit p=true→P p) →
  (∀e∈es,Region.binds .any e=true→P e.on∧∀p,(acc.getD e.on 0).testBit p=true→P p) →
  ∀p,(es.foldl (fun m e=>bif Region.binds .any e then m ||| C7 e.on ||| acc.getD e.on 0 else m) m).testBit p=true→P p:=by
 intro es
 induction es with
 | nil=>intro m hm _ p hp; exact hm p hp
 | cons e es ih =>
  intro m hm he p hp
  refine ih _ (fun q hq=>?_) (fun x hx=>he x (by simp [hx])) p hp
  cases hbd:Region.binds .any e with
  | false=>simp only [hbd,cond_false] at hq; exact hm q hq
  | true =>
   simp only [hbd,cond_true,Nat.testBit_or,Bool.or_eq_true,ME,decide_eq_true_eq] at hq
   obtain⟨h1,h2⟩:=he e (by simp) hbd
   rcases hq with (hq | hq) | hq
   ·exact hm q hq
   ·exact hq ▸ h1
   ·exact h2 q hq
theorem Ms {listed:Array Bool}(hdc:∀i,listed.getD i false=true→JP ops listed i):∀(rest:List Oper) (pre:List Oper) (acc:List Nat),pre++rest=ops.toList→acc.length=pre.length →
  (∀q,JP ops listed q→∀p,(acc.getD q 0).testBit p=true→listed.getD p false=true) →
  ∀q,JP ops listed q→∀p,((Kv rest acc).getD q 0).testBit p=true→listed.getD p false=true:=by
 intro rest
 induction rest with
 | nil=>intro pre acc _ _ h; exact h
 | cons o rest ih =>
  intro pre acc hpre hlen h
  refine ih (pre++[o]) _ (by simpa using hpre) (by simp [hlen]) fun q hq p hp=>?_
  have ho:ops[pre.length]?=some o:=by
   rw [←Array.getElem?_toList,←hpre]; simp
  rw [List.getD_eq_getElem?_getD,List.getElem?_append] at hp
  split at hp
  ·rename_i hlt
   exact h q hq p (by rw [List.getD_eq_getElem?_getD]; exact hp)
  ·rename_i hge
   by_cases he:q=acc.length
   ·subst he
    simp only [Nat.sub_self,List.getElem?_cons_zero,Option.getD_some] at hp
    refine V8 (P:=fun p=>listed.getD p false=true) acc _ _ (by simp) (fun e hm hbd=>?_) p hp
    have h1:=hq o (by rw [hlen]; exact ho) e (by simpa using hm) hbd
    exact⟨h1,h e.on (hdc e.on h1)⟩
   ·have:q - acc.length=(q - acc.length - 1)+1:=by omega
    rw [this] at hp
    simp at hp
theorem V9 {listed:Array Bool}(hdc:∀i,listed.getD i false=true→JP ops listed i) {q p:Nat}(hq:JP ops listed q) (hp:((Mr ops.toList).getD q 0).testBit p=true):listed.getD p false=true :=
 Ms hdc ops.toList [] [] rfl rfl (by simp) q hq p hp
theorem DF {os:List Oper}{cl:List Nat}:∀{L:List Item},CG os cl L=true↔L.Pairwise fun p q=>Lt os cl p q=true
 | []=>by simp [CG]
 | p::r=>by simp [CG,DF (L:=r)]
theorem RM (hrb:cx.rb=false) {m:Nat}{k:List kS→kU→Option R}(hJ:RZ J ops.toList) (hX:vR cx.P cx.A) (hK:sQ cx.P cx.A cx.K) (hedges:∀i o,ops[i]?=some o→∀e∈o.after,Region.binds .any e=true→e.on < i) :
  ∀(n:Nat) (L:List Item) (seen ρ:List kS) (h:kU) (G:Gh) (w:World) (a:Act) (listed:Array Bool),L.length=n →
  CG ops.toList (Mr ops.toList) L=true→(∀it∈L,ops[it.i]?=some it.o∧(qH it.o=false→it.locks=[])∧(it.rsv≠none∨it.hid=true→qH it.o=true))→seen.length=ops.size→listed.size=ops.size →
  (∀j,listed.getD j true=false↔∃it∈L,it.i=j)→(∀i,listed.getD i false=true→JP ops listed i) →
  o9 cx ops.toList m L seen ρ h k kp=some r→Inv G h w→sG cx.A G.H→pE J G h ρ a →
  (∀ρ' h' G' w' a',k ρ' h'=some r→Ext G h w G' h' w'→Inv G' h' w'→pE J G' h' ρ' a'→Q .normal a' w') →
  (∀v h' G' w' V a',kp v h'=some r→Ext G h w G' h' w'→Inv G' h' w'→l_ G' h' v V→J a'→Q (.panic [{ v:=V,recovered:=false }]) a' w') →
  wpAny cx.P .any ops Q n listed a w:=by
 intro n
 induction n with
 | zero =>
  intro L seen ρ h G w a listed hn _ _ _ _ hun _ hb i gl s hk _
  cases List.eq_nil_of_length_eq_zero hn
  refine⟨?_,hk _ _ G w a hb (Ext.refl G h w) i s⟩
  cases hr:Region.ready .any ops listed with
  | nil=>rfl
  | cons j js =>
   have hj:j∈Region.ready .any ops listed:=by rw [hr]; simp
   obtain⟨it,Da,_⟩:=(hun j).1 (mem_ready.1 hj).1
   cases Da
 | succ n ih =>
  intro L seen ρ h G w a listed hn hp Da hseen hsz hun hdc hb i gl s hk hkp
  have lt:∀j,listed.getD j true=false→j < listed.size:=fun j hj=>by
   by_cases h:j < listed.size
   ·exact h
   ·simp [Array.getD,h] at hj
  have conv:∀j,j < listed.size→listed.getD j false≠true→listed.getD j true=false:=fun j hj hn=>by
   simp only [Array.getD,hj,dite_true] at hn ⊢
   simpa using hn
  have notIn:∀j,listed.getD j false=true→listed.getD j true=false→False:=fun j h1 h2=>by
   have:=lt j h2
   simp [Array.getD,this] at h1 h2
   rw [h1] at h2; cases h2
  have some_ready:∀m,(∃it∈L,it.i=m)→∃j,j∈Region.ready .any ops listed:=by
   intro m
   induction m using Nat.strongRecOn with
   | _ m ihm =>
    rintro⟨x,hx,rfl⟩
    by_cases hall:∀e∈x.o.after,Region.binds .any e=true→listed.getD e.on false=true
    ·exact⟨x.i,mem_ready.2 ⟨(hun x.i).2 ⟨x,hx,rfl⟩,x.o,(Da x hx).1,hall⟩⟩
    ·simp only [Classical.not_forall] at hall
     obtain⟨e,he,hbd,hnl⟩:=hall
     have hlt:=hedges x.i x.o (Da x hx).1 e he hbd
     have:=lt x.i ((hun x.i).2 ⟨x,hx,rfl⟩)
     exact ihm e.on hlt ((hun e.on).1 (conv e.on (by omega) hnl))
  refine⟨fun hr=>?_,fun j hj=>?_⟩
  ·obtain⟨x,hx⟩:=List.exists_mem_of_length_pos (l:=L) (by omega)
   obtain⟨y,hy⟩:=some_ready x.i ⟨x,hx,rfl⟩
   rw [hr] at hy; cases hy
  ·obtain⟨hju,o,hjo,hje⟩:=mem_ready.1 hj
   obtain⟨it,hitL,rfl⟩:=(hun j).1 hju
   obtain⟨pre,post,rfl⟩:=List.append_of_mem hitL
   have hpw:=DF.1 hp
   have hsub:(pre++post).Sublist (pre++it::post):=List.Sublist.append (List.Sublist.refl _) (List.sublist_cons_self _ _)
   have hpw2:=hpw.sublist hsub
   have hpa:=List.pairwise_append.1 hpw
   have ho:o=it.o:=by have:=(Da it (by simp)).1; rw [hjo] at this; exact Option.some.inj this
   subst ho
   have hpre:∀p∈pre,indep ops.toList p it=true∧p.i≠it.i∧p.i < seen.length:=by
    intro p hpm
    have h1:=hpa.2.2 p hpm it (by simp)
    simp only [Lt,Bool.and_eq_true,Bool.or_eq_true,bne_iff_ne,Bool.not_eq_true'] at h1
    have hpu:=(hun p.i).2 ⟨p,by simp [hpm],rfl⟩
    refine⟨h1.2.resolve_left fun hbit=>?_,h1.1.1,by rw [hseen,←hsz]; exact lt _ hpu⟩
    exact notIn p.i (V9 hdc (q:=it.i) (fun o' ho' e he hbd=>by rw [hjo] at ho'; cases ho'; exact hje e he hbd) hbit) hpu
   have hnd:(pre.map (·.i)).Nodup:=by
    rw [List.nodup_iff_pairwise_ne,List.pairwise_map]
    exact hpa.1.imp fun hpq=>by
     simp only [Lt,Bool.and_eq_true,bne_iff_ne] at hpq
     exact hpq.1.1
   have hpost:∀q∈pre++post,q.i≠it.i:=by
    intro q hq
    rcases List.mem_append.1 hq with hq | hq
    ·exact(hpre q hq).2.1
    ·have h1:=(List.pairwise_cons.1 hpa.2.1).1 q hq
     simp only [Lt,Bool.and_eq_true,bne_iff_ne] at h1
     exact Ne.symm h1.1.1
   obtain⟨ids,kv,e1,_,e3,e4⟩:=move hrb it post (Da it (by simp)).2.1 (Da it (by simp)).2.2 pre seen ρ h hpre hnd hb
   refine Jj hrb hX hK hjo e1 e3 i gl s (fun v h' G' w' V f1 f2 f3 f4 f5=>?_) (fun v h' G' w' V f1 f2 f3 f4=>hkp v h' G' w' V a f1 f2 f3 f4 s.df)
   have hlen:(pre++post).length=n:=by simp at hn ⊢; omega
   have hlt:=lt it.i hju
   refine ih (pre++post) _ _ h' G' w' _ _ hlen (DF.2 hpw2) (fun x hx=>Da x (hsub.subset hx)) (by simpa using hseen) (by simpa using hsz) (fun q=>?_) (fun q hq=>?_) (e4 v h' f5 f1) f3 (gl.mono f2.hmono)
    ((s.mono f2.toMono).put it.o.dst f4 (hJ.at hjo s.df))
    (fun ρ' h'' G'' w'' a' g1 g2 g3 g4=>hk ρ' h'' G'' w'' a' g1 (f2.trans g2) g3 g4)
    (fun v h'' G'' w'' V a' g1 g2 g3 g4 g5=>hkp v h'' G'' w'' V a' g1 (f2.trans g2) g3 g4 g5)
   ·by_cases hq:it.i=q
    ·subst hq
     constructor
     ·intro h1; simp [Array.getD,hlt] at h1
     ·rintro⟨x,hx,he⟩; exact absurd he (hpost x hx)
    ·rw [getD_set_ne true hq,hun q]
     constructor
     ·rintro⟨x,hx,he⟩
      refine⟨x,?_,he⟩
      rcases List.mem_append.1 hx with hx | hx
      ·simp [hx]
      ·rcases List.mem_cons.1 hx with rfl | hx
       ·exact absurd he hq
       ·simp [hx]
     ·rintro⟨x,hx,he⟩; exact⟨x,hsub.subset hx,he⟩
   ·have hE:JP ops listed q:=by
     by_cases hqi:it.i=q
     ·subst hqi; intro o' ho' e he hbd; rw [hjo] at ho'; cases ho'; exact hje e he hbd
     ·rw [getD_set_ne false hqi] at hq; exact hdc q hq
    exact fun o' ho' e he hbd=>getD_set_true (hE o' ho' e he hbd)
end
end Hk


namespace Hk
open Go Go.RowKit
section
variable {J:Act→Prop}{cx:Cx}{ρ:List kS}{h:kU}{k:List kS→kU→Option R}{r:R}{ops:Array Oper}{G:Gh}{w:World}{a:Act}{Q:Exit→Act→World→Prop}
theorem I1:∀{fl:List Nat}{i k:Nat},JE fl i k≠none→i∈fl
 | [],_,_,h=>absurd rfl h
 | a::r,i,k,h=>by
  unfold JE at h
  cases ha:a == i with
  | true=>simp at ha; simp [ha]
  | false=>rw [ha] at h; exact List.mem_cons_of_mem _ (I1 h)
theorem KN {os:List Oper}{cl fl:List Nat}(hfl:∀i∈fl,aiG sY os i=true):∀(l before:List Nat),∀it∈B0 os cl fl l before,os[it.i]?=some it.o∧(qH it.o=false→it.locks=[])∧(it.rsv≠none∨it.hid=true→qH it.o=true):=by
 intro l
 induction l with
 | nil=>intro before it Da; cases Da
 | cons i l ih =>
  intro before it Da
  unfold B0 at Da
  split at Da
  ·rename_i o ho
   rcases List.mem_cons.1 Da with rfl | Da
   ·refine⟨ho,fun he=>by simp at he; simp [he],fun hx=>?_⟩
    rcases hx with hx | hx
    ·have h1:=hfl i (I1 hx)
     simp only [aiG,ho] at h1
     exact MZ h1
    ·simp only [Bool.and_eq_true] at hx
     exact Qv hx.1
   ·exact ih _ it Da
  ·cases Da
theorem DJ (ρ:List kS) (d:Option Tmp) (v:kS):(qS ρ d v).length=ρ.length:=by cases d <;> simp [qS]
theorem yL {os:List Oper}{m:Nat}{kp:kS→kU→Option R}(n:Nat):∀(items:List Item) (seen ρ:List kS) (h:kU),ρ.length=n →
  o9 cx os m items seen ρ h k kp=o9 cx os m items seen ρ h (fun ρ' h'=>if ρ'.length=n then k ρ' h' else none) kp:=by
 intro items
 induction items with
 | nil=>intro seen ρ h hn; simp [o9,hn]
 | cons it rest ih =>
  intro seen ρ h hn
  simp only [o9,x9]
  congr 1
  funext v h'
  exact ih _ _ _ (by rw [DJ,hn])
def uL (J:Act→Prop) (n:Nat) (kn:List kS→kU→Option R) (ke:Ex→List kS→kU→Option R) (r:R) (G:Gh) (h:kU) (w:World) (Q:Exit→Act→World→Prop):Prop :=
 (∀ρ' h' G' w' a',kn ρ' h'=some r→Ext G h w G' h' w'→Inv G' h' w'→pE J G' h' ρ' a'→ρ'.length=n→Q .normal a' w') ∧
 (∀e ρ' h' G' w' a',ke e ρ' h'=some r→Ext G h w G' h' w'→Inv G' h' w'→pE J G' h' ρ' a'→ρ'.length=n →
  match e with
  | .exit id=>Q (.exit id) a' w'
  | .ret=>Q .ret a' w'
  | _=>True) ∧
 ∀v ρ' h' G' w' a' V,ke (.pan v) ρ' h'=some r→Ext G h w G' h' w'→Inv G' h' w'→l_ G' h' v V→J a'→Q (.panic [{ v:=V,recovered:=false }]) a' w'
theorem Ext.adF {G':Gh}{h':kU}{w':World}(x:Ext G h { w with drawn:=w.drawn+1 } G' h' w'):Ext G h w G' h' w' :=
 ⟨x.os,x.tape,x.output,x.size,x.frame,x.hmono,x.own,x.kinds⟩
theorem Inv.EA (i:Inv G h w) (n:Nat):Inv G (EA n h) w∧Ext G h w G (EA n h) w:=by
 cases n with
 | zero=>exact⟨i,Ext.refl G h w⟩
 | succ n =>
  have hfr:∀(n j:Nat) (bl:mI),(M4 n)[j]?=some bl→bl=.free:=by
   intro n
   induction n with
   | zero=>intro j bl hb; simp [M4] at hb
   | succ n ih =>
    intro j bl hb
    cases j with
    | zero=>simp [M4] at hb; exact hb.symm
    | succ j=>exact ih j bl (by simpa [M4] using hb)
  refine i.push rfl rfl rfl (Nat.le_refl _) (fun _ _=>rfl) (fun _ _=>rfl) (fun _ _=>rfl) (fun _ _ _ h=>h) (fun _ _ _=>rfl) (fun b k v _ hv=>i.ok b k v hv) (fun j bl hb _=>?_) (fun j bl b hb ho=>?_) (fun j j' bl bl' b hb _ ho _=>?_)
  ·rw [hfr _ j bl hb]; trivial
  ·rw [hfr _ j bl hb] at ho; cases ho
  ·rw [hfr _ j bl hb] at ho; cases ho
theorem Hf {id:Nat}{draw:Bool}(hJ:RZ J ops.toList) (hm:cx.P.follows .mixedOrders=true) (hX:vR cx.P cx.A) (hK:sQ cx.P cx.A cx.K) {kp:kS→kU→Option R}(hb:wD cx ops.toList draw ρ h k kp=some r) (i:Inv G h w) (gl:sG cx.A G.H) (s:pE J G h ρ a)
  (hn:ρ.length=cx.n)
  (hk:∀ρ' h' G' w' a',k ρ' h'=some r→Ext G h w G' h' w'→Inv G' h' w'→pE J G' h' ρ' a'→ρ'.length=cx.n→Q .normal a' w')
  (hkp:∀v h' G' w' a' V,kp v h'=some r→Ext G h w G' h' w'→Inv G' h' w'→l_ G' h' v V→J a'→Q (.panic [{ v:=V,recovered:=false }]) a' w'):(Code.region id ops draw).wp cx.P Q a w:=by
 cases draw with
 | false =>
  simp only [wD] at hb
  rw [yL cx.n _ _ _ _ hn] at hb
  refine wp_region ?_
  rw [←sZ.1]
  refine IQ hJ hX hK _ _ _ _ G w a sZ.2 hb i gl s (fun ρ' h' G' w' a' e1 e2 e3 e4=>?_) (fun v h' G' w' V a' e1 e2 e3 e4 e5=>?_)
  ·split at e1
   ·rename_i hl; exact hk ρ' h' G' w' a' e1 e2 e3 e4 hl
   ·cases e1
  ·exact hkp v h' G' w' a' V e1 e2 e3 e4 e5
 | true =>
  simp only [wD] at hb
  cases hd:Ct ops.toList with
  | none=>simp only [hd] at hb; cases hb
  | some items =>
   simp only [hd] at hb
   unfold Ct at hd
   simp only [] at hd
   generalize Da:B0 ops.toList (Mr ops.toList) (KG ops.toList (Mr ops.toList)) (Vm ops.toList) []=items' at hd
   cases hc:(CG ops.toList (Mr ops.toList) items' && Oj ops.toList && (items'.length == ops.toList.length) && (List.range ops.toList.length).all (fun i=>items'.any fun it=>it.i == i)) with
   | false=>rw [hc] at hd; cases hd
   | true =>
    rw [hc] at hd
    cases hd
    rw [yL cx.n _ _ _ _ hn] at hb
    simp only [Bool.and_eq_true,beq_iff_eq,Array.length_toList,List.all_eq_true,List.mem_range,List.any_eq_true] at hc
    obtain⟨⟨⟨h1,h2⟩,h3⟩,h4⟩:=hc
    have hspec:∀it∈items,ops[it.i]?=some it.o∧(qH it.o=false→it.locks=[])∧(it.rsv≠none∨it.hid=true→qH it.o=true):=by
     intro it hm
     rw [←Da] at hm
     have:=KN (fun i hi=>by
      have:=(List.mem_filter.1 hi).2
      simp only [Bool.and_eq_true] at this
      exact this.1) _ _ it hm
     rwa [Array.getElem?_toList] at this
    refine wp_region_any hm ?_
    obtain⟨ir,xr⟩:=i.EA (GK items)
    refine RM (cx:={ cx with rb:=false }) rfl (m:=h.length) hJ hX hK (fun j o ho e he hbd=>?_) ops.size items _ ρ (EA (GK items) h) G _ a _ h3 h1 hspec (by simp) (by simp) (fun j=>?_) (fun j hj=>?_) hb ir.drew gl (s.mono xr.toMono)
     (fun ρ' h' G' w' a' e1 e2 e3 e4=>by
      split at e1
      ·rename_i hl; exact hk ρ' h' G' w' a' e1 (xr.trans e2.adF) e3 e4 hl
      ·cases e1) (fun v h' G' w' V a' e1 e2 e3 e4 e5=>hkp v h' G' w' a' V e1 (xr.trans e2.adF) e3 e4 e5)
    ·simp only [Oj,List.all_eq_true] at h2
     have:=h2 (o,j) (List.mem_zipIdx_iff_getElem?.2 (by simpa using ho)) e (by simpa using he)
     simpa [hbd] using this
    ·constructor
     ·intro hj
      have hlt:j < ops.size:=by
       by_cases hlt:j < ops.size
       ·exact hlt
       ·simp [Array.getD,hlt] at hj
      obtain⟨x,hx,he⟩:=h4 j hlt
      exact⟨x,hx,by simpa using he⟩
     ·rintro⟨x,hx,rfl⟩
      have:=(Array.getElem?_eq_some_iff.1 (hspec x hx).1).1
      simp [Array.getD,this]
    ·exfalso
     simp [Array.getD] at hj
end
end Hk


namespace Hk
open Go Go.RowKit
section
variable {G G':Gh}{h h':kU}{w:World}{m:Nat}
def YC (G:Gh) (h:kU) (w:World) (G':Gh) (m:Nat):Prop :=
 (∀id cs,m≤id→h[id]?=some (.cells cs)→∀k,G'.H (G.nV id) k=w.cell? ⟨G.nV id,k,none⟩) ∧
  ∀id tot sz cs b,m≤id→h[id]?=some (.vec tot sz cs)→(G.cur id).ownBlock=some b→∀k,G'.H b k=w.cell? ⟨b,k,none⟩
theorem LG (i : Inv G h w) (l : Left G h G' h' m) (st : YC G h w G' m) {v : kS} {V : Value} (r : l_ G h v V) : l_ G' h' (v.oH m h) V := by
  have junk : l_ G' h' .junk V := .p _ _ (.junk _)
  have cellsOf : ∀ (id : Nat) (cs row part : List kS) (off : Nat), m ≤ id → h[id]? = some (.cells cs) → (∀ (j : Nat) (c : kS), part[j]? = some c → cs[off + j]? = some c) → nB part = some row →
      ∃ F : Nat → Value, ∀ (j : Nat) (v : kS), row[j]? = some v → G'.H (G.nV id) (off + j) = some (F j) ∧ v.mV = true ∧ qF G'.H v (F j) := by
    intro id cs row part off hid hc hpart hrow
    obtain ⟨C, e, h1, h2, h3, h4⟩ := i.nV id _ hc
    obtain ⟨p1, p2⟩ := rQ hrow
    refine ⟨fun j => C.getD (off + j) undef, fun j v hv => ?_⟩
    have hj : j < part.length := by rw [← p1]; exact (List.getElem?_eq_some_iff.1 hv).1
    obtain ⟨c', e1, e2⟩ := p2 j _ (List.getElem?_eq_getElem hj)
    rw [hv] at e1; cases e1
    have hcs := hpart j _ (List.getElem?_eq_getElem hj)
    have hlt : off + j < C.size := by rw [h2]; exact (List.getElem?_eq_some_iff.1 hcs).1
    obtain ⟨e3, e4⟩ := wL e2 (h4 _ _ hcs).2
    refine ⟨?_, e4, e3.mono l.hmono⟩
    rw [st.1 id cs hid hc, cell_of w _ _ h1]
    simp [Array.getD_eq_getD_getElem?, hlt]
  cases v with
  | slice rows t =>
    cases t with
    | own id =>
      simp only [kS.oH]
      cases hd : decide (id < m) with
      | true =>
        simp only [cond_true]
        exact uK l (by simpa [kS.vX, xR] using hd) r
      | false =>
        simp only [cond_false]
        exact .p _ _ (r.tQ.mono l.hmono)
    | _ => exact uK l rfl r
  | ptr id off =>
    simp only [kS.oH]
    cases hd : decide (id < m) with
    | true =>
      simp only [cond_true]
      exact uK l (by simpa [kS.vX, xR] using hd) r
    | false =>
      simp only [cond_false]
      have hid : m ≤ id := by simpa using hd
      split
      · rename_i cs hc
        split
        · rename_i row hrow
          obtain ⟨rfl, _⟩ := r.Ai
          obtain ⟨F, hF⟩ := cellsOf id cs row _ off hid hc (fun j c hj => by rwa [List.getElem?_drop] at hj) hrow
          exact .p _ _ (.pptr row _ off F (fun j v hv => (hF j v hv).1) (fun j v hv => (hF j v hv).2.1) (fun j v hv => (hF j v hv).2.2))
        · exact junk
      · exact junk
  | mslice id off len sz =>
    simp only [kS.oH]
    cases hd : decide (id < m) with
    | true =>
      simp only [cond_true]
      exact uK l (by simpa [kS.vX, xR] using hd) r
    | false =>
      simp only [cond_false]
      have hid : m ≤ id := by simpa using hd
      split
      · rename_i cs hc
        split
        · rename_i row hrow
          cases hle : decide (off + len * sz ≤ cs.length) with
          | false => exact junk
          | true =>
            simp only [cond_true]
            have hle : off + len * sz ≤ cs.length := by simpa using hle
            obtain ⟨a, cap, rfl, hcap, ha⟩ := r.x_
            by_cases h0 : len = 0
            · subst h0; exact .p _ _ (.slice0 a cap)
            · obtain ⟨rfl, _⟩ := ha (by omega)
              obtain ⟨F, hF⟩ := cellsOf id cs row _ off hid hc (fun j c hj => by
                rw [List.getElem?_take] at hj
                split at hj
                · rwa [List.getElem?_drop] at hj
                · cases hj) hrow
              have hrl : row.length = len * sz := by rw [(rQ hrow).1]; simp; omega
              exact .p _ _ (Cb (by omega) hcap (fun j v hv _ => ⟨(hF j v hv).1, (hF j v hv).2.2, (hF j v hv).2.1⟩))
        · exact junk
      · exact junk
  | vslice id tot off len sz =>
    simp only [kS.oH]
    cases hd : decide (id < m) with
    | true =>
      simp only [cond_true]
      exact uK l (by simpa [kS.vX, xR] using hd) r
    | false =>
      simp only [cond_false]
      have hid : m ≤ id := by simpa using hd
      split
      · rename_i tot' sz' cs hc
        split
        · rename_i row hrow
          cases hle : decide (tot = tot' ∧ off + len * sz ≤ cs.length) with
          | false => exact junk
          | true =>
            simp only [cond_true]
            obtain ⟨rfl, hle⟩ : tot = tot' ∧ off + len * sz ≤ cs.length := by simpa using hle
            obtain ⟨b, cap, rfl, hnf, htot, hlc, hv⟩ := r.rM
            obtain ⟨b', cap', C, e0, g1, g2, g3, g4, g5, g6, g7, g8, g9⟩ := i.nV id _ hc
            obtain ⟨l0, cap0, k1, _⟩ := hv (by rw [g1]; rfl)
            have hcur := g1
            rw [g1] at k1
            simp only [Value.slice.injEq, Option.some.injEq, Addr.mk.injEq] at k1
            obtain ⟨⟨rfl, _⟩, _, rfl⟩ := k1
            obtain ⟨p1, p2⟩ := rQ hrow
            have hdl : ((cs.drop off).take (len * sz)).length = len * sz := by rw [List.length_take, List.length_drop]; omega
            rw [hdl] at p1
            refine .p _ _ (Cb (F := fun j => C.getD (off + j) undef) (by omega) hlc fun j v hvv _ => ?_)
            have hj : j < len * sz := by rw [← p1]; exact (List.getElem?_eq_some_iff.1 hvv).1
            obtain ⟨c', e1, e2⟩ := p2 j _ (List.getElem?_eq_getElem (by omega))
            rw [hvv] at e1; cases e1
            have hcs : cs[off + j]? = some (((cs.drop off).take (len * sz))[j]'(by omega)) := by
              have := List.getElem?_eq_getElem (l := (cs.drop off).take (len * sz)) (i := j) (by omega)
              rw [List.getElem?_take, if_pos hj, List.getElem?_drop] at this
              exact this
            obtain ⟨_, hrel⟩ := g9 _ _ hcs
            obtain ⟨z1, z2⟩ := wL e2 hrel
            have hlt : off + j < C.size := by
              have := (List.getElem?_eq_some_iff.1 hcs).1
              have h2 : cs.length ≤ C.size := by rw [g7, g5]; exact Nat.mul_le_mul_right _ g3
              omega
            refine ⟨?_, z1.mono l.hmono, z2⟩
            rw [st.2 id _ _ _ b' hid hc (by rw [hcur]; rfl), cell_of w _ _ g2]
            simp [Array.getD_eq_getD_getElem?, hlt]
        · exact junk
      · exact junk
  | _ =>
    simp only [kS.oH]
    first
      | (cases hs : kS.uY m _ with
         | true => exact yE l hs r
         | false => exact junk)
theorem ai7 (i:Inv G h w) (l:Left G h G' h' m) (st:YC G h w G' m) {v:kS}{V:Value}(r:l_ G h v V):l_ G' h' (v.oL m h) V:=by
 have one:∀{v:kS}{V:Value},l_ G h v V→l_ G' h' (v.oH m h) V:=fun r=>LG i l st r
 have agg:∀(cs:List kS) (X:Value),l_ G h (.agg cs) X→l_ G' h' (.agg (cs.map (·.oH m h))) X:=by
  intro cs X hx
  obtain⟨C,rfl,hl,hr⟩:=hx.v7
  refine .agg _ _ (by simpa using hl) fun i u hu=>?_
  simp only [List.getElem?_map,Option.map_eq_some_iff] at hu
  obtain⟨a,ha,rfl⟩:=hu
  exact one (hr i a ha)
 cases v with
 | agg cs=>exact agg cs V r
 | tuple vs =>
  obtain⟨C,rfl,hl,hr⟩:=r.Ci
  refine .tuple _ _ (by simpa using hl) fun i u hu=>?_
  simp only [List.getElem?_map,Option.map_eq_some_iff] at hu
  obtain⟨a,ha,rfl⟩:=hu
  have:=hr i a ha
  cases a <;> first | exact agg _ _ this | exact one this
 | iface t v =>
  obtain⟨W,rfl,hr⟩:=r.Ej
  cases v <;> first | exact .iface _ _ _ (agg _ _ hr) | exact .iface _ _ _ (one hr)
 | _=>exact one r
theorem yQ:∀{cs cs':List kS},m_ m h cs=some cs'→cs'.length=cs.length∧∀(j:Nat) (c:kS),cs'[j]?=some c→c.mV=true∧∃c0,cs[j]?=some c0∧c=c0.oH m h
 | [],cs',hc=>by simp only [m_,Option.some.injEq] at hc; subst hc; simp
 | v::r,cs',hc=>by
  simp only [m_] at hc
  cases hk:(v.oH m h).mV with
  | false=>rw [hk] at hc; cases hc
  | true =>
   rw [hk] at hc
   simp only [cond_true] at hc
   split at hc
   ·rename_i r' hr
    cases hc
    obtain⟨h1,h2⟩:=yQ hr
    refine⟨by simp [h1],fun j c hj=>?_⟩
    cases j with
    | zero=>simp at hj; subst hj; exact⟨hk,v,rfl,rfl⟩
    | succ j=>simpa using h2 j c (by simpa using hj)
   ·cases hc
theorem GN:∀{bs bs':List mI},nW m h bs=some bs'→bs'.length=bs.length∧∀(j:Nat) (b:mI),bs[j]?=some b→∃b',bs'[j]?=some b'∧oQ m h b=some b'
 | [],bs',hb=>by simp only [nW,Option.some.injEq] at hb; subst hb; simp
 | b::r,bs',hb=>by
  simp only [nW] at hb
  split at hb
  ·rename_i b' r' hb' hr
   cases hb
   obtain⟨h1,h2⟩:=GN hr
   refine⟨by simp [h1],fun j c hj=>?_⟩
   cases j with
   | zero=>simp at hj; subst hj; exact⟨b',rfl,hb'⟩
   | succ j=>simpa using h2 j c (by simpa using hj)
  ·cases hb
theorem Up (ht:mS m h=some h') (hm:m≤h.length):h'.length=m∧∀(id:Nat) (b:mI),id < m→h[id]?=some b→∃b',h'[id]?=some b'∧oQ m h b=some b':=by
 obtain⟨h1,h2⟩:=GN ht
 refine⟨by rw [h1]; simp; omega,fun id b hid hb=>?_⟩
 exact h2 id b (by rw [List.getElem?_take,if_pos hid]; exact hb)
theorem zA {b b':mI}(hs:oQ m h b=some b'):(∀G G':Gh,G'.nV=G.nV→G'.cur=G.cur→∀id,Kind G G' id b b')∧(b≠.free→b'≠.free)∧(∀n sz,b=.front n sz→b'=.front n sz) ∧
  ∀(G:Gh) (id:Nat),nQ G id b'=nQ G id b:=by
 cases b with
 | cells cs =>
  simp only [oQ,Option.map_eq_some_iff] at hs
  obtain⟨cs',h1,rfl⟩:=hs
  refine⟨fun G G' e1 e2 id=>⟨(yQ h1).1.symm,by rw [e1],by rw [e2]⟩,by simp,by simp,by simp [nQ]⟩
 | vec t sz cs =>
  simp only [oQ,Option.map_eq_some_iff] at hs
  obtain⟨cs',h1,rfl⟩:=hs
  exact⟨fun G G' e1 e2 id=>by simp [Kind,e1,e2],by simp,by simp,by simp [nQ]⟩
 | map es =>
  simp only [oQ] at hs
  cases ha:es.all (fun e=>e.2.uY m) <;> rw [ha] at hs <;> cases hs
  exact⟨fun G G' e1 e2 id=>by simp [Kind,e1,e2],by simp,by simp,by simp⟩
 | free=>cases hs; exact⟨fun G G' e1 e2 id=>trivial,by simp,by simp,by simp⟩
 | gone=>cases hs; exact⟨fun G G' e1 e2 id=>by simp [Kind,e1,e2],by simp,by simp,by simp⟩
 | front n sz=>cases hs; exact⟨fun G G' e1 e2 id=>by simp [Kind,e1,e2],by simp,by simp,by simp⟩
end
theorem zB {G G1:Gh}{h h1 h2:kU}{w w1:World}(x:Ext G h w G1 h1 w1) (i1:Inv G1 h1 w1) (ht:mS h.length h1=some h2) :
  ∃G2,Inv G2 h2 w1∧Ext G h w G2 h2 w1∧h2.length=h.length∧(∀(v:kS) (V:Value),l_ G1 h1 v V→l_ G2 h2 (v.oL h.length h1) V)∧∀b k v,G1.H b k=some v→G2.H b k=some v:=by
 classical
 have hm:h.length≤h1.length:=by
  by_cases h0:h.length=0
  ·omega
  ·have hlt:h.length - 1 < h.length:=by omega
   obtain⟨bl',hb,_⟩:=x.kinds (h.length - 1) _ (List.getElem?_eq_getElem hlt)
   have:=(List.getElem?_eq_some_iff.1 hb).1
   omega
 let Drop:Nat→Prop:=fun b=>∃id,h.length≤id∧owner G1 h1 id=some b∧((∃cs,h1[id]?=some (.cells cs))∨∃tot sz cs,h1[id]?=some (.vec tot sz cs))
 let G2:Gh:={ G1 with H:=fun b k=>if Drop b then w1.cell? ⟨b,k,none⟩ else G1.H b k }
 have hH:∀b k,G2.H b k=if Drop b then w1.cell? ⟨b,k,none⟩ else G1.H b k:=fun _ _=>rfl
 have dropNone:∀b,Drop b→∀k,G1.H b k=none:=by
  rintro b ⟨id,_,ho,⟨cs,hc⟩ | ⟨tot,sz,cs,hc⟩⟩ k
  ·rw [oD hc] at ho
   obtain⟨C,e,_,_,h3,_⟩:=i1.nV id _ hc
   cases ho; exact h3 k
  ·rw [oD hc] at ho
   obtain⟨b',cap',C,e0,g1,g2,g3,g4,g5,g6,g7,g8,g9⟩:=i1.nV id _ hc
   simp only [nQ,g1,Value.ownBlock,Option.some.injEq] at ho
   subst ho; exact g8 k
 have hmono:∀b k v,G1.H b k=some v→G2.H b k=some v:=by
  intro b k v hv
  rw [hH]
  split
  ·rename_i hd; rw [dropNone b hd k] at hv; cases hv
  ·exact hv
 obtain⟨tl,tb⟩:=Up ht hm
 have back:∀(id:Nat) (b':mI),h2[id]?=some b'→id < h.length∧∃b,h1[id]?=some b∧oQ h.length h1 b=some b':=by
  intro id b' hb'
  have hid:id < h.length:=by rw [←tl]; exact(List.getElem?_eq_some_iff.1 hb').1
  have hlt:id < h1.length:=by omega
  obtain⟨b'',e1,e2⟩:=tb id _ hid (List.getElem?_eq_getElem hlt)
  rw [hb'] at e1; cases e1
  exact⟨hid,_,List.getElem?_eq_getElem hlt,e2⟩
 have l:Left G1 h1 G2 h2 h.length:=by
  refine⟨hmono,rfl,rfl,fun id hid ⟨b,hb,hf⟩=>?_,fun id n sz hid hf=>?_,fun id hid ⟨b,hb,hf,hn⟩=>?_⟩
  ·obtain⟨b',e1,e2⟩:=tb id b hid hb
   exact⟨b',e1,(zA e2).2.1 hf⟩
  ·obtain⟨b',e1,e2⟩:=tb id _ hid hf
   rw [e1,(zA e2).2.2.1 n sz rfl]
  ·obtain⟨b',e1,e2⟩:=tb id b hid hb
   have hk:=(zA e2).1 G1 G1 rfl rfl id
   exact⟨b',e1,(hk.nV hf).1,hk.nf hf hn⟩
 have st:YC G1 h1 w1 G2 h.length:=by
  refine⟨fun id cs hid hc k=>?_,fun id tot sz cs b hid hc ho k=>?_⟩
  ·rw [hH,if_pos ⟨id,hid,by rw [oD hc]; rfl,.inl ⟨cs,hc⟩⟩]
  ·rw [hH,if_pos ⟨id,hid,by rw [oD hc]; exact ho,.inr ⟨tot,sz,cs,hc⟩⟩]
 have own:∀id b,owner G2 h2 id=some b→id < h.length∧owner G1 h1 id=some b:=by
  intro id b ho
  obtain⟨bl,hb,hob⟩:=qE ho
  obtain⟨hid,b0,e1,e2⟩:=back id bl hb
  refine⟨hid,?_⟩
  rw [oD e1,←(zA e2).2.2.2]
  cases bl <;> exact hob
 have noDrop:∀id b,id < h.length→owner G1 h1 id=some b→¬Drop b:=by
  rintro id b hid ho ⟨id',hid',ho',_⟩
  have:=i1.inj id id' _ ho ho'
  omega
 have ext:Ext G h w G2 h2 w1:=by
  refine⟨x.os,x.tape,x.output,x.size,fun b hb hn=>?_,fun b k v hv=>hmono b k v (x.hmono b k v hv),fun id b ho hb=>x.own id b (own id b ho).2 hb,fun id bl hb=>?_⟩
  ·obtain⟨e1,e2⟩:=x.frame b hb hn
   refine⟨e1,fun k=>?_⟩
   rw [hH,if_neg,e2]
   rintro⟨id,hid,ho,_⟩
   exact hn id (x.own id _ ho hb)
  ·obtain⟨bl',e1,e2⟩:=x.kinds id bl hb
   obtain⟨b',e3,e4⟩:=tb id bl' (List.getElem?_eq_some_iff.1 hb).1 e1
   exact⟨b',e3,e2.trans ((zA e4).1 G1 G2 rfl rfl id)⟩
 refine⟨G2,⟨fun b k v hv=>?_,fun id bl hb=>?_,fun a b c ha hb=>i1.inj a b c (own a c ha).2 (own b c hb).2⟩,ext,tl,fun v V r=>ai7 i1 l st r,hmono⟩
 ·rw [hH] at hv
  split at hv
  ·exact hv
  ·exact i1.ok b k v hv
 ·obtain⟨hid,b0,e1,e2⟩:=back id bl hb
  have hk:=i1.nV id b0 e1
  have keepH:∀b,owner G1 h1 id=some b→∀k,G2.H b k=G1.H b k:=fun b ho k=>by rw [hH,if_neg (noDrop id b hid ho)]
  cases b0 with
  | free=>cases e2; trivial
  | gone=>cases e2; trivial
  | cells cs =>
   simp only [oQ,Option.map_eq_some_iff] at e2
   obtain⟨cs',e3,rfl⟩:=e2
   obtain⟨C,e,g1,g2,g3,g4⟩:=hk
   obtain⟨s1,s2⟩:=yQ e3
   refine⟨C,e,g1,by rw [s1]; exact g2,fun k=>by rw [show G2.nV id=G1.nV id from rfl,keepH _ (by rw [oD e1]; rfl)]; exact g3 k,fun j v hv=>?_⟩
   obtain⟨k1,c0,k2,rfl⟩:=s2 j v hv
   exact⟨k1,LG i1 l st (g4 j c0 k2).2⟩
  | vec tot sz cs =>
   simp only [oQ,Option.map_eq_some_iff] at e2
   obtain⟨cs',e3,rfl⟩:=e2
   obtain⟨b',cap',C,e0,g1,g2,g3,g4,g5,g6,g7,g8,g9⟩:=hk
   obtain⟨s1,s2⟩:=yQ e3
   refine⟨b',cap',C,e0,g1,g2,g3,g4,g5,g6,by rw [s1]; exact g7,fun k=>by rw [keepH b' (by rw [oD e1]; simp [nQ,g1,Value.ownBlock])]; exact g8 k,fun j v hv=>?_⟩
   obtain⟨k1,c0,k2,rfl⟩:=s2 j v hv
   exact⟨k1,LG i1 l st (g9 j c0 k2).2⟩
  | map es =>
   simp only [oQ] at e2
   cases ha:es.all (fun e=>e.2.uY h.length) <;> rw [ha] at e2 <;> cases e2
   simp only [List.all_eq_true] at ha
   obtain⟨E,clock,g1,g2,g3,g4,hst⟩:=hk
   refine⟨E,clock,g1,g2,fun k=>by rw [show G2.nV id=G1.nV id from rfl,keepH _ (by rw [oD e1]; rfl)]; exact g3 k,fun j kv hkv=>?_,hst⟩
   obtain⟨mm,k1,k2,k3,k4⟩:=g4 j kv hkv
   exact⟨mm,k1,k2,k3.mono hmono,yE l (ha kv (List.mem_of_getElem? hkv)) k4⟩
  | front n sz =>
   cases e2
   rcases hk with ⟨k1,k2⟩ | ⟨b,cap,C,e,k1,k2,k3,k4,k5,k6,k7⟩
   ·exact .inl ⟨k1,k2⟩
   ·exact .inr ⟨b,cap,C,e,k1,k2,k3,k4,k5,k6,fun k hk=>by rw [keepH b (by rw [oD e1]; simp [nQ,k1,Value.ownBlock])]; exact k7 k hk⟩
end Hk


namespace Hk
open Go Go.RowKit
theorem zR (L:Nat) (f:kS→kS):∀(ρ pre:List kS) (i:Nat),(unpackFrom L (pre++(vW L i ρ).map f) ρ.length i pre.length).length=ρ.length ∧
  ∀(j:Nat) (v:kS),(unpackFrom L (pre++(vW L i ρ).map f) ρ.length i pre.length)[j]?=some v→v=.junk∨∃u,ρ[j]?=some u∧v=f u
 | [],pre,i=>by simp [unpackFrom]
 | u::r,pre,i=>by
  cases hb:L.testBit i with
  | true =>
   obtain⟨h1,h2⟩:=zR L f r (pre++[f u]) (i+1)
   have e1:pre++(vW L i (u::r)).map f=(pre++[f u])++(vW L (i+1) r).map f:=by simp [vW,hb]
   have e2:(pre++[f u]).length=pre.length+1:=by simp
   rw [e2] at h1 h2
   have e3:((pre++[f u])++(vW L (i+1) r).map f).getD pre.length .junk=f u:=by simp [List.getD_eq_getElem?_getD]
   rw [e1]
   simp only [List.length_cons,unpackFrom,hb,cond_true,e3]
   refine⟨by rw [h1],fun j v hv=>?_⟩
   cases j with
   | zero=>simp at hv; exact .inr ⟨u,rfl,hv.symm⟩
   | succ j=>simpa using h2 j v (by simpa using hv)
  | false =>
   obtain⟨h1,h2⟩:=zR L f r pre (i+1)
   simp only [vW,List.length_cons,unpackFrom,hb,cond_false,List.length_cons]
   refine⟨by rw [h1],fun j v hv=>?_⟩
   cases j with
   | zero=>simp at hv; exact .inl hv.symm
   | succ j=>simpa using h2 j v (by simpa using hv)
theorem Bh (L:Nat) (x:List kS):∀(n i j:Nat),(unpackFrom L x n i j).length=n
 | 0,_,_=>rfl
 | n+1,i,j=>by unfold unpackFrom; cases L.testBit i <;> simp [Bh L x n]
theorem qB (n L:Nat) (x:List kS):(unpack n L x).length=n:=Bh L x n 0 0
theorem L_ {n L:Nat}{ρ:List kS}(f:kS→kS) (hn:ρ.length=n) (j:Nat) (v:kS) (hv:(unpack n L ((pack L ρ).map f))[j]?=some v):v=.junk∨∃u,ρ[j]?=some u∧v=f u:=by
 subst hn
 have:=(zR L f ρ [] 0).2 j v
 simpa [unpack,pack] using this (by simpa [unpack,pack] using hv)
section
variable {J:Act→Prop}{cx:Cx}{ρ:List kS}{h:kU}{kn:List kS→kU→Option R}{ke:Ex→List kS→kU→Option R}{r:R}{G:Gh}{w:World}{a:Act}{Q:Exit→Act→World→Prop}{n L:Nat}
theorem pE.Ig {G':Gh}{h':kU}(s:pE J G h ρ a) (hn:ρ.length=n) (f:kS→kS) (hf:∀v V,l_ G h v V→l_ G' h' (f v) V):pE J G' h' (unpack n L ((pack L ρ).map f)) a:=by
 refine⟨by rw [qB,←hn,s.len],fun j v hv=>?_,s.df⟩
 rcases L_ f hn j v hv with rfl | ⟨u,hu,rfl⟩
 ·exact .p _ _ (.junk _)
 ·exact hf u _ (s.rel j u hu)
theorem pE.pack (s:pE J G h ρ a) (hn:ρ.length=n):pE J G h (unpack n L (pack L ρ)) a:=by
 have:=s.Ig (L:=L) hn id fun _ _ r=>r
 simpa using this
theorem uL.trans {G':Gh}{h':kU}{w':World}(p:uL J n kn ke r G h w Q) (x:Ext G h w G' h' w'):uL J n kn ke r G' h' w' Q :=
 ⟨fun ρ' h'' G'' w'' a' h1 h2 h3 h4=>p.1 ρ' h'' G'' w'' a' h1 (x.trans h2) h3 h4,fun e ρ' h'' G'' w'' a' h1 h2 h3 h4=>p.2.1 e ρ' h'' G'' w'' a' h1 (x.trans h2) h3 h4,
  fun v ρ' h'' G'' w'' a' V h1 h2 h3 h4 h5=>p.2.2 v ρ' h'' G'' w'' a' V h1 (x.trans h2) h3 h4 h5⟩
theorem uL.pack {r0:R}(hn:r0.1=.normal→kn (unpack n L r0.2.1) r0.2.2=some r) (he:∀e,r0.1=e→e≠.normal→ke e (unpack n L r0.2.1) r0.2.2=some r) (p:uL J n kn ke r G h w Q) :
  uL J n (I0 L) (IZ L) r0 G h w Q:=by
 refine⟨fun ρ' h' G' w' a' h1 h2 h3 h4 h5=>?_,fun e ρ' h' G' w' a' h1 h2 h3 h4 h5=>?_,fun v ρ' h' G' w' a' V h1 h2 h3 h4 h5=>?_⟩
 ·cases h1
  exact p.1 _ h' G' w' a' (hn rfl) h2 h3 (h4.pack h5) (qB _ _ _)
 ·cases h1
  cases e with
  | exit id=>exact p.2.1 (.exit id) _ h' G' w' a' (he _ rfl (by simp)) h2 h3 (h4.pack h5) (qB _ _ _)
  | ret=>exact p.2.1 .ret _ h' G' w' a' (he _ rfl (by simp)) h2 h3 (h4.pack h5) (qB _ _ _)
  | _=>trivial
 ·cases h1
  exact p.2.2 v _ h' G' w' a' V (he _ rfl (by simp)) h2 h3 h4 h5
theorem uL.alO {j:Bool}{r0:R}(hn:r0.1=.normal→kn (unpack n L r0.2.1) r0.2.2=some r) (he:∀e,r0.1=e→e≠.normal→ke e (unpack n L r0.2.1) r0.2.2=some r) (p:uL J n kn ke r G h w Q) :
  uL J n (ES j h.length L .normal) (ES j h.length L) r0 G h w Q:=by
 cases j with
 | false=>exact uL.pack hn he p
 | true =>
  refine⟨fun ρ' h' G' w' a' h1 h2 h3 h4 h5=>?_,fun e ρ' h' G' w' a' h1 h2 h3 h4 h5=>?_,fun v ρ' h' G' w' a' V h1 h2 h3 h4 h5=>?_⟩
  all_goals
   unfold ES lJ at h1
   simp only [Option.map_eq_some_iff] at h1
   obtain⟨h9,ht,rfl⟩:=h1
   obtain⟨G3,i3,x3,hlen3,hrel,_⟩:=zB h2 h3 ht
  ·exact p.1 _ h9 G3 w' a' (hn rfl) x3 i3 (h4.Ig h5 _ hrel) (qB _ _ _)
  ·cases e with
   | exit id=>exact p.2.1 (.exit id) _ h9 G3 w' a' (he _ rfl (by simp [Ex.oL])) x3 i3 (h4.Ig h5 _ hrel) (qB _ _ _)
   | ret=>exact p.2.1 .ret _ h9 G3 w' a' (he _ rfl (by simp [Ex.oL])) x3 i3 (h4.Ig h5 _ hrel) (qB _ _ _)
   | _=>trivial
  ·exact p.2.2 _ _ h9 G3 w' a' V (he _ rfl (by simp [Ex.oL])) x3 i3 (hrel _ _ h4) h5
theorem uL.inBlock {id:Nat}(p:uL J n kn ke r G h w Q):uL J n kn (fun e ρ' h'=>e.inBlock id (kn ρ' h') fun e=>ke e ρ' h') r G h w (Exit.inBlock id Q):=by
 refine⟨p.1,fun e ρ' h' G' w' a' h1 h2 h3 h4 h5=>?_,fun v ρ' h' G' w' a' V h1 h2 h3 h4 h5=>p.2.2 v ρ' h' G' w' a' V h1 h2 h3 h4 h5⟩
 cases e with
 | exit j =>
  simp only [Ex.inBlock] at h1
  simp only [Exit.inBlock]
  cases hj:j == id with
  | true =>
   rw [hj] at h1
   rw [if_pos (by simpa using hj)]
   exact p.1 ρ' h' G' w' a' h1 h2 h3 h4 h5
  | false =>
   rw [hj] at h1
   rw [if_neg (by simpa using hj)]
   exact p.2.1 (.exit j) ρ' h' G' w' a' h1 h2 h3 h4 h5
 | ret=>exact p.2.1 .ret ρ' h' G' w' a' h1 h2 h3 h4 h5
 | _=>trivial
def Qa (lp:(List kS×kU→Option R)→List kS×kU→Option R):Prop:=∀F s r,lp F s=some r→∃n,sI n F s=some r
theorem Si {v:kS}{t e:Option R}(hb:lP v t e=some r):∃b,v=.bool b∧(if b then t else e)=some r:=by
 unfold lP at hb
 split at hb
 ·rename_i b; exact⟨b,rfl,by cases b <;> exact hb⟩
 ·cases hb
def JOk (J:Act→Prop):Code→Prop
 | .region _ ops _=>RZ J ops.toList
 | .seq a b=>JOk J a∧JOk J b
 | .cond _ a b=>JOk J a∧JOk J b
 | .block _ c=>JOk J c
 | .loop c=>JOk J c
 | .scope c=>JOk J c
 | _=>True
theorem uL.scope (p:uL J n kn ke r G h w Q):uL J n kn ke r G h w (Exit.noGoto Q):=by
 refine⟨fun ρ' h' G' w' a' h1 h2 h3 h4 h5=>p.1 ρ' h' G' w' a' h1 h2 h3 h4 h5,fun e ρ' h' G' w' a' h1 h2 h3 h4 h5=>?_,fun v ρ' h' G' w' a' V h1 h2 h3 h4 h5=>p.2.2 v ρ' h' G' w' a' V h1 h2 h3 h4 h5⟩
 have:=p.2.1 e ρ' h' G' w' a' h1 h2 h3 h4 h5
 cases e <;> first | exact this | trivial
theorem wY (hm:cx.P.follows .mixedOrders=true) (hX:vR cx.P cx.A) (hK:sQ cx.P cx.A cx.K) (hlp:Qa cx.lp):∀(c:Code) (L:Nat) (ρ:List kS) (h:kU) (kn:List kS→kU→Option R) (ke:Ex→List kS→kU→Option R) (r:R) (G:Gh) (w:World) (a:Act) (Q:Exit→Act→World→Prop),JOk J c →
  evalCode cx c L ρ h kn ke=some r→Inv G h w→sG cx.A G.H→pE J G h ρ a→ρ.length=cx.n→uL J cx.n kn ke r G h w Q→c.wp cx.P Q a w:=by
 intro c
 induction c with
 | skip =>
  intro L ρ h kn ke r G w a Q hJ hb i gl s hn hk
  exact wp_skip (hk.1 ρ h G w a hb (Ext.refl G h w) i s hn)
 | region id ops draw =>
  intro L ρ h kn ke r G w a Q hJ hb i gl s hn hk
  refine Hf hJ hm hX hK hb i gl s hn hk.1 fun v h' G' w' a' V e1 e2 e3 e4 e5=>?_
  cases hp:cx.pan with
  | true=>rw [hp] at e1; exact hk.2.2 v ρ h' G' w' a' V e1 e2 e3 e4 e5
  | false=>rw [hp] at e1; cases e1
 | seq x y ihx ihy =>
  intro L ρ h kn ke r G w a Q hJ hb i gl s hn hk
  refine wp_seq (ihx _ ρ h _ _ r G w a _ hJ.1 hb i gl s hn ⟨fun ρ' h' G' w' a' h1 h2 h3 h4 h5=>?_,fun e ρ' h' G' w' a' h1 h2 h3 h4 h5=>?_,fun v ρ' h' G' w' a' V h1 h2 h3 h4 h5=>hk.2.2 v ρ' h' G' w' a' V h1 h2 h3 h4 h5⟩)
  ·exact ihy L ρ' h' kn ke r G' w' a' Q hJ.2 h1 h3 (gl.mono h2.hmono) h4 h5 (hk.trans h2)
  ·have:=hk.2.1 e ρ' h' G' w' a' h1 h2 h3 h4 h5
   cases e <;> first | exact this | trivial
 | cond c x y ihx ihy =>
  intro L ρ h kn ke r G w a Q hJ hb i gl s hn hk
  have fin:∀{v:kS}{t e:Option R}{r:R}{kn:List kS→kU→Option R}{ke:Ex→List kS→kU→Option R},v=sB cx.A ρ c→lP v t e=some r→t=evalCode cx x L ρ h kn ke→e=evalCode cx y L ρ h kn ke→uL J cx.n kn ke r G h w Q→(Code.cond c x y).wp cx.P Q a w:=by
   intro v t e r kn ke hv hc ht he hk
   obtain⟨b,rfl,hb⟩:=Si hc
   have hcv:=(hv ▸ s.eval gl c).wW
   subst ht; subst he
   refine wp_cond hcv ?_
   cases b with
   | true=>exact ihx L ρ h kn ke r G w a Q hJ.1 hb i gl s hn hk
   | false=>exact ihy L ρ h kn ke r G w a Q hJ.2 hb i gl s hn hk
  simp only [evalCode] at hb
  cases hf:wJ x && wJ y with
  | true =>
   rw [hf] at hb
   simp only [cond_true] at hb
   obtain⟨r0,hr0,hk0⟩:=Option.bind_eq_some_iff.1 hb
   refine fin rfl hr0 rfl rfl (.alO (fun he=>?_) (fun e he hne=>?_) hk)
   ·rw [he] at hk0
    cases hl:cx.pan || (leaves [] x || leaves [] y) <;> rw [hl] at hk0 <;> exact hk0
   ·rw [he] at hk0
    cases hl:cx.pan || (leaves [] x || leaves [] y) <;> rw [hl] at hk0
    ·cases e <;> first | exact absurd rfl hne | cases hk0
    ·cases e <;> first | exact absurd rfl hne | exact hk0
  | false =>
   rw [hf] at hb
   exact fin rfl hb rfl rfl hk
 | block id c ih =>
  intro L ρ h kn ke r G w a Q hJ hb i gl s hn hk
  refine wp_block ?_
  simp only [evalCode] at hb
  cases hf:decide (2≤Bv id c+bif wJ c then 1 else 0) with
  | true =>
   rw [hf] at hb
   simp only [cond_true] at hb
   obtain⟨r0,hr0,hk0⟩:=Option.bind_eq_some_iff.1 hb
   refine ih L ρ h _ _ r0 G w a _ hJ hr0 i gl s hn (.alO (fun he=>?_) (fun e he hne=>?_) (hk.inBlock (id:=id)))
   ·rw [he] at hk0; exact hk0
   ·rw [he] at hk0; exact hk0
  | false =>
   rw [hf] at hb
   exact ih L ρ h _ _ r G w a _ hJ hb i gl s hn hk.inBlock
 | scope c ih =>
  intro L ρ h kn ke r G w a Q hJ hb i gl s hn hk
  exact wp_scope_straight (ih L ρ h kn ke r G w a _ hJ hb i gl s hn hk.scope)
 | label l =>
  intro L ρ h kn ke r G w a Q hJ hb i gl s hn hk
  exact wp_label (hk.1 ρ h G w a hb (Ext.refl G h w) i s hn)
 | loop c ih =>
  intro L ρ h kn ke r G w a Q hJ hb i gl s hn hk
  simp only [evalCode] at hb
  obtain⟨r0,hr0,hk0⟩:=Option.bind_eq_some_iff.1 hb
  obtain⟨n,hloop⟩:=hlp _ _ _ hr0
  refine wp_loop_rounds n ?_
  have key:∀(n:Nat) (G':Gh) (h':kU) (w':World) (a':Act) (x:List kS),sI n (fun s=>evalCode cx c (L ||| ue cx.full c) (unpack cx.n (L ||| ue cx.full c) s.1) s.2 (Dr cx.lkp h.length (L ||| ue cx.full c) .normal) (Dr cx.lkp h.length (L ||| ue cx.full c))) (x,h')=some r0→(cx.lkp=true∨h'.length=h.length) →
    Ext G h w G' h' w'→Inv G' h' w'→pE J G' h' (unpack cx.n (L ||| ue cx.full c) x) a'→Code.rounds cx.P c Q n a' w':=by
   intro n
   induction n with
   | zero=>intro G' h' w' a' x hl; simp [sI] at hl
   | succ n ihn =>
    intro G' h' w' a' x hl hlen x1 i1 s1
    simp only [sI] at hl
    obtain⟨r1,hr1,hl⟩:=Option.bind_eq_some_iff.1 hl
    rw [rounds_succ]
    have round:∀(e:Ex) (ρ':List kS) (h'':kU) (G2:Gh) (w2:World) (a2:Act),Dr cx.lkp h.length (L ||| ue cx.full c) e ρ' h''=some r1→Ext G' h' w' G2 h'' w2→Inv G2 h'' w2→pE J G2 h'' ρ' a2→ρ'.length=cx.n →
      ∃G3 h3 f e3,r1=(e3,(pack (L ||| ue cx.full c) ρ').map f,h3)∧Inv G3 h3 w2∧Ext G' h' w' G3 h3 w2∧(cx.lkp=true∨h3.length=h.length)∧(∀v V,l_ G2 h'' v V→l_ G3 h3 (f v) V) ∧
       (e=.normal→e3=.normal)∧(∀id,e=.exit id→e3=.exit id)∧(e=.ret→e3=.ret):=by
     intro e ρ' h'' G2 w2 a2 e1 e2 e3 e4 e5
     cases hlk:cx.lkp with
     | true =>
      rw [hlk] at e1
      simp only [Dr,Option.some.injEq] at e1
      exact⟨G2,h'',id,e,by rw [←e1]; simp,e3,e2,.inl rfl,fun _ _ h=>h,fun h=>h,fun _ h=>h,fun h=>h⟩
     | false =>
      have hlen:h'.length=h.length:=by
       rcases hlen with h1 | h1
       ·rw [hlk] at h1; cases h1
       ·exact h1
      rw [hlk] at e1
      simp only [Dr] at e1
      unfold endRound lJ at e1
      simp only [Option.map_eq_some_iff] at e1
      obtain⟨h3,ht,rfl⟩:=e1
      rw [←hlen] at ht
      obtain⟨G3,i3,x3,hlen3,hrel,_⟩:=zB e2 e3 ht
      rw [hlen] at hrel
      exact⟨G3,h3,(·.oL h.length h''),e.oL h.length h'',rfl,i3,x3,.inr (hlen3.trans hlen),hrel,fun h=>by rw [h]; rfl,fun _ h=>by rw [h]; rfl,fun h=>by rw [h]; rfl⟩
    refine ih _ _ h' _ _ r1 G' w' a' _ hJ hr1 i1 (gl.mono x1.hmono) s1 (qB _ _ _) ⟨fun ρ' h'' G2 w2 a2 e1 e2 e3 e4 e5=>?_,fun e ρ' h'' G2 w2 a2 e1 e2 e3 e4 e5=>?_,fun v ρ' h'' G2 w2 a2 V e1 e2 e3 e4 e5=>?_⟩
    ·obtain⟨G3,h3,f,ee,rfl,i3,x3,hl3,hrel,q1,_,_⟩:=round _ _ _ _ _ _ e1 e2 e3 e4 e5
     obtain rfl:=q1 rfl
     exact ihn G3 h3 w2 a2 _ hl hl3 (x1.trans x3) i3 (e4.Ig e5 _ hrel)
    ·obtain⟨G3,h3,f,ee,rfl,i3,x3,hl3,hrel,_,q2,q3⟩:=round _ _ _ _ _ _ e1 e2 e3 e4 e5
     have s3:=e4.Ig (L:=L ||| ue cx.full c) e5 _ hrel
     cases e with
     | exit id =>
      obtain rfl:=q2 id rfl
      simp only [Ex.mC,Option.some.injEq] at hl
      subst hl
      exact hk.2.1 (.exit id) _ h3 G3 w2 a2 hk0 (x1.trans x3) i3 s3 (qB _ _ _)
     | ret =>
      obtain rfl:=q3 rfl
      simp only [Ex.mC,Option.some.injEq] at hl
      subst hl
      exact hk.2.1 .ret _ h3 G3 w2 a2 hk0 (x1.trans x3) i3 s3 (qB _ _ _)
     | _=>trivial
    ·cases hlk:cx.lkp with
     | true =>
      rw [hlk] at e1
      simp only [Dr,Option.some.injEq] at e1
      subst e1
      simp only [Ex.mC,Option.some.injEq] at hl
      subst hl
      exact hk.2.2 _ _ _ G2 w2 a2 V hk0 (x1.trans e2) e3 e4 e5
     | false =>
      have hlen:h'.length=h.length:=by
       rcases hlen with h1 | h1
       ·rw [hlk] at h1; cases h1
       ·exact h1
      rw [hlk] at e1
      simp only [Dr] at e1
      unfold endRound lJ at e1
      simp only [Option.map_eq_some_iff] at e1
      obtain⟨h3,ht,rfl⟩:=e1
      rw [←hlen] at ht
      obtain⟨G3,i3,x3,hlen3,hrel,_⟩:=zB e2 e3 ht
      rw [hlen] at hrel
      simp only [Ex.oL,Ex.mC,Option.some.injEq] at hl
      subst hl
      exact hk.2.2 _ _ h3 G3 w2 a2 V hk0 (x1.trans x3) i3 (hrel _ _ e4) e5
  exact key n G h w a _ hloop (.inr rfl) (Ext.refl G h w) i (s.pack hn)
 | exit id =>
  intro L ρ h kn ke r G w a Q hJ hb i gl s hn hk
  exact wp_exit (hk.2.1 (.exit id) ρ h G w a hb (Ext.refl G h w) i s hn)
 | ret =>
  intro L ρ h kn ke r G w a Q hJ hb i gl s hn hk
  exact wp_ret (hk.2.1 .ret ρ h G w a hb (Ext.refl G h w) i s hn)
 | _=>intro L ρ h kn ke r G w a Q _ hb; simp [evalCode] at hb
theorem Mp {P:Program}{x:ResultVar}{v:kS}(hb:z7 P ρ h x=some v) (i:Inv G h w) (s:pE J G h ρ a) :
  ∃V,(match x with | .tmp t=>(pure (a.tmps.getD t undef):Sem Value) | .cell b t=>do loadVar t (←asAddr (a.tmps.getD b undef))).run P w=.ok V w∧l_ G h v V:=by
 cases x with
 | tmp t=>simp only [z7,Option.some.injEq] at hb; subst hb; exact⟨_,Sem.run_pure ..,s.get t⟩
 | cell b t =>
  simp only [z7] at hb
  split at hb
  ·rename_i g n hg hn
   have hx:=s.get b
   obtain⟨V,h1,h2⟩:=IF (P:=P) hg hn i hb hx
   refine⟨V,?_,h2⟩
   have:∃A,a.tmps.getD b undef=.pointer (some A):=by
    generalize ρ.getD b .junk=x at hb hx
    generalize a.tmps.getD b undef=X at hx
    unfold kW at hb
    split at hb
    ·have hp:=hx.DG
     cases hp with | pptr cs b off F=>exact⟨_,rfl⟩
    ·obtain⟨rfl,_⟩:=hx.Ai; exact⟨_,rfl⟩
    ·obtain⟨_,rfl,_⟩:=hx.DX; exact⟨_,rfl⟩
    ·cases hb
   obtain⟨A,hA⟩:=this
   rw [hA] at h1
   dsimp only
   rw [hA]
   simpa [Instr.loadAt,Instr.sureAddr,asAddr] using h1
  ·cases hb
theorem Bx {P:Program}{fn:Func}{vs:List kS}(hb:fn.results.toList.mapM (z7 P ρ h)=some vs) (i:Inv G h w) (s:pE J G h ρ a) :
  ∃V,(results fn a.tmps).run P w=.ok V w∧l_ G h (oneOf vs) V:=by
 have key:∀(l:List ResultVar) (vs:List kS),l.mapM (z7 P ρ h)=some vs→∃Vs:List Value,(l.mapM (fun x:ResultVar=>match x with | .tmp t=>(pure (a.tmps.getD t undef):Sem Value) | .cell b t=>do loadVar t (←asAddr (a.tmps.getD b undef)))).run P w=.ok Vs w ∧
   vs.length=Vs.length∧∀(j:Nat) (v:kS),vs[j]?=some v→l_ G h v (Vs.getD j undef):=by
  intro l
  induction l with
  | nil=>intro vs hv; simp at hv; subst hv; exact⟨[],by simp [Sem.run_pure],rfl,by simp⟩
  | cons x l ih =>
   intro vs hv
   simp only [List.mapM_cons,Option.bind_eq_bind,Option.bind_eq_some_iff] at hv
   obtain⟨v,hv1,us,hus,hv⟩:=hv
   simp only [Option.pure_def,Option.some.injEq] at hv; subst hv
   obtain⟨V,h1,h2⟩:=Mp hv1 i s
   obtain⟨Vs,h3,h4,h5⟩:=ih us hus
   refine⟨V::Vs,?_,by simp [h4],fun j u hu=>?_⟩
   ·simp only [List.mapM_cons,Sem.run_bind,h1,Result.andThen_ok,h3,Sem.run_pure]
   ·cases j with
    | zero=>simp at hu; subst hu; exact h2
    | succ j=>simpa using h5 j u (by simpa using hu)
 obtain⟨Vs,h1,h2,h3⟩:=key _ _ hb
 have h4:(fn.results.mapM (fun x:ResultVar=>match x with | .tmp t=>(pure (a.tmps.getD t undef):Sem Value) | .cell b t=>do loadVar t (←asAddr (a.tmps.getD b undef)))).run P w=.ok Vs.toArray w:=by
  rw [Array.mapM_eq_mapM_toList,map_eq_pure_bind]
  simp only [Sem.run_bind,h1,Result.andThen_ok,Sem.run_pure]
 refine⟨if h:Vs.toArray.size=1 then Vs.toArray[0] else .tuple Vs.toArray,?_,?_⟩
 ·have e:results fn a.tmps=(fn.results.mapM (fun x:ResultVar=>match x with | .tmp t=>(pure (a.tmps.getD t undef):Sem Value) | .cell b t=>do loadVar t (←asAddr (a.tmps.getD b undef)))).bind fun vs=>(pure (if h:vs.size=1 then vs[0] else .tuple vs):Sem Value):=rfl
  rw [e]
  show(Bind.bind _ _:Sem Value).run P w=_
  rw [Sem.run_bind,h4,Result.andThen_ok,Sem.run_pure]
 ·match vs,Vs,h2,h3 with
  | [v],[V],_,h3=>simpa [oneOf] using h3 0 v rfl
  | [],[],_,_=>exact l_.undef
  | u::v::vs,U::V::Vs,h2,h3 =>
   have:oneOf (u::v::vs)=.tuple (u::v::vs):=rfl
   rw [this]
   simp only [List.size_toArray,List.length_cons,Nat.add_eq_right,Nat.add_one_ne_zero,reduceDIte]
   refine .tuple _ _ (by simpa using h2) fun j x hx=>?_
   have:=h3 j x hx
   rw [List.getD_eq_getElem?_getD] at this
   rwa [Array.getD_eq_getD_getElem?,List.getElem?_toArray]
  | [],_::_,h2,_=>simp at h2
  | _::_,[],h2,_=>simp at h2
  | [_],_::_::_,h2,_=>simp at h2
  | _::_::_,[_],h2,_=>simp at h2
end
end Hk


namespace Hk
open Go Go.RowKit
section
variable {cx:Cx}{ops:Array Oper}{h:kU}{G:Gh}{w:World}{a:Act}{r:R}
def JD (L:Nat) (a0:Act) (a:Act):Prop:=a.defers=a0.defers∧a.tmps.size=a0.tmps.size∧∀t,L.testBit t=true→a.tmps.getD t undef=a0.tmps.getD t undef
theorem JD.put {L:Nat}{a0:Act}{dst:Option Tmp}{V:Value}(h:JD L a0 a) (hd:∀d,dst=some d→L.testBit d=false):JD L a0 (a.put dst V):=by
 cases dst with
 | none=>exact h
 | some d =>
  refine⟨h.1,by simpa [Act.put] using h.2.1,fun t ht=>?_⟩
  rw [←h.2.2 t ht]
  have hne:d≠t:=by
   rintro rfl
   rw [hd d rfl] at ht; cases ht
  simp [Act.put,Array.getD_eq_getD_getElem?,Array.getElem?_setIfInBounds,hne]
theorem yA {L:Nat}{a0:Act}:∀{b:Code},DC L b=true→JOk (JD L a0) b
 | .region _ ops _,hb=>by
  simp only [DC,List.all_eq_true] at hb
  intro o ho a V hj
  refine hj.put fun d hd=>?_
  have:=hb o ho
  rw [hd] at this
  simpa using this
 | .seq x y,hb=>by
  simp only [DC,Bool.and_eq_true] at hb
  exact⟨yA hb.1,yA hb.2⟩
 | .cond _ x y,hb=>by
  simp only [DC,Bool.and_eq_true] at hb
  exact⟨yA hb.1,yA hb.2⟩
 | .block _ c,hb=>yA (b:=c) hb
 | .loop c,hb=>yA (b:=c) hb
 | .skip,_=>trivial
 | .exit _,_=>trivial
 | .ret,_=>trivial
 | .scope _,hb=>by simp [DC] at hb
 | .label _,_=>trivial
 | .goto _,_=>trivial
 | .refuse _,_=>trivial
 | .rangeFunc ..,_=>trivial
theorem tB {D:List Deferred}:∀c:Code,JOk (fun a=>a.defers=D) c
 | .region _ ops _=>fun o _ a V h=>by cases o.dst <;> exact h
 | .seq a b=>⟨tB a,tB b⟩
 | .cond _ a b=>⟨tB a,tB b⟩
 | .block _ c=>tB c
 | .loop c=>tB c
 | .scope c=>tB c
 | .skip | .exit _ | .ret=>trivial
 | .label _ | .goto _ | .refuse _ | .rangeFunc ..=>trivial
theorem DK {args:List kS}{X:Array Value}{n:Nat}(hx:BI G h args X) (hn:args.length≤n) :
  pE (fun a=>a.defers=[]) G h (args++List.replicate (n - args.length) (.tuple [])) { tmps:=X++Array.replicate (n - X.size) undef,defers:=[] }:=by
 refine⟨by simp [hx.1],fun j v hv=>?_,rfl⟩
 have hs:=hx.1
 simp only [Array.getD_eq_getD_getElem?]
 by_cases hj:j < args.length
 ·rw [List.getElem?_append_left hj] at hv
  rw [Array.getElem?_append_left (by omega)]
  have:=hx.2 j v hv
  rwa [Array.getD_eq_getD_getElem?] at this
 ·rw [List.getElem?_append_right (by omega)] at hv
  rw [Array.getElem?_append_right (by omega)]
  rw [List.getElem?_replicate] at hv
  split at hv
  ·cases hv
   rename_i hlt
   rw [Array.getElem?_replicate,if_pos (by omega)]
   exact .undef
  ·cases hv
theorem Iz {P:Program}{Q:Exit→Act→List Frame→World→Prop}{cs:List Frame}(hno:∀a w,¬Q .outgrown a cs w):∀(l:List Nat) (a:Act) (w:World),
  wpOps P ops (fun e a w=>Q e a cs w) l a w→wpOpsS P ops Q l a cs w
 | [],a,w,h=>h
 | i::rest,a,w,h=>by
  have ih:=Iz (P:=P) (Q:=Q) (cs:=cs) hno rest
  simp only [wpOps,wpOpsS] at h ⊢
  cases ho:ops[i]? with
  | none=>simp only [ho] at h ⊢; exact ih a w h
  | some o =>
   simp only [ho] at h ⊢
   by_cases hw:Region.wanted o (yielded ops a.tmps)=true
   ·simp only [hw,if_true] at h ⊢
    rcases h with h | ⟨_,x,y,hl⟩
    ·have h':o.upon P a (fun a' w'=>wpOpsS P ops Q rest a' cs w') (fun e a' w'=>Q e a' cs w') ((execOp a.eval o).run P w):=Oper.wp_mono (fun a w=>ih a w) h
     split
     ·rename_i w' hr
      rw [hr] at h'
      exact h'.elim
     ·exact h'
    ·exact absurd hl (hno _ _)
   ·simp only [hw,if_false,Bool.false_eq_true] at h ⊢
    exact ih _ _ h
def B4:Option Value→FrameMode
 | none=>.returning
 | some V=>.panicking [{ v:=V,recovered:=true }]
def He:Option Value→FrameMode
 | none=>.returning
 | some V=>.panicking [{ v:=V,recovered:=false }]
def UL (G:Gh) (h:kU) (w:World) (h':kU) (PV:Option Value) (e:Ending) (u':FrameMode) (w':World):Prop :=
 (∃v,e=.returned v)∧u'=B4 PV∧∃G',Ext G h w G' h' w'∧Inv G' h' w'
theorem Mw {g:Nat}{caps:List kS}{pv:Option kS}{PV:Option Value}{h':kU}{X:Array Value}(hm:cx.P.follows .mixedOrders=true) (hX:vR cx.P cx.A) (hK:sQ cx.P cx.A cx.K) (hlp:Qa cx.lp)
  (hb:v_ cx g caps pv h=some h') (i:Inv G h w) (gl:sG cx.A G.H) (hx:BI G h caps X) (hpv:∀v,pv=some v→∃V,PV=some V∧l_ G h v V) (hpn:pv=none→PV=none) :
  (∀w,(callFunc g X).run cx.P w=.ok (.enter g X) w) ∧
  CallsD cx.P g X (He PV) w (UL G h w h' PV):=by
 unfold v_ at hb
 cases hf:cx.P.funcs[g]? with
 | none=>rw [hf] at hb; cases hb
 | some fn =>
  simp only [hf] at hb
  split at hb
  ·rename_i id ops c hbody
   split at hb
   ·rename_i o os hops
    cases hc:(Ek o && decide (caps.length≤fn.ntmps) && fn.results.isEmpty && !(fn.name == "runtime.NumGoroutine")) with
    | false=>rw [hc] at hb; cases hb
    | true =>
     rw [hc] at hb
     simp only [Bool.and_eq_true,decide_eq_true_eq,Bool.not_eq_true'] at hc
     obtain⟨⟨⟨hrec,hcl⟩,hres⟩,hnm⟩:=hc
     have hne:¬fn.name = "runtime.NumGoroutine" := by simpa using hnm
     refine⟨fun w=>by simp [callFunc,Sem.run_bind,hf,hbody,hne,Sem.run_pure],?_⟩
     simp only [cond_true] at hb
     obtain⟨r0,hr0,hend⟩:=Option.bind_eq_some_iff.1 hb
     refine callsD_of_wpS hf hbody fun c₀ cs hu=>?_
     have h0:ops[0]?=some o:=by rw [←Array.getElem?_toList,hops]; rfl
     unfold Ek at hrec
     simp only [Bool.and_eq_true,Option.isNone_iff_eq_none] at hrec
     obtain⟨hgu,hrec⟩:=hrec
     obtain⟨cl,hop,hcal⟩:∃cl,o.op=.call cl∧cl.callee=.builtin .recover:=by
      split at hrec
      ·rename_i cl ho
       split at hrec
       ·rename_i hcal; exact⟨cl,ho,hcal⟩
       ·cases hrec
      ·cases hrec
     have hrun:∀(a:Act) (w:World),(execOp a.eval o).run cx.P w=.ok .recover w:=by
      intro a w
      simp [execOp,hop,resolve,hcal,invoke,builtin,Sem.run_bind,Sem.run_pure]
     have hsz:List.range ops.size=0::((qR ops.toList).tail).map (·.i):=by
      rw [List.map_tail,sZ.1]
      have:ops.size=os.length+1:=by rw [←Array.length_toList,hops]; rfl
      rw [this,List.range_succ_eq_map]; rfl
     let cs':List Frame:={ c₀ with mode:=B4 PV }::cs
     have hrv:l_ G h (pv.getD .niliface) (PV.getD .nilIface):=by
      cases hp:pv with
      | none =>
       rw [hpn hp]
       exact .p _ _ .niliface
      | some v =>
       obtain⟨V,hV,hr⟩:=hpv v hp
       rw [hV]
       exact hr
     obtain⟨RR,hRR⟩:∃RR,RR=UL G h w h' PV:=⟨_,rfl⟩
     rw [←hRR]
     have slots:pE (fun a=>a.defers=[]) G h (qS (caps++List.replicate (fn.ntmps - caps.length) (.tuple [])) o.dst (pv.getD .niliface)) (Act.put { tmps:=X++Array.replicate (fn.ntmps - X.size) undef,defers:=[] } o.dst (PV.getD .nilIface)) :=
      (DK hx hcl).put o.dst hrv (by cases o.dst <;> rfl)
     have fin:∀(e:Ex) (ρ2:List kS) (h2:kU) (G2:Gh) (w2:World) (a2:Act),(e=.normal∨e=.ret)→(e,pack 0 ρ2,h2)=r0→Ext G h w G2 h2 w2→Inv G2 h2 w2→pE (fun a=>a.defers=[]) G2 h2 ρ2 a2 →
       a2.defers=[]∧∃u',cs'={ c₀ with mode:=u' }::cs∧∃v,(results fn a2.tmps).run cx.P w2=.ok v w2∧RR (.returned v) u' w2:=by
      intro e ρ2 h2 G2 w2 a2 he hr x2 i2 s2
      subst hr
      have ht:mS h.length h2=some h':=by rcases he with rfl | rfl <;> exact hend
      obtain⟨G3,i3,x3,_,_,_⟩:=zB x2 i2 ht
      have hrs:fn.results.toList.mapM (z7 cx.P ρ2 h2)=some []:=by
       have:fn.results=#[]:=by simpa using hres
       rw [this]; rfl
      obtain⟨V,hV,_⟩:=Bx hrs i2 s2
      rw [hRR]
      exact⟨s2.df,_,rfl,V,hV,⟨V,rfl⟩,rfl,G3,x3,i3⟩
     have hlen:(qS (caps++List.replicate (fn.ntmps - caps.length) (.tuple [])) o.dst (pv.getD .niliface)).length=fn.ntmps:=by rw [DJ]; simp; omega
     rw [yL fn.ntmps _ _ _ _ hlen] at hr0
     have tailP:=IQ (cx:={ cx with n:=fn.ntmps,full:=2 ^ fn.ntmps - 1,pan:=false }) (J:=fun a=>a.defers=[]) (Q:=fun e a w=>Exit.thenS (c.wpS cx.P (bodyPostS cx.P fn c₀ cs RR))
       (bodyPostS cx.P fn c₀ cs RR) e a cs' w) (ops:=ops) (fun o _ a V h=>by cases o.dst <;> exact h) hX hK (qR ops.toList).tail [] _ h G w _
      (fun it Da=>sZ.2 it (List.mem_of_mem_tail Da)) hr0 i gl slots
      (fun ρ1 h1 G1 w1 a1 e1 x1 i1 s1=>by
       split at e1
       case isFalse=>cases e1
       rename_i hl1
       refine wpS_of_wp (wY (cx:={ cx with n:=fn.ntmps,full:=2 ^ fn.ntmps - 1,pan:=false }) (J:=fun a=>a.defers=[]) hm hX hK hlp c 0 ρ1 h1 _ _ r0 G1 w1 a1 _ (tB c) e1 i1 (gl.mono x1.hmono) s1 hl1 ?_)
       ·refine⟨fun ρ2 h2 G2 w2 a2 e2 x2 i2 s2 _=>?_,fun e ρ2 h2 G2 w2 a2 e2 x2 i2 s2 _=>?_,fun v ρ2 h2 G2 w2 a2 V e2 x2 i2 _ _=>?_⟩
        ·exact fin _ ρ2 h2 G2 w2 a2 (.inl rfl) (Option.some.inj e2) (x1.trans x2) i2 s2
        ·cases e with
         | ret=>exact fin _ ρ2 h2 G2 w2 a2 (.inr rfl) (Option.some.inj e2) (x1.trans x2) i2 s2
         | exit id=>cases e2; cases hend
         | _=>trivial
        ·cases e2; cases hend)
      (fun v h1 G1 w1 V a1 e1=>by cases e1)
     have tail:wpOps cx.P ops (fun e a w=>Exit.thenS (c.wpS cx.P (bodyPostS cx.P fn c₀ cs RR))
       (bodyPostS cx.P fn c₀ cs RR) e a cs' w) (((qR ops.toList).tail).map (·.i))
       (Act.put { tmps:=X++Array.replicate (fn.ntmps - X.size) undef,defers:=[] } o.dst (PV.getD .nilIface)) w:=by
      exact tailP
     refine wpS_seq (wpS_region ?_)
     rw [hsz]
     simp only [wpOpsS,h0]
     rw [if_pos (by simp [Region.wanted,hgu])]
     simp only [hrun]
     cases PV with
     | none =>
      have hu':c₀.mode=.returning:=hu
      have hrd:recoverD (c₀::cs)=none:=by simp [recoverD,hu']
      have hcs:(c₀::cs:List Frame)=cs':=by
       have:({ c₀ with mode:=.returning }:Frame)=c₀:=by rw [←hu']
       simp only [cs',B4,this]
      rw [hrd]
      simp only []
      rw [hcs]
      exact Iz (fun a w hq=>by obtain⟨_,hq⟩:=hq; rw [hRR] at hq; obtain⟨⟨_,h1⟩,_⟩:=hq; cases h1) _ _ _ tail
     | some V =>
      have hu':c₀.mode=.panicking [{ v:=V,recovered:=false }]:=hu
      have hrd:recoverD (c₀::cs)=some (V,cs'):=by simp [recoverD,hu',cs',B4]
      rw [hrd]
      exact Iz (fun a w hq=>by obtain⟨_,hq⟩:=hq; rw [hRR] at hq; obtain⟨⟨_,h1⟩,_⟩:=hq; cases h1) _ _ _ tail
   ·cases hb
  ·cases hb
theorem AV {L:Nat}{x:List kS}:∀(n i j k:Nat) (v:kS),(unpackFrom L x n i j)[k]?=some v→v=.junk∨L.testBit (i+k)=true
 | 0,i,j,k,v,h=>by simp [unpackFrom] at h
 | n+1,i,j,k,v,h=>by
  unfold unpackFrom at h
  cases hb:L.testBit i with
  | true =>
   rw [hb] at h
   cases k with
   | zero=>exact .inr hb
   | succ k =>
    have:=AV n (i+1) (j+1) k v (by simpa using h)
    rwa [show i+(k+1)=i+1+k by omega]
  | false =>
   rw [hb] at h
   cases k with
   | zero=>simp at h; exact .inl h.symm
   | succ k =>
    have:=AV n (i+1) j k v (by simpa using h)
    rwa [show i+(k+1)=i+1+k by omega]
theorem pE.any {J J':Act→Prop}{ρ:List kS}(s:pE J G h ρ a) (hj:J' a):pE J' G h ρ a:=⟨s.len,s.rel,hj⟩
theorem KC {fn:Func}{RE:Ending→World→Prop}{b:Code}{L:Nat}{fv:kS}{V:Value}{ρ:List kS}(hm:cx.P.follows .mixedOrders=true) (hX:vR cx.P cx.A) (hK:sQ cx.P cx.A cx.K) (hlp:Qa cx.lp)
  (hb:AE cx b L fv ρ h=some r) (i:Inv G h w) (gl:sG cx.A G.H) (s:pE (fun a=>a.defers=[]) G h ρ a) (hn:ρ.length=cx.n) (hfv:l_ G h fv V)
  (hfin:∀(a':Act) G' w',r.1=.ret→Ext G h w G' r.2.2 w'→Inv G' r.2.2 w'→pE (fun _=>True) G' r.2.2 (unpack cx.n L r.2.1) a'→∃v,(results fn a'.tmps).run cx.P w'=.ok v w'∧RE (.returned v) w') :
  ∃d,(∀w,(Deferred.ofValue V #[]).run cx.P w=.ok d w)∧b.wp cx.P (bodyPostD cx.P fn RE) { a with defers:=d::a.defers } w:=by
 unfold AE at hb
 cases hok:DC L b with
 | false=>rw [hok] at hb; cases hb
 | true =>
  rw [hok] at hb
  simp only [cond_true] at hb
  obtain⟨⟨g,fi,ca⟩,hg,hb⟩:=Option.bind_eq_some_iff.1 hb
  unfold sK at hg
  split at hg <;> simp only [Option.some.injEq,Prod.mk.injEq,reduceCtorEq] at hg
  rename_i g' fi' ca'
  obtain⟨rfl,rfl,rfl⟩:=hg
  obtain⟨F,C,rfl,hlf,hlc,hrf,hrc⟩:=hfv.Gr
  refine⟨{ target:=.fn (.func g') C,args:=F++#[] },fun w=>by simp [Deferred.ofValue,Sem.run_pure],?_⟩
  simp only [] at hb
  obtain⟨r0,hr0,hend⟩:=Option.bind_eq_some_iff.1 hb
  have hxs:∀{G':Gh}{h':kU}{w':World},Ext G h w G' h' w'→BI G' h' (fi'++ca') (F++#[]++C):=by
   intro G' h' w' x
   refine⟨by simp [hlf,hlc],fun j u hu=>?_⟩
   rw [Array.getD_eq_getD_getElem?]
   by_cases h1:j < fi'.length
   ·rw [List.getElem?_append_left h1] at hu
    have:=(hrf j u hu).mono x.toMono
    rw [Array.getD_eq_getD_getElem?] at this
    simpa [Array.getElem?_append,←hlf,h1] using this
   ·rw [List.getElem?_append_right (by omega)] at hu
    have:=(hrc _ u hu).mono x.toMono
    rw [Array.getD_eq_getD_getElem?] at this
    simpa [Array.getElem?_append,←hlf,h1] using this
  have hdf:a.defers=[]:=s.df
  have leave:∀(pv:Option kS) (PV:Option Value) (G2:Gh) (h2:kU) (w2:World) (a2:Act) (h3:kU) (pk:List kS),Ext G h w G2 h2 w2→Inv G2 h2 w2→(∀v,pv=some v→∃V,PV=some V∧l_ G2 h2 v V)→(pv=none→PV=none) →
    JD L { a with defers:={ target:=.fn (.func g') C,args:=F++#[] }::a.defers } a2→v_ cx g' (fi'++ca') pv h2=some h3→r=(.ret,pk,h3)→pE (fun _=>True) G2 h2 (unpack cx.n L pk) a2 →
    Leaves cx.P fn a2.tmps RE a2.defers (He PV) w2:=by
   intro pv PV G2 h2 w2 a2 h3 pk x2 i2 hv1 hv2 hj hrec hr s2
   have hd2:a2.defers=[{ target:=.fn (.func g') C,args:=F++#[] }]:=by rw [hj.1,hdf]
   obtain⟨hin,hcd⟩:=Mw hm hX hK hlp hrec i2 (gl.mono x2.hmono) (hxs x2) hv1 hv2
   rw [hd2]
   refine leaves_cons (by cases PV <;> simp [He]) (f:=g') (args:=F++#[]++C) (by simpa [invoke] using hin w2) ?_
   refine hcd.mono fun e u' w' hpost=>?_
   obtain⟨⟨v,rfl⟩,rfl,G',x3,i3⟩:=hpost
   have hset:settle (B4 PV)=.returning:=by cases PV <;> simp [settle,B4]
   simp only [hset]
   subst hr
   exact hfin a2 G' w' rfl (x2.trans x3) i3 (s2.mono x3.toMono)
  refine wY (cx:={ cx with pan:=true }) (J:=JD L { a with defers:={ target:=.fn (.func g') C,args:=F++#[] }::a.defers }) hm hX hK hlp b L ρ h _ _ r0 G w _ _ (yA hok) hr0 i gl (s.any (J':=JD L _) ⟨rfl,rfl,fun _ _=>rfl⟩ |> fun s=>⟨s.len,s.rel,⟨rfl,rfl,fun _ _=>rfl⟩⟩) hn
   ⟨fun ρ2 h2 G2 w2 a2 e2 x2 i2 s2 hn2=>?_,fun e ρ2 h2 G2 w2 a2 e2 x2 i2 s2 hn2=>?_,fun v ρ2 h2 G2 w2 a2 V e2 x2 i2 rv hj=>?_⟩
  ·cases e2
   obtain⟨h3,hrec,hr⟩:=Option.map_eq_some_iff.1 hend
   exact leave none none G2 h2 w2 a2 h3 _ x2 i2 (by simp) (by simp) s2.df hrec hr.symm ((s2.pack hn2).any trivial)
  ·cases e2
   cases e with
   | ret =>
    obtain⟨h3,hrec,hr⟩:=Option.map_eq_some_iff.1 hend
    exact leave none none G2 h2 w2 a2 h3 _ x2 i2 (by simp) (by simp) s2.df hrec hr.symm ((s2.pack hn2).any trivial)
   | exit id=>cases hend
   | _=>trivial
  ·cases e2
   obtain⟨h3,hrec,hr⟩:=Option.map_eq_some_iff.1 hend
   refine leave (some v) (some V) G2 h2 w2 a2 h3 _ x2 i2 (fun u hu=>by cases hu; exact⟨V,rfl,rv⟩) (by simp) hj hrec hr.symm ⟨?_,fun j u hu=>?_,trivial⟩
   ·rw [qB,←hn,s.len]
    exact hj.2.1.symm
   ·rcases AV _ _ _ _ _ hu with rfl | hbit
    ·exact .p _ _ (.junk _)
    ·rcases L_ (f:=id) hn j u (by simpa using hu) with rfl | ⟨u',hu',he⟩
     ·exact .p _ _ (.junk _)
     ·rw [Nat.zero_add] at hbit
      rw [hj.2.2 j hbit]
      have he:u=u':=he
      subst he
      exact(s.rel j u hu').mono x2.toMono
theorem KO {os:List Oper}{f:Operand}(hl:B3 os=some f):∃o c,os.getLast?=some o∧o.guard=none∧o.op=.defer c∧c.callee=.value f∧c.args=#[]∧o.dst=none:=by
 unfold B3 at hl
 obtain⟨o,h1,h2⟩:=Option.bind_eq_some_iff.1 hl
 unfold UZ at h2
 split at h2
 ·rename_i c hg ho
  split at h2
  ·rename_i f' hc
   cases he:c.args.isEmpty && o.dst.isNone with
   | false=>rw [he] at h2; cases h2
   | true =>
    rw [he] at h2
    simp only [Bool.and_eq_true,Array.isEmpty_iff,Option.isNone_iff_eq_none] at he
    cases h2
    exact⟨o,c,h1,hg,ho,hc,he.1,he.2⟩
  ·cases h2
 ·cases h2
theorem Mv {fn:Func}{RE:Ending→World→Prop}(hm:cx.P.follows .mixedOrders=true) (hX:vR cx.P cx.A) (hK:sQ cx.P cx.A cx.K) (hlp:Qa cx.lp) (hpan:cx.pan=false):∀(c:Code) (L:Nat) (ρ:List kS) (h:kU) (r:R) (G:Gh) (w:World) (a:Act),
  sL cx c L ρ h=some r→Inv G h w→sG cx.A G.H→pE (fun a=>a.defers=[]) G h ρ a→ρ.length=cx.n →
  (∀(a':Act) G' w',r.1=.ret→Ext G h w G' r.2.2 w'→Inv G' r.2.2 w'→pE (fun _=>True) G' r.2.2 (unpack cx.n L r.2.1) a'→∃v,(results fn a'.tmps).run cx.P w'=.ok v w'∧RE (.returned v) w') →
  c.wp cx.P (bodyPostD cx.P fn RE) a w:=by
 intro c
 induction c with
 | seq x y ihx ihy =>
  intro L ρ h r G w a hb i gl s hn hfin
  have piece:evalCode cx x (L ||| ue cx.full y) ρ h (fun ρ' h'=>sL cx y L ρ' h') (Nr L)=some r→(Code.seq x y).wp cx.P (bodyPostD cx.P fn RE) a w:=by
   intro hb
   refine wp_seq (wY (J:=fun a=>a.defers=[]) hm hX hK hlp x _ ρ h _ _ r G w a _ (tB x) hb i gl s hn ⟨fun ρ2 h2 G2 w2 a2 e2 x2 i2 s2 hn2=>?_,fun e ρ2 h2 G2 w2 a2 e2 x2 i2 s2 hn2=>?_,fun v ρ2 h2 G2 w2 a2 V e2 x2 i2 rv hj=>?_⟩)
   ·exact ihy L ρ2 h2 r G2 w2 a2 e2 i2 (gl.mono x2.hmono) s2 hn2 fun a' G' w' hr x3 i3 s3=>hfin a' G' w' hr (x2.trans x3) i3 s3
   ·cases e with
    | ret =>
     cases e2
     show Leaves cx.P fn a2.tmps RE a2.defers .returning w2
     have hd2:a2.defers=[]:=s2.df
     rw [hd2]
     exact hfin a2 G2 w2 rfl x2 i2 ((s2.pack hn2).any trivial)
    | exit id=>cases e2
    | _=>trivial
   ·cases e2
  cases x with
  | region id ops draw =>
   cases draw with
   | true=>simp only [sL] at hb; exact piece hb
   | false =>
    simp only [sL] at hb
    cases hl:B3 ops.toList with
    | none=>simp only [hl] at hb; exact piece hb
    | some f =>
     simp only [hl] at hb
     obtain⟨o,cl,h1,hgu,hop,hcal,hargs,hdst⟩:=KO hl
     rw [yL cx.n _ _ _ _ hn] at hb
     have hsz:List.range ops.size=((qR ops.toList).dropLast).map (·.i)++[ops.size - 1]:=by
      have hne:ops.toList≠[]:=by intro h0; rw [h0] at h1; cases h1
      have hlen:(qR ops.toList).length=ops.size:=by simp [qR]
      have hm1:((qR ops.toList).dropLast).map (·.i)=(List.range ops.size).dropLast:=by rw [List.map_dropLast,sZ.1]
      rw [hm1]
      have hpos:0 < ops.size:=by rw [←Array.length_toList]; exact List.length_pos_iff.2 hne
      obtain⟨m,hmm⟩:∃m,ops.size=m+1:=⟨ops.size - 1,by omega⟩
      rw [hmm,List.range_succ,List.dropLast_concat]
      rfl
     have hlast:ops[ops.size - 1]?=some o:=by
      rw [←Array.getElem?_toList]
      rw [List.getLast?_eq_getElem?] at h1
      simpa using h1
     refine wp_seq (wp_region ?_)
     rw [hsz]
     refine Gv (J:=fun a=>a.defers=[]) [ops.size - 1] (fun o _ a V h=>by cases o.dst <;> exact h) hX hK _ [] ρ h G w a (fun it Da=>sZ.2 it ((List.dropLast_sublist _).subset Da)) hb i gl s (fun ρ2 h2 G2 w2 a2 e2 x2 i2 s2=>?_) (fun v h2 G2 w2 V a2 e2=>by cases e2)
     split at e2
     case isFalse=>cases e2
     rename_i hn2
     obtain⟨d,hd,hwp⟩:=KC (fn:=fn) (RE:=RE) hm hX hK hlp e2 i2 (gl.mono x2.hmono) s2 hn2 (s2.eval (gl.mono x2.hmono) f) fun a' G' w' hr x3 i3 s3=>hfin a' G' w' hr (x2.trans x3) i3 s3
     have hrun:(execOp a2.eval o).run cx.P w2=.ok (.defer d) w2:=by
      simp [execOp,hop,resolve,hcal,hargs,Sem.run_bind,Sem.run_pure,hd w2]
     simp only [wpOps,hlast]
     rw [if_pos (by simp [Region.wanted,hgu])]
     left
     unfold Oper.wp
     rw [hrun,Oper.upon_defer,hdst]
     exact hwp
  | _=>simp only [sL] at hb; exact piece hb
 | _=>intro L ρ h r G w a hb; simp [sL] at hb
end
end Hk


namespace Hk
open Go Go.RowKit
def sameShape:mI→mI→Prop
 | .free,.free=>True
 | .gone,.gone=>True
 | .cells _,.cells _=>True
 | .front n sz,.front n' sz'=>n=n'∧sz=sz'
 | .vec _ _ _,.vec _ _ _=>True
 | .map _,.map _=>True
 | _,_=>False
theorem yO {f:Nat→Nat}(b:mI):sameShape b (b.y9 f):=by cases b <;> simp [sameShape,mI.y9]
structure Dj (G:Gh) (h:kU) (G2:Gh) (h2:kU) (f:Nat→Nat) (p:Nat→Bool):Prop where
 hmono:∀b k v,G.H b k=some v→G2.H b k=some v
 nV:∀id b,p id=true→h[id]?=some b→∃b2,h2[f id]?=some b2∧sameShape b b2
 pl:∀id,p id=true→G2.nV (f id)=G.nV id
 cur:∀id,p id=true→G2.cur (f id)=G.cur id
section
variable {G G2:Gh}{h h2:kU}{f:Nat→Nat}{p:Nat→Bool}
theorem Dj.live (m:Dj G h G2 h2 f p) {id:Nat}(hp:p id=true) (hl:live h id):live h2 (f id):=by
 obtain⟨b,h1,hn⟩:=hl
 obtain⟨b2,h3,h4⟩:=m.nV id b hp h1
 exact⟨b2,h3,by cases b <;> cases b2 <;> simp_all [sameShape]⟩
theorem Dj.nf (m:Dj G h G2 h2 f p) {id:Nat}(hp:p id=true) (hl:vE h id):vE h2 (f id):=by
 obtain⟨b,h1,hn,hf⟩:=hl
 obtain⟨b2,h3,h4⟩:=m.nV id b hp h1
 exact⟨b2,h3,by cases b <;> cases b2 <;> simp_all [sameShape],by cases b <;> cases b2 <;> simp_all [sameShape]⟩
theorem Cc (m:Dj G h G2 h2 f p) {v:kS}{V:Value}(r:l_ G h v V) (hok:v.Nn p=true):l_ G2 h2 (v.Dg f) V:=by
 cases r with
 | p v V hp =>
  have e:v.Dg f=v:=by cases hp <;> rfl
  rw [e]; exact .p _ _ (hp.mono m.hmono)
 | agg cs C hl hh=>cases hok
 | tuple cs C hl hh=>cases hok
 | nil=>exact .nil
 | own rows id n sz V hp hf hn hr hc =>
  have hq:p id=true:=hok
  obtain⟨b2,h3,h4⟩:=m.nV id _ hq hf
  cases b2 <;> simp only [sameShape] at h4
  obtain⟨rfl,rfl⟩:=h4
  exact .own rows (f id) n sz V (hp.mono m.hmono) h3 hn hr fun e=>by rw [m.cur id hq]; exact hc e
 | ownv id V hp hb=>exact .ownv (f id) V (hp.mono m.hmono) (m.nf hok hb)
 | vslice id tot off len sz b cap hl ht hc hv =>
  have hq:p id=true:=hok
  refine .vslice (f id) tot off len sz b cap (m.nf hq hl) ?_ hc ?_
  ·rw [m.cur id hq]; exact ht
  ·rw [m.cur id hq]; exact hv
 | vptr id tot off b hl ht hv =>
  have hq:p id=true:=hok
  refine .vptr (f id) tot off b (m.nf hq hl) ?_ ?_
  ·rw [m.cur id hq]; exact ht
  ·rw [m.cur id hq]; exact hv
 | ptr id off hl =>
  have hq:p id=true:=hok
  rw [←m.pl id hq]; exact .ptr (f id) off (m.live hq hl)
 | mslice id off len sz cap hl hc =>
  have hq:p id=true:=hok
  rw [←m.pl id hq]; exact .mslice (f id) off len sz cap (m.live hq hl) hc
 | mslice0 id off sz cap a=>exact .mslice0 (f id) off sz cap a
 | map id hl =>
  have hq:p id=true:=hok
  rw [←m.pl id hq]; exact .map (f id) (m.live hq hl)
 | func g first cap F C hlf hlc hf hc =>
  simp only [kS.Nn,Bool.and_eq_true,List.isEmpty_iff] at hok
  obtain⟨rfl,rfl⟩:=hok
  exact .func g [] [] F C hlf hlc (fun i v hv=>by simp at hv) (fun i v hv=>by simp at hv)
 | iface t v V hh=>cases hok
theorem Ez (m:Dj G h G2 h2 f p) {v:kS}{V:Value}(r:l_ G h v V) (hok:v.ok p=true):l_ G2 h2 (v.y9 f) V:=by
 have agg:∀(cs:List kS) (V:Value),cs.all (kS.Nn p)=true→l_ G h (.agg cs) V→l_ G2 h2 (.agg (cs.map (kS.Dg f))) V:=by
  intro cs V hk hx
  obtain⟨C,rfl,hl,hr⟩:=hx.v7
  refine .agg _ _ (by simpa using hl) fun i u hu=>?_
  simp only [List.getElem?_map,Option.map_eq_some_iff] at hu
  obtain⟨a,ha,rfl⟩:=hu
  exact Cc m (hr i a ha) (List.all_eq_true.1 hk a (List.mem_of_getElem? ha))
 cases v with
 | agg cs=>exact agg cs V hok r
 | tuple vs =>
  obtain⟨C,rfl,hl,hr⟩:=r.Ci
  simp only [kS.ok,List.all_eq_true] at hok
  refine .tuple _ _ (by simpa using hl) fun i u hu=>?_
  simp only [List.getElem?_map,Option.map_eq_some_iff] at hu
  obtain⟨a,ha,rfl⟩:=hu
  have h1:=hr i a ha
  have h2:=hok a (List.mem_of_getElem? ha)
  cases a <;> first | exact agg _ _ h2 h1 | exact Cc m h1 h2
 | _=>exact Cc m r hok
theorem I3 {v:kS}(h:v.mV=true):(v.Dg f).mV=true:=by
 cases v <;> first | exact h | rfl | skip
 rename_i rows t
 cases t <;> rfl
theorem zS.y9 {w:World}{id j:Nat}{b:mI}(m:Dj G h G2 h2 f p) (hH:G2.H=G.H) (hb:G2.nV j=G.nV id) (hc:G2.cur j=G.cur id) (hok:b.ok p=true)
  (hk:zS G h w id b):zS G2 h2 w j (b.y9 f):=by
 cases b with
 | free=>trivial
 | gone=>trivial
 | cells cs =>
  obtain⟨C,e,h1,h2',h3,h4⟩:=hk
  refine⟨C,e,by rw [hb]; exact h1,by rw [List.length_map]; exact h2',by rw [hb,hH]; exact h3,fun i v hv=>?_⟩
  rw [List.getElem?_map] at hv
  obtain⟨u,hu,rfl⟩:=Option.map_eq_some_iff.1 hv
  exact⟨I3 (h4 i u hu).1,Cc m (h4 i u hu).2 (List.all_eq_true.1 hok u (List.mem_of_getElem? hu))⟩
 | front n sz =>
  show zS G2 h2 w j (.front n sz)
  simp only [zS] at hk ⊢
  rw [hc,hH]; exact hk
 | vec tot sz cs =>
  obtain⟨b,cap,C,e,h1,h2',h3,h4,h5,h6,h7,h8,h9⟩:=hk
  refine⟨b,cap,C,e,by rw [hc]; exact h1,h2',h3,h4,h5,h6,by rw [List.length_map]; exact h7,by rw [hH]; exact h8,fun i v hv=>?_⟩
  rw [List.getElem?_map] at hv
  obtain⟨u,hu,rfl⟩:=Option.map_eq_some_iff.1 hv
  exact⟨I3 (h9 i u hu).1,Cc m (h9 i u hu).2 (List.all_eq_true.1 hok u (List.mem_of_getElem? hu))⟩
 | map es =>
  obtain⟨E,c,h1,h2',h3,h4,h5⟩:=hk
  refine⟨E,c,by rw [hb]; exact h1,by rw [List.length_map]; exact h2',by rw [hb,hH]; exact h3,fun i kv hv=>?_,h5⟩
  rw [List.getElem?_map] at hv
  obtain⟨u,hu,rfl⟩:=Option.map_eq_some_iff.1 hv
  obtain⟨mm,a1,a2,a3,a4⟩:=h4 i u hu
  have hok':(es.all fun e=>e.2.Nn p)=true:=hok
  exact⟨mm,a1,a2,by rw [hH]; exact a3,Cc m a4 (List.all_eq_true.1 hok' u (List.mem_of_getElem? hu))⟩
theorem CF {id j:Nat}{b:mI}(hb:G2.nV j=G.nV id) (hc:G2.cur j=G.cur id):nQ G2 j (b.y9 f)=nQ G id b:=by
 cases b <;> simp [mI.y9,nQ,hb,hc]
end
theorem wK:∀{l:List Nat}{i:Nat},i∈l→l[Db l i]?=some i
 | [],i,h=>by simp at h
 | a::r,i,h=>by
  unfold Db
  cases hab:a == i with
  | true =>
   have:a=i:=by simpa using hab
   subst this; rfl
  | false =>
   have hne:a≠i:=by simpa using hab
   have hm:i∈r:=by
    rcases List.mem_cons.1 h with h | h
    ·exact absurd h.symm hne
    ·exact h
   simp only [cond_false,List.getElem?_cons_succ]
   exact wK hm
theorem vT:∀{l:List Nat},wI l=true→∀{i j a:Nat},l[i]?=some a→l[j]?=some a→i=j
 | [],_,i,j,a,h,_=>by simp at h
 | b::r,hd,i,j,a,hi,hj=>by
  simp only [wI,Bool.and_eq_true,Bool.not_eq_true'] at hd
  have hnb:∀k,r[k]?=some b→False:=fun k hk=>by
   have:=List.mem_of_getElem? hk
   have h1:r.contains b=true:=by simpa using this
   rw [hd.1] at h1; cases h1
  cases i with
  | zero =>
   cases j with
   | zero=>rfl
   | succ j=>simp at hi hj; subst hi; exact(hnb j hj).elim
  | succ i =>
   cases j with
   | zero=>simp at hi hj; subst hj; exact(hnb i hi).elim
   | succ j=>have:=vT hd.2 (i:=i) (j:=j) (by simpa using hi) (by simpa using hj); omega
theorem DI:∀{is:List Nat}{bs:kU}{h:kU}{id:Nat},¬id∈is→(A_ is bs h)[id]?=h[id]?
 | [],_,_,_,_=>rfl
 | i::is,[],_,_,_=>rfl
 | i::is,b::bs,h,id,hn=>by
  rw [A_,DI (fun hm=>hn (by simp [hm])),List.getElem?_set_ne (fun e=>hn (by simp [e]))]
theorem Lv:∀{is:List Nat}{bs:kU}{h:kU}{j id:Nat}{b:mI},wI is=true→is[j]?=some id→bs[j]?=some b→id < h.length→(A_ is bs h)[id]?=some b
 | [],_,_,_,_,_,_,h,_,_=>by simp at h
 | i::is,[],_,_,_,_,_,_,h,_=>by simp at h
 | i::is,c::bs,h,j,id,b,hd,hi,hb,hl=>by
  simp only [wI,Bool.and_eq_true,Bool.not_eq_true'] at hd
  rw [A_]
  cases j with
  | zero =>
   simp at hi hb; subst hi; subst hb
   rw [DI (fun hm=>by
    have h1:is.contains i=true:=by simpa using hm
    rw [hd.1] at h1; cases h1)]
   simp [hl]
  | succ j=>exact Lv hd.2 (by simpa using hi) (by simpa using hb) (by simpa using hl)
theorem Qm:∀{r acc:List Nat},∃l,Ql acc r=acc++l
 | [],acc=>⟨[],by simp [Ql]⟩
 | i::r,acc=>by
  obtain⟨l,hl⟩:=Qm (r:=r) (acc:=bif acc.contains i then acc else acc++[i])
  rw [Ql,hl]
  cases acc.contains i with
  | true=>exact⟨l,rfl⟩
  | false=>exact⟨i::l,by simp⟩
theorem SK {G G':Gh}{h h' h2:kU}{w w':World}{v:kS}{V:Value}{r:nZ}(hb:QF h.length v h'=some (r,h2)) (x:Ext G h w G' h' w') (i:Inv G' h' w') (hv:l_ G' h' v V) :
  vQ G h w r h2 (.returned V) w':=by
 unfold QF at hb
 obtain⟨rest,hids⟩:=Qm (r:=reach h' [v]) (acc:=List.range h.length)
 have hids:TW h.length v h'=List.range h.length++rest:=hids
 generalize TW h.length v h'=ids at *
 unfold akY at hb
 cases ho:v.ok (fun i=>ids.contains i) && acE ids h' with
 | false=>rw [ho] at hb; cases hb
 | true =>
  rw [ho] at hb
  simp only [cond_true,Option.some.injEq,Prod.mk.injEq] at hb
  obtain⟨rfl,rfl⟩:=hb
  simp only [acE,Bool.and_eq_true,List.all_eq_true] at ho
  obtain⟨hvok,hdis,hiok⟩:=ho
  have hmem:∀{id:Nat},ids.contains id=true↔id∈ids:=by intro id; simp
  have hblk:∀id,id∈ids→∃b,h'[id]?=some b∧b.ok (fun i=>ids.contains i)=true:=by
   intro id hid
   have:=hiok id hid
   cases hg:h'[id]? with
   | none=>rw [hg] at this; cases this
   | some b=>rw [hg] at this; exact⟨b,rfl,this⟩
  let Gs:Gh:={ H:=G'.H,nV:=fun j=>G'.nV (ids.getD j 0),cur:=fun j=>G'.cur (ids.getD j 0) }
  have getj:∀{j id:Nat},ids[j]?=some id→ids.getD j 0=id:=fun hj=>by rw [List.getD_eq_getElem?_getD,hj]; rfl
  have sg:∀{j id:Nat}{b:mI},ids[j]?=some id→h'[id]?=some b→(By ids h')[j]?=some (b.y9 (Db ids)):=by
   intro j id b hj hbb
   unfold By
   rw [List.getElem?_map,hj]
   simp [List.getD_eq_getElem?_getD,hbb]
  have m1:Dj G' h' Gs (By ids h') (Db ids) (fun i=>ids.contains i):=⟨fun _ _ _ h=>h,fun id b hp hbb=>⟨_,sg (wK (hmem.1 hp)) hbb,yO b⟩,
   fun id hp=>by show G'.nV _=_; rw [getj (wK (hmem.1 hp))],fun id hp=>by show G'.cur _=_; rw [getj (wK (hmem.1 hp))]⟩
  have sinv:∀{j:Nat}{bl:mI},(By ids h')[j]?=some bl→∃id b,ids[j]?=some id∧h'[id]?=some b∧b.ok (fun i=>ids.contains i)=true∧bl=b.y9 (Db ids):=by
   intro j bl hj
   have hj2:=hj
   unfold By at hj
   rw [List.getElem?_map] at hj
   obtain⟨id,hid,_⟩:=Option.map_eq_some_iff.1 hj
   obtain⟨b,hb1,hb2⟩:=hblk id (List.mem_of_getElem? hid)
   rw [sg hid hb1] at hj2
   exact⟨id,b,hid,hb1,hb2,(Option.some.inj hj2).symm⟩
  have sown:∀{j id:Nat},ids[j]?=some id→owner Gs (By ids h') j=owner G' h' id:=by
   intro j id hj
   obtain⟨b,hb1,_⟩:=hblk id (List.mem_of_getElem? hj)
   rw [oD (sg hj hb1),oD hb1]
   exact CF (by show G'.nV _=_; rw [getj hj]) (by show G'.cur _=_; rw [getj hj])
  have sown2:∀{j b:Nat},owner Gs (By ids h') j=some b→∃id,ids[j]?=some id∧owner G' h' id=some b:=by
   intro j b hj
   obtain⟨bl,hbl,_⟩:=qE hj
   obtain⟨id,b0,hid,_⟩:=sinv hbl
   exact⟨id,hid,by rw [←sown hid]; exact hj⟩
  have low:∀{j:Nat},j < h.length→ids[j]?=some j:=fun hj=>by
   rw [hids,List.getElem?_append_left (by simpa using hj),List.getElem?_range hj]
  have is:Inv Gs (By ids h') w':=⟨i.ok,fun j bl hj=>by
    obtain⟨id,b,hid,hb1,hb2,rfl⟩:=sinv hj
    exact(i.nV id b hb1).y9 m1 rfl (by show G'.nV _=_; rw [getj hid]) (by show G'.cur _=_; rw [getj hid]) hb2,
   fun a c b ha hc=>by
    obtain⟨ia,h1,h2⟩:=sown2 ha
    obtain⟨ic,h3,h4⟩:=sown2 hc
    have:=i.inj ia ic b h2 h4
    subst this
    exact vT hdis h1 h3⟩
  refine⟨Gs,⟨x.os,x.tape,x.output,x.size,fun b hlt hno=>x.frame b hlt hno,x.hmono,fun j b hob hlt=>?_,fun id bl hbl=>?_⟩,is,V,rfl,Ez m1 hv hvok⟩
  ·obtain⟨id,hid,h1⟩:=sown2 hob
   have h2:=x.own id b h1 hlt
   obtain⟨bl,hbl,_⟩:=qE h2
   have hlt2:=(List.getElem?_eq_some_iff.1 hbl).1
   have:j=id:=vT hdis hid (low hlt2)
   rw [this]; exact h2
  ·have hlt:=(List.getElem?_eq_some_iff.1 hbl).1
   obtain⟨bl',hb1,hk1⟩:=x.kinds id bl hbl
   refine⟨_,sg (low hlt) hb1,?_⟩
   have e1:Gs.nV id=G'.nV id:=by show G'.nV _=_; rw [getj (low hlt)]
   have e2:Gs.cur id=G'.cur id:=by show G'.cur _=_; rw [getj (low hlt)]
   cases bl <;> cases bl' <;> simp only [mI.y9,Kind,List.length_map] at hk1 ⊢ <;> first | exact hk1.elim | (rw [e1,e2]; exact hk1) | (rw [e1]; exact hk1) | trivial
section
variable {P:Program}{A:Cj}{K:lD}
theorem Uo {ids:List Nat}{f:Nat}{args:List kS}{h:kU}{r:nZ}{h':kU}(hK:sQ P A K) (hb:acO K ids f args h=some (r,h')) {G:Gh}{w:World}{X:Array Value}(i:Inv G h w) (gl:sG A G.H) (hx:BI G h args X) :
  (∀w,(callFunc f X).run P w=.ok (.enter f X) w)∧Calls P f X w (vQ G h w r h'):=by
 unfold acO at hb
 cases ho:ND ids args h with
 | false=>rw [ho] at hb; cases hb
 | true =>
  rw [ho] at hb
  simp only [cond_true] at hb
  obtain⟨⟨r1,h1⟩,hc,hb⟩:=Option.bind_eq_some_iff.1 hb
  unfold JJ at hb
  cases hk:h1.length == ids.length && (h1.all (mI.ok fun j=>decide (j < ids.length)) && r1.ok fun j=>decide (j < ids.length)) with
  | false=>simp only [hk,cond_false] at hb; cases hb
  | true =>
  simp only [hk,cond_true,Option.some.injEq,Prod.mk.injEq] at hb
  obtain⟨rfl,rfl⟩:=hb
  simp only [Bool.and_eq_true,beq_iff_eq,List.all_eq_true] at hk
  obtain⟨hlen,hbok,hrok⟩:=hk
  simp only [ND,Bool.and_eq_true,List.all_eq_true] at ho
  obtain⟨haok,hdis,hiok⟩:=ho
  have hmem:∀{id:Nat},ids.contains id=true↔id∈ids:=by intro id; simp
  have hblk:∀id,id∈ids→∃b,h[id]?=some b∧b.ok (fun i=>ids.contains i)=true:=by
   intro id hid
   have:=hiok id hid
   cases hg:h[id]? with
   | none=>rw [hg] at this; cases this
   | some b=>rw [hg] at this; exact⟨b,rfl,this⟩
  let Gs:Gh:={ H:=G.H,nV:=fun j=>G.nV (ids.getD j 0),cur:=fun j=>G.cur (ids.getD j 0) }
  have getj:∀{j id:Nat},ids[j]?=some id→ids.getD j 0=id:=fun hj=>by rw [List.getD_eq_getElem?_getD,hj]; rfl
  have sg:∀{j id:Nat}{b:mI},ids[j]?=some id→h[id]?=some b→(By ids h)[j]?=some (b.y9 (Db ids)):=by
   intro j id b hj hbb
   unfold By
   rw [List.getElem?_map,hj]
   simp [List.getD_eq_getElem?_getD,hbb]
  have m1:Dj G h Gs (By ids h) (Db ids) (fun i=>ids.contains i):=⟨fun _ _ _ h=>h,fun id b hp hbb=>⟨_,sg (wK (hmem.1 hp)) hbb,yO b⟩,
   fun id hp=>by show G.nV _=_; rw [getj (wK (hmem.1 hp))],fun id hp=>by show G.cur _=_; rw [getj (wK (hmem.1 hp))]⟩
  have sinv:∀{j:Nat}{bl:mI},(By ids h)[j]?=some bl→∃id b,ids[j]?=some id∧h[id]?=some b∧b.ok (fun i=>ids.contains i)=true∧bl=b.y9 (Db ids):=by
   intro j bl hj
   have hj2:=hj
   unfold By at hj
   rw [List.getElem?_map] at hj
   obtain⟨id,hid,_⟩:=Option.map_eq_some_iff.1 hj
   obtain⟨b,hb1,hb2⟩:=hblk id (List.mem_of_getElem? hid)
   rw [sg hid hb1] at hj2
   exact⟨id,b,hid,hb1,hb2,(Option.some.inj hj2).symm⟩
  have sown:∀{j id:Nat},ids[j]?=some id→owner Gs (By ids h) j=owner G h id:=by
   intro j id hj
   obtain⟨b,hb1,_⟩:=hblk id (List.mem_of_getElem? hj)
   rw [oD (sg hj hb1),oD hb1]
   exact CF (by show G.nV _=_; rw [getj hj]) (by show G.cur _=_; rw [getj hj])
  have sown2:∀{j b:Nat},owner Gs (By ids h) j=some b→∃id,ids[j]?=some id∧owner G h id=some b:=by
   intro j b hj
   obtain⟨bl,hbl,_⟩:=qE hj
   obtain⟨id,b0,hid,_⟩:=sinv hbl
   exact⟨id,hid,by rw [←sown hid]; exact hj⟩
  have is:Inv Gs (By ids h) w:=⟨i.ok,fun j bl hj=>by
    obtain⟨id,b,hid,hb1,hb2,rfl⟩:=sinv hj
    exact(i.nV id b hb1).y9 m1 rfl (by show G.nV _=_; rw [getj hid]) (by show G.cur _=_; rw [getj hid]) hb2,
   fun a c b ha hc=>by
    obtain⟨ia,h1,h2⟩:=sown2 ha
    obtain⟨ic,h3,h4⟩:=sown2 hc
    have:=i.inj ia ic b h2 h4
    subst this
    exact vT hdis h1 h3⟩
  have hxs:BI Gs (By ids h) (args.map (kS.y9 (Db ids))) X:=⟨by rw [List.length_map]; exact hx.1,fun j u hu=>by
   rw [List.getElem?_map] at hu
   obtain⟨v,hv,rfl⟩:=Option.map_eq_some_iff.1 hu
   exact Ez m1 (hx.2 j v hv) (haok v (List.mem_of_getElem? hv))⟩
  obtain⟨e1,e2⟩:=hK f _ _ _ _ hc Gs w X is gl hxs
  refine⟨e1,Calls.mono e2 fun e w' hpost=>?_⟩
  obtain⟨Ge,x,ie,hpost⟩:=hpost
  let G2:Gh:={ H:=Ge.H,nV:=fun id=>if id∈ids then Ge.nV (Db ids id) else G.nV id,cur:=fun id=>if id∈ids then Ge.cur (Db ids id) else G.cur id }
  have idj:∀{j id:Nat},ids[j]?=some id→Db ids id=j:=fun hj=>vT hdis (wK (List.mem_of_getElem? hj)) hj
  have b1:∀{j id:Nat},ids[j]?=some id→G2.nV id=Ge.nV j:=fun hj=>by
   show(if _ then _ else _)=_
   rw [if_pos (List.mem_of_getElem? hj),idj hj]
  have c1:∀{j id:Nat},ids[j]?=some id→G2.cur id=Ge.cur j:=fun hj=>by
   show(if _ then _ else _)=_
   rw [if_pos (List.mem_of_getElem? hj),idj hj]
  have b2:∀{id:Nat},¬id∈ids→G2.nV id=G.nV id:=fun hn=>if_neg hn
  have c2:∀{id:Nat},¬id∈ids→G2.cur id=G.cur id:=fun hn=>if_neg hn
  let back:Nat→Nat:=fun j=>ids.getD j 0
  let hN:kU:=A_ ids (h1.map (mI.y9 back)) h
  have gin:∀{j id:Nat}{b:mI},ids[j]?=some id→h1[j]?=some b→hN[id]?=some (b.y9 back):=by
   intro j id b hj hbj
   obtain⟨b0,hb0,_⟩:=hblk id (List.mem_of_getElem? hj)
   exact Lv hdis hj (by rw [List.getElem?_map,hbj]; rfl) (List.getElem?_eq_some_iff.1 hb0).1
  have gout:∀{id:Nat},¬id∈ids→hN[id]?=h[id]?:=fun hn=>DI hn
  have hjl:∀{j id:Nat},ids[j]?=some id→∃b,h1[j]?=some b:=fun hj=>⟨_,List.getElem?_eq_getElem (by rw [hlen]; exact(List.getElem?_eq_some_iff.1 hj).1)⟩
  have m2:Dj Ge h1 G2 hN back (fun j=>decide (j < ids.length)):=by
   have gt:∀{j:Nat},decide (j < ids.length)=true→ids[j]?=some (back j):=fun {j} hp=>by
    have hlt:j < ids.length:=by simpa using hp
    show _=some (ids.getD j 0)
    rw [List.getD_eq_getElem?_getD,List.getElem?_eq_getElem hlt]; rfl
   exact⟨fun _ _ _ h=>h,fun j b hp hbj=>⟨_,gin (gt hp) hbj,yO b⟩,fun j hp=>b1 (gt hp),fun j hp=>c1 (gt hp)⟩
  have own2:∀{id b:Nat},owner G2 hN id=some b→(∃j,ids[j]?=some id∧owner Ge h1 j=some b)∨(¬id∈ids∧owner G h id=some b):=by
   intro id b hob
   by_cases hid:id∈ids
   ·obtain⟨j,hj⟩:=List.getElem?_of_mem hid
    obtain⟨bl,hbl⟩:=hjl hj
    refine .inl ⟨j,hj,?_⟩
    rw [oD (gin hj hbl)] at hob
    rw [oD hbl,←hob]
    exact(CF (b1 hj) (c1 hj)).symm
   ·refine .inr ⟨hid,?_⟩
    obtain⟨bl,hbl,ho2⟩:=qE hob
    rw [gout hid] at hbl
    rw [oD hbl,←ho2]
    cases bl <;> simp [nQ,b2 hid,c2 hid]
  have xo:∀{id:Nat}{b:Nat},¬id∈ids→owner G h id=some b→w'.heap[b]?=w.heap[b]?∧∀k,Ge.H b k=G.H b k:=by
   intro id b hn hob
   obtain⟨bl,hbl,hob2⟩:=qE hob
   refine x.frame b ((i.nV id bl hbl).lt hob2) fun j hj=>?_
   obtain⟨id2,hj2,ho3⟩:=sown2 hj
   have:=i.inj id id2 b hob ho3
   subst this
   exact hn (List.mem_of_getElem? hj2)
  have ownS:∀{id b:Nat},owner G2 hN id=some b→b < w.heap.size→owner G h id=some b:=by
   intro id b hob hlt
   rcases own2 hob with ⟨j,hj,h2⟩ | ⟨_,h2⟩
   ·obtain⟨id2,hj2,h3⟩:=sown2 (x.own j b h2 hlt)
    rw [hj] at hj2; cases hj2; exact h3
   ·exact h2
  have kinds:∀id bl,h[id]?=some bl→∃bl',hN[id]?=some bl'∧Kind G G2 id bl bl':=by
   intro id bl hbl
   by_cases hid:id∈ids
   ·obtain⟨j,hj⟩:=List.getElem?_of_mem hid
    obtain⟨bl',hb1,hk1⟩:=x.kinds j _ (sg hj hbl)
    refine⟨_,gin hj hb1,?_⟩
    have e1:Gs.nV j=G.nV id:=by show G.nV _=_; rw [getj hj]
    have e2:Gs.cur j=G.cur id:=by show G.cur _=_; rw [getj hj]
    cases bl <;> cases bl' <;> simp only [mI.y9,Kind,e1,e2,List.length_map] at hk1 ⊢ <;> first | exact hk1.elim | (rw [b1 hj,c1 hj]; exact hk1) | (rw [b1 hj]; exact hk1) | trivial
   ·refine⟨bl,by rw [gout hid]; exact hbl,?_⟩
    cases bl <;> simp [Kind,b2 hid,c2 hid]
  have ext:Ext G h w G2 hN w':=⟨x.os,x.tape,x.output,x.size,fun b hlt hno=>x.frame b hlt fun j hj=>by
    obtain⟨id,_,ho3⟩:=sown2 hj
    exact hno id ho3,x.hmono,fun id b hob hlt=>ownS hob hlt,kinds⟩
  refine⟨G2,ext,⟨ie.ok,fun id bl hbl=>?_,fun a c b ha hc=>?_⟩,?_⟩
  ·by_cases hid:id∈ids
   ·obtain⟨j,hj⟩:=List.getElem?_of_mem hid
    obtain⟨b0,hb0⟩:=hjl hj
    have:=gin hj hb0
    have hbl':hN[id]?=some bl:=hbl
    rw [this] at hbl'
    cases hbl'
    exact(ie.nV j b0 hb0).y9 m2 rfl (b1 hj) (c1 hj) (hbok b0 (List.mem_of_getElem? hb0))
   ·have hbl':h[id]?=some bl:=by rw [←gout hid]; exact hbl
    exact(i.nV id bl hbl').Dc ext.toMono (b2 hid) (c2 hid) fun b hob=>xo hid (by rw [oD hbl']; exact hob)
  ·rcases own2 ha with ⟨ja,hja,h2⟩ | ⟨hna,h2⟩
   ·rcases own2 hc with ⟨jc,hjc,h3⟩ | ⟨hnc,h3⟩
    ·have:=ie.inj ja jc b h2 h3
     subst this
     rw [hja] at hjc; exact Option.some.inj hjc
    ·obtain⟨bl,hbl,hob⟩:=qE h3
     have:=ownS ha ((i.nV c bl hbl).lt hob)
     exact i.inj a c b this h3
   ·rcases own2 hc with ⟨jc,hjc,h3⟩ | ⟨hnc,h3⟩
    ·obtain⟨bl,hbl,hob⟩:=qE h2
     have:=ownS hc ((i.nV a bl hbl).lt hob)
     exact i.inj a c b h2 this
    ·exact i.inj a c b h2 h3
  ·cases r1 with
   | ret v=>obtain⟨V,he,hV⟩:=hpost; exact⟨V,he,Ez m2 hV hrok⟩
   | pan v=>obtain⟨V,he,hV⟩:=hpost; exact⟨V,he,Ez m2 hV hrok⟩
end
end Hk
