/-
  The texts Vk.Mem10, Vk.MemT, Vk.MemS, Vk.Op, Vk.Nat1, Vk.Region, Vk.Region2, Vk.Region3, Vk.Region4, Vk.Trunc, Vk.Code, one behind another. No conditions.
-/
import Derived.Test.YtlddmnojanpdoaaGreatDoorPVk1
import Derived.Deep.AppendSrc
import Derived.Orders
import Derived.LoopN
set_option linter.unusedVariables false
set_option linter.unusedSimpArgs false
set_option linter.all false
open Array renaming getD_eq_getD_getElem? → ab2, getElem?_toList → ad3, length_toList → ak1
open Bool renaming and_eq_true → ad2
open List renaming all_eq_true → ah1, append_assoc → af9, cons_append → af2, getD_eq_getElem?_getD → af6, getElem?_append_left → af7, getElem?_append_right → ac9, getElem?_drop → ah5, getElem?_eq_getElem → ac0, getElem?_eq_some_iff → ab1, getElem?_map → ai1, getElem?_take → ah3, length_append → ac2, length_cons → ac8, length_drop → al3, length_map → al0, length_take → ak8, map_cons → aj2, mem_of_getElem? → af1, replicate → aj3
open Nat renaming add_mul → al4, add_zero → al5, le_refl → ac5, mul_le_mul_right → aj0, zero_add → al6
open Option renaming bind_eq_some_iff → aa2, bind_some → af4, map_eq_some_iff → ac6
open Option.some renaming injEq → ab0
open Prod.mk renaming injEq → af8
namespace Hk
section
open Go Go.RowKit
theorem BO {sz:Nat}:∀(rows:List (List kM)),(∀r∈rows,r.length=sz)→rows.flatten.length=rows.length * sz ∧
  ∀(k:Nat) (c:kM),rows.flatten[k]?=some c→∃(i j:Nat) (row:List kM),rows[i]?=some row∧row[j]?=some c∧k=i * sz+j
 | [],_=>⟨by simp,by simp⟩
 | r::rows,h=>by
  obtain⟨h1,h2⟩:=BO rows fun x hx=>h x (by simp [hx])
  have hr:=h r (by simp)
  refine⟨by simp [h1,hr,al4]; omega,fun k c hk=>?_⟩
  simp only [List.flatten_cons] at hk
  by_cases hlt:k < r.length
  ·rw [af7 hlt] at hk
   exact⟨0,k,r,rfl,hk,by omega⟩
  ·rw [ac9 (by omega)] at hk
   obtain⟨i,j,row,a1,a2,a3⟩:=h2 _ _ hk
   exact⟨i+1,j,row,by simpa using a1,a2,by rw [al4]; omega⟩
section
variable {P:Program}{G:Gh}{h:kP}{w:World}{x y v:kM}{X Y V:Value}
theorem Inv.QW (i:Inv G h w) {id tot' sz bb cap':Nat}{old:lE}{cs':List kM}{C':Array Value}{e':TypeId}{w':World}(hid:h[id]?=some old)
  (hold:(old=.front 0 0)∨∃tot sz0 cs,old=.vec tot sz0 cs∧tot < tot')
  (os:w'.os=w.os) (tape:w'.tape=w.tape) (output:w'.output=w.output) (size:w.heap.size≤w'.heap.size)
  (heap:∀k,k < w.heap.size→nN G id old≠some k→w'.heap[k]?=w.heap[k]?)
  (hbb:(w.heap.size≤bb)∨nN G id old=some bb)
  (hC:w'.heap[bb]?=some (.cells C' e' (0,0))) (hcap:tot'≤cap') (hmax:cap'≤maxLen) (hCs:C'.size=cap' * sz) (hsz0:0 < sz) (hcs:cs'.length=tot' * sz)
  (hrel:∀(j:Nat) (u:kM),cs'[j]?=some u→u.mD=true∧lM G h u (C'.getD j undef)) :
  ∃G',Inv G' (h.set id (.vec tot' sz cs')) w'∧Ext G h w G' (h.set id (.vec tot' sz cs')) w'∧G'.cur id=.slice (some ⟨bb,0,none⟩) tot' cap':=by
 let G':Gh:={ G with cur:=fun j=>if j=id then .slice (some ⟨bb,0,none⟩) tot' cap' else G.cur j }
 have hcur:G'.cur id=.slice (some ⟨bb,0,none⟩) tot' cap':=if_pos rfl
 have hbl:=i.oP id old hid
 have hHn:∀k,G.H bb k=none:=by
  intro k
  rcases hbb with h1 | h1
  ·exact i.Gr h1
  ·rcases hold with rfl | ⟨tot,sz0,cs,rfl,_⟩
   ·rcases hbl with ⟨_,h2⟩ | ⟨b,cap,C,e,h2,h3,h4,h5,h6,h7,h8,_⟩
    ·simp [nN,h2,Value.ownBlock] at h1
    ·omega
   ·obtain⟨b,cap,C,e,g1,g2,g3,g4,g5,g6,g7,g8,g9⟩:=hbl
    simp [nN,g1,Value.ownBlock] at h1
    subst h1; exact g8 k
 have key:=i.step (G':=G') id old (.vec tot' sz cs') hid os tape output size heap (fun _ _=>rfl) (fun j hj=>if_neg hj) (fun _ _ _ hh=>hh) (fun _ _ _ _=>rfl)
  (fun b k v hb hv=>by
   have hv:G.H b k=some v:=hv
   rcases hb with hb | hb
   ·rw [i.Gr hb] at hv; cases hv
   ·rcases hold with rfl | ⟨tot,sz0,cs,rfl,_⟩
    ·rcases hbl with ⟨_,h2⟩ | ⟨b,cap,C,e,h2,h3,h4,h5,h6,h7,h8,_⟩
     ·simp [nN,h2,Value.ownBlock] at hb
     ·omega
    ·obtain⟨b',cap,C,e,g1,g2,g3,g4,g5,g6,g7,g8,g9⟩:=hbl
     simp [nN,g1,Value.ownBlock] at hb
     subst hb; rw [g8] at hv; cases hv)
  (by
   rcases hold with rfl | ⟨tot,sz0,cs,rfl,hlt⟩
   ·exact⟨rfl,rfl⟩
   ·obtain⟨b,cap,C,e,g1,_⟩:=hbl
    refine⟨rfl,?_,fun e=>?_⟩
    ·rw [hcur,g1]; simp only [Bp]; omega
    ·rw [hcur,g1] at e; simp only [Bp] at e; omega)
  (fun m=>⟨bb,cap',C',e',hcur,hC,hcap,hmax,hCs,hsz0,hcs,hHn,fun j u hu=>⟨(hrel j u hu).1,(hrel j u hu).2.mono m⟩⟩)
  (fun b hb=>by
   have hb:(G'.cur id).ownBlock=some b:=hb
   rw [hcur] at hb
   simp only [Value.ownBlock,ab0] at hb
   subst hb; exact hbb)
 exact⟨G',key.1,key.2,hcur⟩
structure TE (G:Gh) (h:kP) (w:World) (sz:Nat) (rows:List (List kM)) (X:Value) (a:Option Addr) (news:List Value):Prop where
 form:∃cap,X=.slice a rows.length cap
 len:news.length=rows.length * sz
 rlen:∀r∈rows,r.length=sz
 at_:∀(j:Nat) u,news[j]?=some u→∃ad,a=some ad∧w.cell? (ad.add j)=some u
 rel:∀(i j:Nat) (row:List kM) (c:kM),rows[i]?=some row→row[j]?=some c→∃u,news[i * sz+j]?=some u∧lM G h c u∧c.mD=true
theorem Src.toV {sz:Nat}{rows:List (List kM)}{a:Option Addr}{news:List Value}(s:Src G h w sz rows X a news):TE G h w sz rows X a news :=
 ⟨s.form,s.len,s.rlen,s.at_,fun i j row c h1 h2=>by obtain⟨u,e1,e2,e3⟩:=s.rel i j row c h1 h2; exact⟨u,e1,.p _ _ e2,e3⟩⟩
theorem TE.one {sz : Nat} {rows : List (List kM)} {a : Option Addr} {news : List Value} (s : TE G h w sz rows X a news) : ∀ u ∈ news, u.oneCell' = true := by
  intro u hu
  obtain ⟨j, hj⟩ := List.getElem?_of_mem hu
  have hjl : j < rows.length * sz := by rw [← s.len]; exact (ab1.1 hj).1
  have hpos : 0 < sz := by rcases Nat.eq_zero_or_pos sz with h0 | h0; · rw [h0] at hjl; omega
                           · exact h0
  have hrow : j / sz < rows.length := (Nat.div_lt_iff_lt_mul hpos).2 hjl
  have h1 : rows[j / sz]? = some rows[j / sz] := ac0 hrow
  have hl := s.rlen _ (af1 h1)
  have h2 : rows[j / sz][j % sz]? = some (rows[j / sz][j % sz]'(by rw [hl]; exact Nat.mod_lt _ hpos)) := ac0 _
  obtain ⟨u', e1, e2, e3⟩ := s.rel _ _ _ _ h1 h2
  rw [show j / sz * sz + j % sz = j by rw [Nat.mul_comm]; exact Nat.div_add_mod j sz] at e1
  rw [hj] at e1; cases e1
  exact (e2.C7 e3).1
theorem TE.flat {sz:Nat}{rows:List (List kM)}{a:Option Addr}{news:List Value}(s:TE G h w sz rows X a news) :
  rows.flatten.length=news.length∧∀(k:Nat) (c:kM),rows.flatten[k]?=some c→c.mD=true∧∃u,news[k]?=some u∧lM G h c u:=by
 obtain⟨h1,h2⟩:=BO rows s.rlen
 refine⟨by rw [h1,s.len],fun k c hk=>?_⟩
 obtain⟨i,j,row,a1,a2,rfl⟩:=h2 k c hk
 obtain⟨u,b1,b2,b3⟩:=s.rel i j row c a1 a2
 exact⟨b3,u,b1,b2⟩
theorem D0 {sz:Nat}{rows:List (List kM)}(i:Inv G h w) (hb:EN sz h x=some rows) (hx:lM G h x X):∃a news,TE G h w sz rows X a news:=by
 unfold EN at hb
 split at hb
 ·rename_i r hr
  cases hb
  obtain⟨a,news,s⟩:=Ae i hr hx
  exact⟨a,news,s.toV⟩
 ·unfold afP at hb
  split at hb
  ·rename_i id tot off len sz' hno
   split at hb
   case h_2=>cases hb
   case h_1 x0 hgb =>
    have hid:=vA hgb
    split at hb
    case isFalse=>cases hb
    rename_i hcond
    obtain⟨rfl,hle⟩:=hcond
    simp only [ab0] at hb
    subst hb
    obtain⟨b,cap,rfl,hnf,htot,hlc,hv⟩:=hx.tI
    obtain⟨b',cap',C,e,g1,g2,g3,g4,g5,g6,g7,g8,g9⟩:=i.oP id _ hid
    obtain⟨l0,cap0,k1,_⟩:=hv (by rw [g1]; rfl)
    rw [g1] at k1
    simp only [Value.slice.injEq,ab0,Addr.mk.injEq] at k1
    obtain⟨⟨rfl,_⟩,_,rfl⟩:=k1
    have hcl:x0.2.length≤C.size:=by rw [g7,g5]; exact aj0 _ g3
    have hdl:((x0.2.drop off).take (len * sz')).length=len * sz':=by rw [ak8,al3]; omega
    obtain⟨q1,q2,q3⟩:=uN len sz' _ (by omega:len * sz'≤((x0.2.drop off).take (len * sz')).length)
    refine⟨some ⟨b',off,none⟩,(C.toList.drop off).take (len * sz'),⟨cap,by rw [q1]⟩,by rw [q1,ak8,al3,ak1]; omega,q2,?_,?_⟩
    ·intro j u hu
     rw [ah3] at hu
     split at hu
     ·refine⟨_,rfl,?_⟩
      rw [add_plain,cell_of w _ _ g2]
      rw [ah5,ad3] at hu
      exact hu
     ·cases hu
    ·intro i' j r c hi hj
     have hrow':=q3 i' j r c hi hj
     have hlt:i' * sz'+j < len * sz':=by
      have:=(ab1.1 hrow').1; omega
     have hc1:x0.2[off+(i' * sz'+j)]?=some c:=by
      rw [ah3,if_pos hlt,ah5] at hrow'; exact hrow'
     obtain⟨hk,hrel⟩:=g9 _ c hc1
     have hCl:off+(i' * sz'+j) < C.size:=by have:=(ab1.1 hc1).1; omega
     refine⟨C.getD (off+(i' * sz'+j)) undef,?_,hrel,hk⟩
     rw [ah3,if_pos hlt,ah5,ad3,Array.getElem?_eq_getElem hCl]
     simp [ab2,hCl]
  ·cases hb
theorem Er {G':Gh}{h':kP}{id tot n sz bb cap:Nat}{cs:List kM}(hb:h'[id]?=some (.vec tot sz cs)) (hc:G'.cur id=.slice (some ⟨bb,0,none⟩) tot cap) (hn:n≤tot) (ht:tot≤cap) :
  lM G' h' (.vslice id tot 0 n sz) (.slice (some ⟨bb,0,none⟩) n cap) :=
 .vslice id tot 0 n sz bb cap ⟨_,hb,by simp,by simp⟩ (by rw [hc]; exact ac5 _) (by omega) fun _=>⟨0,cap,hc,by simp,by omega,by omega⟩
set_option maxHeartbeats 2000000 in
theorem Mo {t ty e:TypeId}{sz bytes:Nat}{z r:kM}{h':kP}(i:Inv G h w) (ht:P.underlying t=some (.slice e)) (hn:oU P e=some sz) (hby:zA P e=some bytes)
  (hz:tA P e=some z) (hzj:z.pL=false) (hzl:z.cells.length=sz) (hsz:sz≠0) (hb:yV sz bytes h x y=some (r,h')) (hx:lM G h x X) (hy:lM G h y Y) :
  ∃V w' G',(Builtin.append_ #[t,t] ty #[X,Y]).run P w=.ok V w'∧Inv G' h' w'∧Ext G h w G' h' w'∧lM G' h' r V:=by
 obtain⟨ti,hti,hts,htb,Z,hzz,hZs⟩:∃ti,P.info? e=some ti∧ti.size=sz∧ti.bytes=bytes∧∃Z,ti.zero=some Z∧Z.cells.size=sz:=by
  unfold oU at hn; unfold zA at hby; unfold tA at hz
  cases hi:P.info? e with
  | none=>simp [hi] at hn
  | some ti =>
   simp [hi] at hn hby hz
   obtain⟨Z,hZ1,hZ2⟩:=hz
   refine⟨ti,rfl,hn,hby,Z,hZ1,?_⟩
   subst hZ2
   rw [←hzl]; exact(xF hzj (wW G h Z)).1.symm
 have fromNil:∀{G:Gh}{h:kP}{id:Nat}{new:List (List kM)}{a:Option Addr}{news:List Value}{capY:Nat},Inv G h w→h[id]?=some (.front 0 0)→TE G h w sz new Y a news→Y=.slice a new.length capY→new.length≠0 →
   new.length * bytes≤140737488355328→new.length≤140737488355328 →
   ∃V w' G',(Builtin.append_ #[t,t] ty #[.slice none 0 0,Y]).run P w=.ok V w'∧Inv G' (h.set id (.vec new.length sz new.flatten)) w'∧Ext G h w G' (h.set id (.vec new.length sz new.flatten)) w' ∧
    lM G' (h.set id (.vec new.length sz new.flatten)) (.vslice id new.length 0 new.length sz) V:=by
  intro G h id new a news capY i hid src hYf hm hbytes hsmall
  have hposn:0 < news.length:=by rw [src.len]; exact Nat.mul_pos (by omega) (by omega)
  obtain⟨ad,had,_⟩:=src.at_ 0 _ (ac0 hposn)
  subst had
  have hnews:∀j u,news[j]?=some u→w.cell? (ad.add j)=some u:=fun j u hu=>by
   obtain⟨ad',e1,e2⟩:=src.at_ j u hu; cases e1; exact e2
  have hnl:news.length=new.length * ti.size:=by rw [hts]; exact src.len
  have hrun:=run_append_nil (P:=P) w t ty e ti Z ht hti hzz ad new.length capY news hnl hnews (by omega) (by omega) (by rw [htb]; omega)
  have hcapg:=grownCap_ge w new.length 0 e
  have hcapm:=grownCap_le_maxLen w new.length 0 e (by simp only [maxLen]; omega)
  obtain⟨f1,f2⟩:=src.flat
  obtain⟨G',g1,g2,g3⟩:=i.QW (id:=id) (tot':=new.length) (sz:=sz) (bb:=w.heap.size) (cap':=grownCap w new.length 0 e) (cs':=new.flatten)
   (w':=w.drew.alloc (.cells (news.toArray++Builtin.zeroCells Z.cells (grownCap w new.length 0 e - new.length)) e)) hid (.inl rfl) rfl rfl rfl (by simp)
   (fun k hk _=>n9 w.drew _ k hk) (.inl (ac5 _)) (heap_alloc_new w.drew _) (by omega) hcapm
   (by simp only [Array.size_append,List.size_toArray,size_zeroCells,hZs,src.len,←al4]; congr 1; omega)
   (by omega) (by rw [f1,src.len]) (fun j u hu=>by
    obtain⟨c1,u',c2,c3⟩:=f2 j u hu
    refine⟨c1,?_⟩
    rw [ab2,Array.getElem?_append_left (by simpa using (ab1.1 c2).1),List.getElem?_toArray,c2]
    exact c3)
  rw [hYf]
  refine⟨_,_,G',hrun,g1,g2,Er (cs:=new.flatten) ?_ g3 (ac5 _) hcapg⟩
  simp [(ab1.1 hid).1]
 unfold yV at hb
 split at hb
 ·-- a token that nobody has used
  rename_i id new hnew
  obtain⟨a,news,src⟩:=D0 i hnew hy
  obtain⟨capY,hYf⟩:=src.form
  split at hb
  ·rename_i hid
   split at hb
   case isFalse=>cases hb
   rename_i hcond
   obtain⟨hbytes,hsmall⟩:=hcond
   obtain⟨hX,_,hcur⟩:=FT i hx hid rfl
   have hc:G.cur id=.slice none 0 0:=by
    rcases hcur with ⟨_,hc⟩ | ⟨b,cap,C,e0,hc,_,_,_,_,hs0,_⟩
    ·exact hc
    ·omega
   rw [hX,hc]
   split at hb
   ·rename_i hm
    simp only [ab0,af8] at hb
    obtain⟨rfl,rfl⟩:=hb
    refine⟨.slice none 0 0,w,G,?_,i,Ext.refl G h w,by rw [hX,hc] at hx; exact hx⟩
    rw [hYf,hm]
    exact u9 ht hti none a 0 0 capY (ac5 _)
   ·rename_i hm
    simp only [ab0,af8] at hb
    obtain⟨rfl,rfl⟩:=hb
    exact fromNil i hid src hYf hm hbytes hsmall
  ·cases hb
 ·-- a nil slice
  rename_i new hnew
  obtain⟨a,news,src⟩:=D0 i hnew hy
  obtain⟨capY,hYf⟩:=src.form
  have hX:=hx.FO
  rw [hX]
  split at hb
  ·rename_i hm
   simp only [ab0,af8] at hb
   obtain⟨rfl,rfl⟩:=hb
   refine⟨.slice none 0 0,w,G,?_,i,Ext.refl G h w,by rw [hX] at hx; exact hx⟩
   rw [hYf,hm]
   exact u9 ht hti none a 0 0 capY (ac5 _)
  ·rename_i hm
   split at hb
   case isFalse=>cases hb
   rename_i hcond
   obtain⟨hbytes,hsmall⟩:=hcond
   simp only [ab0,af8] at hb
   obtain⟨rfl,rfl⟩:=hb
   obtain⟨G1,i1,x1,hc1,hH1⟩:=i.Ek
   have src1:TE G1 (h++[.front 0 0]) w sz new Y a news:=⟨src.form,src.len,src.rlen,src.at_,fun i j row c h1 h2=>by
    obtain⟨u,e1,e2,e3⟩:=src.rel i j row c h1 h2; exact⟨u,e1,e2.mono x1.toMono,e3⟩⟩
   obtain⟨V,w',G',k1,k2,k3,k4⟩:=fromNil (id:=h.length) i1 (by simp) src1 hYf hm hbytes hsmall
   have hset:(h++[lE.front 0 0]).set h.length (.vec new.length sz new.flatten)=h++[.vec new.length sz new.flatten]:=by simp
   rw [hset] at k2 k3 k4
   exact⟨V,w',G',k1,k2,x1.trans k3,k4⟩
 ·-- a slice that is written into
  rename_i id tot n sz' new hnew
  obtain⟨a,news,src⟩:=D0 i hnew hy
  obtain⟨capY,hYf⟩:=src.form
  split at hb
  ·rename_i x0 hgv
   have hid:=vA hgv
   split at hb
   case isFalse=>cases hb
   rename_i hcond
   obtain⟨rfl,hx1,hbytes,hsmall⟩:=hcond
   obtain⟨b,cap,rfl,hnf,htot,hlc,hv⟩:=hx.tI
   obtain⟨b',cap',C,e0,g1,g2,g3,g4,g5,g6,g7,g8,g9⟩:=i.oP id _ hid
   obtain⟨l0,cap0,k1,k2,k3,k4⟩:=hv (by rw [g1]; rfl)
   have hcur:=g1
   rw [g1] at k1
   simp only [Value.slice.injEq,ab0,Addr.mk.injEq] at k1
   obtain⟨⟨rfl,_⟩,_,rfl⟩:=k1
   obtain⟨szb,cs⟩:=x0
   simp only at hx1 hid g5 g6 g7 g9 hb
   subst hx1
   have hl0:l0=0:=by
    rcases Nat.eq_zero_or_pos l0 with h0 | h0
    ·exact h0
    ·have:=Nat.mul_pos h0 g6; omega
   subst hl0
   simp only [Nat.sub_zero] at k4
   subst k4
   rw [hYf]
   split at hb
   ·rename_i hm
    simp only [ab0,af8] at hb
    obtain⟨rfl,rfl⟩:=hb
    refine⟨_,w,G,?_,i,Ext.refl G h w,hx⟩
    rw [hm]
    exact u9 ht hti _ a n _ capY hlc
   ·rename_i hm
    have hposn:0 < news.length:=by rw [src.len]; exact Nat.mul_pos (by omega) (by omega)
    obtain⟨ad,had,_⟩:=src.at_ 0 _ (ac0 hposn)
    subst had
    have hnews:∀j u,news[j]?=some u→w.cell? (ad.add j)=some u:=fun j u hu=>by
     obtain⟨ad',e1,e2⟩:=src.at_ j u hu; cases e1; exact e2
    have hone:=src.one
    have hnl:news.length=new.length * ti.size:=by rw [hts]; exact src.len
    obtain⟨f1,f2⟩:=src.flat
    have hnt:n≤tot:=by omega
    have hns:n * szb≤tot * szb:=aj0 _ hnt
    have hts2:tot * szb≤C.size:=by rw [g5]; exact aj0 _ g3
    have room:∀{m:Nat},n+new.length≤cap→m=n+new.length →
      (Builtin.append_ #[t,t] ty #[.slice (some ⟨b',0,none⟩) n cap,.slice (some ad) new.length capY]).run P w =
      .ok (.slice (some ⟨b',0,none⟩) m cap) (w.setRow b' (C.toList.take (n * szb)++news++C.toList.drop (n * szb+news.length)).toArray):=by
     intro m hroom hm'
     subst hm'
     have hfit:n * ti.size+news.length≤C.size:=by rw [hts,src.len,g5,←al4]; exact aj0 _ hroom
     have hf:=run_firstCells_some (P:=P) w ti.size new.length ad new.length capY news hnl hnews
     have hst:=run_storeCells_at P b' (n * ti.size) e0 news 0 C w g2 (by simpa using hfit) hone
     simp only [al5] at hst
     rw [←hts]
     simp [Builtin.append_,run_underlying ht,Go.sizeOf,Go.typeInfo,hti,Builtin.lenOf,hroom,hf,Addr.add_lit,hst]
    split at hb
    ·-- within what is there
     rename_i hin
     simp only [ab0,af8] at hb
     obtain⟨rfl,rfl⟩:=hb
     have hle:n * szb+new.flatten.length≤cs.length:=by
      rw [f1,src.len,g7,←al4]; exact aj0 _ hin
     obtain⟨w1,w2⟩:=i.OY (off:=n * szb) (vs:=new.flatten) (U:=news) hid hcur g2 hle f1.symm (fun j u hu=>by
      obtain⟨c1,u',c2,c3⟩:=f2 j u hu
      refine⟨c1,?_⟩
      rw [af6,c2]; exact c3)
     refine⟨_,_,G,room (by omega) rfl,w1,w2,Er (cs:=putCells cs (n * szb) new.flatten) ?_ hcur hin g3⟩
     simp [(ab1.1 hid).1]
    ·rename_i hin
     simp only [ab0,af8] at hb
     obtain⟨rfl,rfl⟩:=hb
     have htk:(cs.take (n * szb)).length=n * szb:=by rw [ak8]; omega
     have hcl:(cs.take (n * szb)++new.flatten).length=(n+new.length) * szb:=by
      rw [ac2,htk,f1,src.len,al4]
     have cells:∀(C':Array Value),(∀k,k < n * szb→C'[k]?=C[k]?)→(∀k u,news[k]?=some u→C'[n * szb+k]?=some u) →
       ∀(j:Nat) (u:kM),(cs.take (n * szb)++new.flatten)[j]?=some u→u.mD=true∧lM G h u (C'.getD j undef):=by
      intro C' hC1 hC2 j u hu
      by_cases hj:j < n * szb
      ·rw [af7 (by omega),ah3,if_pos hj] at hu
       have:=g9 j u hu
       rw [ab2] at this ⊢
       rw [hC1 j hj]; exact this
      ·rw [ac9 (by omega),htk] at hu
       obtain⟨c1,u',c2,c3⟩:=f2 _ u hu
       refine⟨c1,?_⟩
       have:=hC2 _ _ c2
       rw [show n * szb+(j - n * szb)=j by omega] at this
       rw [ab2,this]; exact c3
     by_cases hroom:n+new.length≤cap
     ·have hfit:n * szb+news.length≤C.size:=by rw [src.len,g5,←al4]; exact aj0 _ hroom
      obtain⟨G',k5,k6,k7⟩:=i.QW (id:=id) (tot':=n+new.length) (sz:=szb) (bb:=b') (cap':=cap) (cs':=cs.take (n * szb)++new.flatten)
       (C':=(C.toList.take (n * szb)++news++C.toList.drop (n * szb+news.length)).toArray) (e':=e0)
       (w':=w.setRow b' (C.toList.take (n * szb)++news++C.toList.drop (n * szb+news.length)).toArray) hid (.inr ⟨tot,szb,cs,rfl,by omega⟩) (by simp) (by simp) (by simp) (by simp)
       (fun k hk hne=>setRow_other w b' k _ (fun e=>hne (by simp [nN,hcur,Value.ownBlock,e]))) (.inr (by simp [nN,hcur,Value.ownBlock])) (setRow_heap w b' C _ e0 _ g2) hroom g4
       (by simp; omega) g6 hcl (cells _ (fun k hk=>by rw [u2 C news _ k hfit,if_pos hk]) (fun k u hu=>by
        have:=(ab1.1 hu).1
        rw [u2 C news _ _ hfit,if_neg (by omega),if_pos (by omega),show n * szb+k - n * szb=k by omega]; exact hu))
      refine⟨_,_,G',room hroom rfl,k5,k6,Er (cs:=cs.take (n * szb)++new.flatten) ?_ k7 (ac5 _) hroom⟩
      simp [(ab1.1 hid).1]
     ·have hxl:(C.toList.take (n * szb)).length=n * szb:=by
       rw [ak8,ak1]; omega
      have hxc:∀j u,(C.toList.take (n * szb))[j]?=some u→w.cell? ((⟨b',0,none⟩:Addr).add j)=some u:=by
       intro j u hu
       rw [ah3] at hu
       split at hu
       ·rw [add_plain,cell_of w _ _ g2,al6]; rwa [ad3] at hu
       ·cases hu
      have hrun:=run_append_grow (P:=P) w t ty e ti Z ht hti hzz ⟨b',0,none⟩ n cap (C.toList.take (n * szb)) (by rw [hts]; exact hxl) hxc ad new.length capY news hnl hnews (by omega) (by omega)
       (growslice_fits (by omega) (by rw [htb]; exact hbytes))
      have hcapg:=grownCap_ge w (n+new.length) cap e
      have hcapm:=grownCap_le_maxLen w (n+new.length) cap e (by simp only [maxLen]; omega)
      obtain⟨G',k5,k6,k7⟩:=i.QW (id:=id) (tot':=n+new.length) (sz:=szb) (bb:=w.heap.size) (cap':=grownCap w (n+new.length) cap e) (cs':=cs.take (n * szb)++new.flatten)
       (w':=w.drew.alloc (.cells ((C.toList.take (n * szb)).toArray++news.toArray++Builtin.zeroCells Z.cells (grownCap w (n+new.length) cap e - (n+new.length))) e)) hid
       (.inr ⟨tot,szb,cs,rfl,by omega⟩) rfl rfl rfl (by simp)
       (fun k hk _=>n9 w.drew _ k hk) (.inl (ac5 _)) (heap_alloc_new w.drew _) (by omega) hcapm
       (by simp only [Array.size_append,List.size_toArray,size_zeroCells,hZs,src.len,hxl,←al4]; congr 1; omega)
       g6 hcl (cells _ (fun k hk=>by
        rw [Array.getElem?_append_left (by simp [hxl,src.len]; omega),List.append_toArray,List.getElem?_toArray,af7 (by omega),ah3,if_pos hk,ad3]) (fun k u hu=>by
        have hk:=(ab1.1 hu).1
        rw [Array.getElem?_append_left (by simp only [List.append_toArray,List.size_toArray,ac2,hxl]; omega),List.append_toArray,List.getElem?_toArray,ac9 (by omega),hxl,show n * szb+k - n * szb=k by omega]; exact hu))
      refine⟨_,_,G',hrun,k5,k6,Er (cs:=cs.take (n * szb)++new.flatten) ?_ k7 (ac5 _) hcapg⟩
      simp [(ab1.1 hid).1]
  ·cases hb
 ·cases hb
theorem Dg {r:kM}{h':kP}(i:Inv G h w) (hb:rY h x=some (r,h')) (hx:lM G h x X):∃G',Inv G' h' w∧Ext G h w G' h' w∧lM G' h' r X:=by
 unfold rY at hb
 split at hb
 ·rename_i id tot off len sz
  split at hb
  ·rename_i x0 hgv
   have hid:=vA hgv
   split at hb
   ·rename_i row hrow
    split at hb
    case isFalse=>cases hb
    rename_i hle
    simp only [ab0,af8] at hb
    obtain⟨rfl,rfl⟩:=hb
    obtain⟨b,cap,rfl,hnf,htot,hlc,hv⟩:=hx.tI
    obtain⟨b',cap',C,e0,g1,g2,g3,g4,g5,g6,g7,g8,g9⟩:=i.oP id _ hid
    obtain⟨l0,cap0,k1,k2,k3,k4⟩:=hv (by rw [g1]; rfl)
    have hcur:=g1
    rw [g1] at k1
    simp only [Value.slice.injEq,ab0,Addr.mk.injEq] at k1
    obtain⟨⟨rfl,_⟩,_,rfl⟩:=k1
    let G':Gh:={ G with H:=fun b k=>if b=b' then C[k]? else G.H b k }
    have hH:∀b k,G'.H b k=if b=b' then C[k]? else G.H b k:=fun _ _=>rfl
    have hmono:∀b k v,G.H b k=some v→G'.H b k=some v:=by
     intro b k v hvv
     rw [hH]
     by_cases hbe:b=b'
     ·subst hbe; rw [g8] at hvv; cases hvv
     ·rw [if_neg hbe]; exact hvv
    have key:=i.step (G':=G') (w':=w) id (.vec tot x0.1 x0.2) .gone hid rfl rfl rfl (ac5 _) (fun _ _ _=>rfl) (fun _ _=>rfl) (fun _ _=>rfl) hmono
     (fun b k _ hne=>by
      rw [hH,if_neg]
      rintro rfl
      exact hne (by simp [nN,hcur,Value.ownBlock]))
     (fun b k v hbb hvv=>by
      rw [hH] at hvv
      split at hvv
      ·rename_i he; subst he; rw [cell_of w _ _ g2]; exact hvv
      ·exact i.ok b k v hvv)
     ⟨rfl,ac5 _,fun _=>rfl⟩ (fun _=>trivial) (fun b hb=>by cases hb)
    refine⟨G',key.1,key.2,.p _ _ ?_⟩
    obtain⟨p1,p2⟩:=tJ hrow
    have hdl:((x0.2.drop off).take (len * sz)).length=len * sz:=by rw [ak8,al3]; omega
    rw [hdl] at p1
    refine DO (F:=fun j=>C.getD (off+j) undef) (by omega) hlc fun j v hvv _=>?_
    have hj:j < len * sz:=by rw [←p1]; exact(ab1.1 hvv).1
    obtain⟨c',e1,e2⟩:=p2 j _ (ac0 (by omega))
    rw [hvv] at e1; cases e1
    have hcs:x0.2[off+j]?=some (((x0.2.drop off).take (len * sz))[j]'(by omega)):=by
     have:=ac0 (l:=(x0.2.drop off).take (len * sz)) (i:=j) (by omega)
     rw [ah3,if_pos hj,ah5] at this
     exact this
    obtain⟨_,hrel⟩:=g9 _ _ hcs
    obtain⟨z1,z2⟩:=zV e2 hrel
    have hlt:off+j < C.size:=by
     have:=(ab1.1 hcs).1
     have h2:x0.2.length≤C.size:=by rw [g7,g5]; exact aj0 _ g3
     omega
    refine⟨?_,z1.mono hmono,z2⟩
    rw [hH,if_pos rfl,Array.getElem?_eq_getElem hlt]
    simp [ab2,hlt]
   ·cases hb
  ·cases hb
 ·simp only [ab0,af8] at hb
  obtain⟨rfl,rfl⟩:=hb
  exact⟨G,i,Ext.refl G h w,hx⟩
theorem EK:∀{cs r:List kM}{Cs:List Value}{G:Gh}{h h':kP},Inv G h w→EJ h cs=some (r,h')→cs.length=Cs.length→(∀(j:Nat) (v:kM) (V:Value),cs[j]?=some v→Cs[j]?=some V→lM G h v V) →
  ∃G',Inv G' h' w∧Ext G h w G' h' w∧r.length=cs.length∧∀(j:Nat) (v:kM) (V:Value),r[j]?=some v→Cs[j]?=some V→lM G' h' v V
 | [],_,_,G,h,_,i,hb,_,_=>by
  simp only [EJ,ab0,af8] at hb
  obtain⟨rfl,rfl⟩:=hb
  exact⟨G,i,Ext.refl G h w,rfl,fun j v V hv=>by simp at hv⟩
 | c::cs,_,[],_,_,_,_,_,hl,_=>by simp at hl
 | c::cs,_,C::Cs,G,h,_,i,hb,hl,hr=>by
  simp only [EJ] at hb
  obtain⟨⟨y,h1⟩,hy,hb⟩:=aa2.1 hb
  obtain⟨⟨z,h2⟩,hz,hb⟩:=aa2.1 hb
  simp only [ab0,af8] at hb
  obtain⟨rfl,rfl⟩:=hb
  obtain⟨G1,i1,x1,r1⟩:=Dg i hy (hr 0 c C rfl rfl)
  obtain⟨G2,i2,x2,hl2,r2⟩:=EK (cs:=cs) (Cs:=Cs) i1 hz (by simpa using hl) (fun j v V hv hV=>(hr (j+1) v V hv hV).mono x1.toMono)
  refine⟨G2,i2,x1.trans x2,by simp [hl2],fun j v V hv hV=>?_⟩
  cases j with
  | zero =>
   simp only [List.getElem?_cons_zero,ab0] at hv hV
   subst hv hV
   exact r1.mono x2.toMono
  | succ j=>exact r2 j v V hv hV
theorem Mw {r:kM}{h':kP}(i:Inv G h w) (hb:Mv h x=some (r,h')) (hx:lM G h x X):∃G',Inv G' h' w∧Ext G h w G' h' w∧lM G' h' r X:=by
 unfold Mv at hb
 split at hb
 ·rename_i cs
  obtain⟨⟨z,h1⟩,hz,hb⟩:=aa2.1 hb
  simp only [ab0,af8] at hb
  obtain⟨rfl,rfl⟩:=hb
  obtain⟨C,rfl,hl,hr⟩:=hx.Ac
  have get:∀(j:Nat) (V:Value),C.toList[j]?=some V→C.getD j undef=V:=by
   intro j V hV
   rw [ad3] at hV
   rw [ab2,hV]; rfl
  obtain⟨G',i',x',hl',hr'⟩:=EK (Cs:=C.toList) i hz (by simpa using hl) (fun j v V hv hV=>by
   have:=hr j v hv
   rw [get j V hV] at this
   exact this)
  refine⟨G',i',x',.agg _ _ (by rw [hl',hl]) fun j v hv=>?_⟩
  have hj:j < C.toList.length:=by
   have:=(ab1.1 hv).1
   simp only [ak1]
   omega
  have hV:=ac0 hj
  rw [get j _ hV]
  exact hr' j v _ hv hV
 ·simp only [ab0,af8] at hb
  obtain⟨rfl,rfl⟩:=hb
  exact⟨G,i,Ext.refl G h w,hx⟩
theorem Gs {t e:TypeId}{len sz:Nat}{z r:kM}{h':kP}{parts:Array (Nat×Operand)}{f:Operand→kM}{F:Operand→Value}
  (i:Inv G h w) (ht:P.underlying t=some (.slice e)) (hz:tA P e=some z) (hn:oU P e=some sz) (hsz:sz≠0) (hle:len * sz≤16777216) (hf:∀o,lM G h (f o) (F o)) (hzj:z.pL=false)
  (hb:DY len sz z.cells (parts.toList.map fun p=>(p.1,f p.2)) h=some (r,h')) :
  ∃V w' G',(Instr.buildSlice t len (parts.map fun(i,x)=>(i,F x))).run P w=.ok V w'∧Inv G' h' w'∧Ext G h w G' h' w'∧lM G' h' r V:=by
 unfold DY at hb
 split at hb
 ·rename_i rows hrows
  simp only [ab0,af8] at hb
  obtain⟨rfl,rfl⟩:=hb
  obtain⟨cs,row,C,h1,rfl,h3,h4,h5,h6⟩:=Ch (G:=G) (h:=h) (w:=w) ht hz hn hsz hle hf hzj hrows
  obtain⟨G1,i1,x1,hc1,hH1⟩:=i.Ek
  obtain⟨p1,p2⟩:=tJ h1
  have hcl:cs.length=len * sz:=by rw [h3.1,h4]
  obtain⟨q1,q2,q3⟩:=uN len sz row (by omega)
  obtain⟨f1,f2⟩:=BO _ q2
  obtain⟨G',g1,g2,g3⟩:=i1.QW (id:=h.length) (tot':=len) (sz:=sz) (bb:=w.heap.size) (cap':=len) (cs':=(rowsOf len sz row).flatten) (C':=C) (e':=e) (w':=w.alloc (.cells C e)) (by simp) (.inl rfl) rfl rfl rfl (by simp)
   (fun k hk _=>n9 w _ k hk) (.inl (ac5 _)) (heap_alloc_new w _) (ac5 _) h5 h4 (by omega) (by rw [f1,q1]) (fun k u hu=>by
    obtain⟨i',j,r,a1,a2,rfl⟩:=f2 k u hu
    have hr:=q3 i' j r u a1 a2
    have hlt:i' * sz+j < cs.length:=by rw [←p1]; exact(ab1.1 hr).1
    obtain⟨c',e1,e2⟩:=p2 _ _ (ac0 hlt)
    rw [hr] at e1; cases e1
    obtain⟨z1,z2⟩:=zV e2 (h3.2 _ _ (ac0 hlt))
    refine⟨z2,.p _ _ ?_⟩
    rw [hH1]; exact z1)
  have hset:(h++[lE.front 0 0]).set h.length (.vec len sz (rowsOf len sz row).flatten)=h++[.vec len sz (rowsOf len sz row).flatten]:=by simp
  rw [hset] at g1 g2
  exact⟨_,_,G',h6,g1,x1.trans g2,Er (cs:=(rowsOf len sz row).flatten) (by simp) g3 (ac5 _) (ac5 _)⟩
 ·unfold Hj at hb
  split at hb
  ·rename_i cs hbd
   split at hb
   case isFalse=>cases hb
   rename_i hcond
   obtain⟨hzl,hall⟩:=hcond
   simp only [ab0,af8] at hb
   obtain⟨rfl,rfl⟩:=hb
   obtain⟨C,h3,h4,h5,h6⟩:=Dv (G:=G) (h:=h) (w:=w) ht hz hn hsz hle hf hzj hzl hbd
   obtain⟨G1,i1,x1,hc1,hH1⟩:=i.Ek
   have hcl:cs.length=len * sz:=by rw [h3.1,h4]
   obtain⟨G',g1,g2,g3⟩:=i1.QW (id:=h.length) (tot':=len) (sz:=sz) (bb:=w.heap.size) (cap':=len) (cs':=cs) (C':=C) (e':=e) (w':=w.alloc (.cells C e)) (by simp) (.inl rfl) rfl rfl rfl (by simp)
    (fun k hk _=>n9 w _ k hk) (.inl (ac5 _)) (heap_alloc_new w _) (ac5 _) h5 h4 (by omega) hcl (fun k u hu =>
     ⟨ah1.1 hall u (af1 hu),(h3.2 k u hu).mono x1.toMono⟩)
   have hset:(h++[lE.front 0 0]).set h.length (.vec len sz cs)=h++[.vec len sz cs]:=by simp
   rw [hset] at g1 g2
   exact⟨_,_,G',h6,g1,x1.trans g2,Er (cs:=cs) (by simp) g3 (ac5 _) (ac5 _)⟩
  ·cases hb
theorem Rc {t t2 e ty:TypeId}{r:kM}{h':kP}(i:Inv G h w) (ht:P.underlying t=some (.slice e)) (hn:oU P e=some 1)
  (hb:Wd h x y=some (r,h')) (hx:lM G h x X) (hy:lM G h y Y) :
  ∃V w' G',(Builtin.copy_ #[t,t2] ty #[X,Y]).run P w=.ok V w'∧Inv G' h' w'∧Ext G h w G' h' w'∧lM G' h' r V:=by
 obtain⟨ti,hti,hts⟩:∃ti,P.info? e=some ti∧ti.size=1:=by
  unfold oU at hn
  cases hi:P.info? e with
  | none=>simp [hi] at hn
  | some ti=>simp [hi] at hn; exact⟨ti,rfl,hn⟩
 unfold Wd at hb
 split at hb
 ·rename_i id tot off len bs
  split at hb
  ·rename_i x0 hgv
   have hid:=vA hgv
   split at hb
   case isFalse=>cases hb
   rename_i hcond
   obtain⟨hle,hx1⟩:=hcond
   simp only [ab0,af8] at hb
   obtain⟨rfl,rfl⟩:=hb
   have hY:=hy.AD
   subst hY
   obtain⟨b,cap,rfl,hnf,htot,hlc,hv⟩:=hx.tI
   obtain⟨b',cap',C,e0,g1,g2,g3,g4,g5,g6,g7,g8,g9⟩:=i.oP id _ hid
   obtain⟨l0,cap0,k1,k2,k3,k4⟩:=hv (by rw [g1]; rfl)
   have hcur:=g1
   rw [g1] at k1
   simp only [Value.slice.injEq,ab0,Addr.mk.injEq] at k1
   obtain⟨⟨rfl,_⟩,_,rfl⟩:=k1
   obtain⟨szb,cs⟩:=x0
   simp only at hx1 hid g5 g6 g7 g9 hle
   subst hx1
   have hU:((bs.take len).map fun b=>Value.int .u8 b.toNat).length=((bs.take len).map fun b=>kM.int .u8 b.toNat).length:=by simp
   have hfit:off+((bs.take len).map fun b=>kM.int .u8 b.toNat).length≤cs.length:=by
    rw [al0,ak8]; omega
   obtain⟨w1,w2⟩:=i.OY (off:=off) (vs:=(bs.take len).map fun b=>kM.int .u8 b.toNat) (U:=(bs.take len).map fun b=>Value.int .u8 b.toNat) hid hcur g2 hfit hU (fun j u hu=>by
    rw [ai1,ac6] at hu
    obtain⟨c,hc,rfl⟩:=hu
    refine⟨rfl,?_⟩
    rw [af6,ai1,hc]
    exact .p _ _ (.int _ _))
   have hCl:cs.length≤C.size:=by rw [g7,g5]; exact aj0 _ g3
   have hone:∀u∈((bs.take len).map fun b=>Value.int .u8 b.toNat),u.oneCell'=true:=by
    intro u hu
    obtain⟨c,_,rfl⟩:=List.mem_map.1 hu
    rfl
   have hst:=run_storeCells_at P b' off e0 ((bs.take len).map fun b=>Value.int .u8 b.toNat) 0 C w g2 (by simp only [al5,al0,ak8] at hfit ⊢; omega) hone
   simp only [al5] at hst
   refine⟨.int .i64 (min bs.length len:Nat),_,G,?_,w1,w2,.p _ _ (.int _ _)⟩
   have hsz:(⟨bs.toArray⟩:ByteArray).size=bs.length:=by simp [ByteArray.size]
   have e5:List.take (min len bs.length) (List.map (fun b=>Value.int .u8 b.toNat) bs)=List.take len (List.map (fun b=>Value.int .u8 b.toNat) bs):=by
    rw [List.take_eq_take_iff]
    simp only [al0]
    omega
   rw [List.map_take] at hst
   have e6:bs.length.min len=min len bs.length:=Nat.min_comm _ _
   simp [Builtin.copy_,run_underlying ht,Go.sizeOf,Go.typeInfo,hti,hts,Builtin.lenOf,hsz,Builtin.firstCells,Sem.run_pure,e6,e5,hst,goInt,Nat.min_comm bs.length len]
  ·cases hb
 ·cases hb
theorem Hn {t e:TypeId}{sz by_:Nat}{z r:kM}{h':kP}(i:Inv G h w) (ht:P.underlying t=some (.slice e)) (hn:oU P e=some sz) (hby:zA P e=some by_) (hz:tA P e=some z)
  (h0:sz≠0) (hj:z.pL=false) (hl:z.cells.length=sz) (hk:z.cells.all kM.mD=true) (hb:zM sz by_ z.cells x h=some (r,h')) {k k':IntKind}{n:Int}(hxn:x=.int k n) (hX:X=.int k n) (hY:Y=.int k' n) :
  ∃V w' G',(Instr.makeSlice t X Y).run P w=.ok V w'∧Inv G' h' w'∧Ext G h w G' h' w'∧lM G' h' r V:=by
 subst hxn; subst hX; subst hY
 simp only [zM] at hb
 split at hb
 case isFalse=>cases hb
 rename_i hcond
 obtain⟨hn0,hbytes,hmax⟩:=hcond
 simp only [ab0,af8] at hb
 obtain⟨rfl,rfl⟩:=hb
 obtain⟨m,rfl⟩:=Int.eq_ofNat_of_zero_le hn0
 simp only [Int.toNat_natCast] at *
 unfold oU at hn; unfold zA at hby; unfold tA at hz
 cases hi:P.info? e with
 | none=>simp [hi] at hn
 | some ti =>
  simp only [hi,Option.map_some,ab0,af4,ac6] at hn hby hz
  obtain⟨Z,hZ,hz⟩:=hz
  have hrun:=run_make (P:=P) w t e ti Z ht hi hZ k k' m m hn0 (Int.le_refl _) (by
   rw [hby]
   have:((m * by_:Nat):Int)≤140737488355328:=by omega
   rw [Int.natCast_mul] at this
   rw [Int.mul_comm]; omega) (by omega)
  obtain⟨G1,i1,x1,hc1,hH1⟩:=i.Ek
  have hrz:lM G1 (h++[.front 0 0]) z Z:=by rw [←hz]; exact wW G1 _ Z
  have hcz:=xF hj hrz
  have hrc:=Aw (G:=G1) (h:=h++[lE.front 0 0]) hcz m
  have hmade:madeCells Z.cells ((m:Int).toNat * ti.size)=(Array.range (m * Z.cells.size)).map fun j=>Z.cells[j % Z.cells.size]! := by
   rw [hn,←hl,hcz.1]; simp [madeCells]
  rw [hmade] at hrun
  have hfl:(aj3 m z.cells).flatten.length=m * sz:=by simp [hl]
  obtain⟨G',g1,g2,g3⟩:=i1.QW (id:=h.length) (tot':=m) (sz:=sz) (bb:=w.heap.size) (cap':=m) (cs':=(aj3 m z.cells).flatten) (C':=(Array.range (m * Z.cells.size)).map fun j=>Z.cells[j % Z.cells.size]!) (e':=e)
   (w':=w.alloc (.cells ((Array.range (m * Z.cells.size)).map fun j=>Z.cells[j % Z.cells.size]!) e)) (by simp) (.inl rfl) rfl rfl rfl (by simp)
   (fun k hk _=>n9 w _ k hk) (.inl (ac5 _)) (heap_alloc_new w _) (ac5 _) (by simp only [maxLen]; omega) (by simp [←hcz.1,hl]) (by omega) hfl (fun k u hu=>by
    refine⟨?_,hrc.2 k u hu⟩
    obtain⟨l,hl1,hl2⟩:=List.mem_flatten.1 (af1 hu)
    rw [(List.mem_replicate.1 hl1).2] at hl2
    exact ah1.1 hk u hl2)
  have hset:(h++[lE.front 0 0]).set h.length (.vec m sz (aj3 m z.cells).flatten)=h++[.vec m sz (aj3 m z.cells).flatten]:=by simp
  rw [hset] at g1 g2
  exact⟨_,_,G',by simpa using hrun,g1,x1.trans g2,Er (cs:=(aj3 m z.cells).flatten) (by simp) g3 (ac5 _) (ac5 _)⟩
theorem Rb {t e ty:TypeId}{sz:Nat}{z:kM}{h':kP}{ts:Array TypeId}(i:Inv G h w) (ht:P.underlying t=some (.slice e)) (hz:tA P e=some z) (hzj:z.pL=false)
  (hb:Wb sz z.cells h x=some h') (hx:lM G h x X) (hts:ts[0]?=some t):∃w',(Builtin.clear_ ts ty #[X]).run P w=.ok (.tuple #[]) w'∧Inv G h' w'∧Ext G h w G h' w':=by
 unfold Wb at hb
 split at hb
 ·rename_i tok
  cases hb
  obtain⟨a,cap,hX⟩:∃a cap,X=.slice a 0 cap:=by
   have:=hx.wD
   cases this with
   | slice0 a cap=>exact⟨a,cap,rfl⟩
   | slice rows b off cap sz V _ _ _ _ _=>exact⟨_,cap,rfl⟩
  subst hX
  refine⟨w,?_,i,Ext.refl G _ w⟩
  cases a <;> simp [Builtin.clear_,hts,run_underlying ht,Sem.run_pure]
 ·rename_i id tot off len sz'
  split at hb
  ·rename_i h0
   cases hb
   subst h0
   obtain⟨b,cap,rfl,_⟩:=hx.tI
   refine⟨w,?_,i,Ext.refl G _ w⟩
   simp [Builtin.clear_,hts,run_underlying ht,Sem.run_pure]
  rename_i h0
  split at hb
  ·rename_i x0 hgv
   have hid:=vA hgv
   split at hb
   case isFalse=>cases hb
   rename_i hcond
   obtain⟨rfl,hzl,hzk,hle⟩:=hcond
   cases hb
   obtain⟨b,cap,rfl,hnf,htot,hlc,hv⟩:=hx.tI
   obtain⟨b',cap',C,e0,g1,g2,g3,g4,g5,g6,g7,g8,g9⟩:=i.oP id _ hid
   obtain⟨l0,cap0,k1,k2,k3,k4⟩:=hv (by rw [g1]; rfl)
   have hcur:=g1
   rw [g1] at k1
   simp only [Value.slice.injEq,ab0,Addr.mk.injEq] at k1
   obtain⟨⟨rfl,_⟩,_,rfl⟩:=k1
   obtain⟨Z,hz1,hz2⟩:=sI (P:=P) (G:=G) (h:=h) (w:=w) hz
   have hcz:=xF hzj hz2
   have hrc:=Aw (G:=G) (h:=h) hcz len
   have hcl:x0.2.length≤C.size:=by rw [g7,g5]; exact aj0 _ g3
   have hfl:(aj3 len z.cells).flatten.length=len * sz':=by simp [hzl]
   have hall:∀u∈(aj3 len z.cells).flatten,u.mD=true:=fun u hu=>by
    obtain⟨l,hl1,hl2⟩:=List.mem_flatten.1 hu
    rw [(List.mem_replicate.1 hl1).2] at hl2
    exact ah1.1 hzk u hl2
   have hrel:∀(j:Nat) (u:kM),(aj3 len z.cells).flatten[j]?=some u→u.mD=true∧lM G h u ((Builtin.zeroCells Z.cells len).toList.getD j undef):=fun j u hu=>by
    refine⟨hall u (af1 hu),?_⟩
    have:=hrc.2 j u hu
    rw [af6,ad3]
    rw [ab2] at this
    exact this
   have hzs:(Builtin.zeroCells Z.cells len).toList.length=(aj3 len z.cells).flatten.length:=by
    rw [ak1]; exact hrc.1.symm
   have h1c:∀u∈(Builtin.zeroCells Z.cells len).toList,u.oneCell'=true:=by
    intro u hu
    obtain⟨j,hj⟩:=List.getElem?_of_mem hu
    have hjl:j < (aj3 len z.cells).flatten.length:=by rw [←hzs]; exact(ab1.1 hj).1
    obtain⟨a1,a2⟩:=hrel j _ (ac0 hjl)
    rw [af6,hj] at a2
    exact(a2.C7 a1).1
   have hst:=run_storeCells_at P b' off e0 (Builtin.zeroCells Z.cells len).toList 0 C w g2 (by rw [hzs,hfl]; omega) h1c
   simp only [al5] at hst
   have hw:=i.OY (off:=off) (vs:=(aj3 len z.cells).flatten) (U:=(Builtin.zeroCells Z.cells len).toList) hid hcur g2 (by rw [hfl]; omega) hzs hrel
   refine⟨_,?_,hw⟩
   cases len with
   | zero=>exact absurd rfl h0
   | succ n=>simp [Builtin.clear_,hts,run_underlying ht,hz1,hst,Sem.run_pure]
  ·cases hb
 ·cases hb
theorem K3 {t kt e ty:TypeId}{h':kP}{ts:Array TypeId}(i:Inv G h w) (ht:P.underlying t=some (.map kt e))
  (hb:IS h x=some h') (hx:lM G h x X) (hts:ts[0]?=some t):∃w',(Builtin.clear_ ts ty #[X]).run P w=.ok (.tuple #[]) w'∧Inv G h' w'∧Ext G h w G h' w':=by
 unfold IS at hb
 split at hb
 ·cases hb
  have hX:=hx.GY
  subst hX
  exact⟨w,by simp [Builtin.clear_,hts,run_underlying ht,Sem.run_pure],i,Ext.refl G _ w⟩
 ·rename_i id
  split at hb
  ·rename_i es hid
   cases hb
   obtain⟨hX,_⟩:=hx.H6
   subst hX
   obtain⟨E,clock,g1,g2,g3,g4,g5⟩:=i.oP id _ hid
   obtain⟨s1,s2⟩:=i.mapStep (es':=[]) (E':=#[]) (clock':=clock) hid g1 g3 rfl (by simp) (MapKept.stamped_empty clock)
   refine⟨_,?_,s1,s2⟩
   simp [Builtin.clear_,hts,run_underlying ht,MapKept.run_getObj_map g1,MapKept.run_setObj_map _ g1,Sem.run_pure]
  ·cases hb
 ·cases hb
end
end
section
open Go Go.RowKit
section
variable {P:Program}{G:Gh}{h:kP}{w:World}{x y v:kM}{X Y V:Value}
theorem I9 {h:kP}{id:Nat}{x:Nat×List kM}(hg:BT h id=some x):h[id]?=some (.tcells x.1 x.2):=by
 unfold BT at hg
 split at hg <;> simp_all
 subst hg; exact⟨rfl,rfl⟩
theorem Inv.aFM (i:Inv G h w) {n:Nat}{v p:kM}{h':kP}{Z:Value}(t:TypeId) (hb:Kk t n h v=some (p,h')) (hr:lM G h v Z) :
  ∃G',Inv G' h' (w.alloc (.cells Z.cells t))∧Ext G h w G' h' (w.alloc (.cells Z.cells t))∧lM G' h' p (.pointer (some ⟨w.heap.size,0,none⟩))∧Z.cells.size=n:=by
 unfold Kk at hb
 simp only [] at hb
 split at hb
 case isFalse=>cases hb
 rename_i hcond
 obtain⟨hlen,hall⟩:=hcond
 simp only [ab0,af8] at hb
 obtain⟨rfl,rfl⟩:=hb
 obtain⟨c1,c2⟩:=B5 hr hall
 obtain⟨t1,t2,t3⟩:=Bb v.cells (h.length+1)
 have hsz:Z.cells.size=n:=by omega
 refine⟨G.add h.length w.heap.size,?_⟩
 have key:=i.push (G':=G.add h.length w.heap.size) (ext:=.tcells t (lD (h.length+1) v.cells).1::(lD (h.length+1) v.cells).2) (w':=w.alloc (.cells Z.cells t))
  rfl rfl rfl (by simp) (fun k hk=>n9 w _ k hk) (fun id hid=>by simp [Gh.add]; omega) (fun id hid=>by simp [Gh.add]; omega) (fun _ _ _ hh=>hh) (fun _ _ _=>rfl)
  (fun b k v hb hv=>by have:=i.CG (b:=b) (k:=k) (v:=v) hv; omega)
  (fun j bl hj m=>by
   cases j with
   | zero =>
    simp at hj; subst hj
    refine⟨Z.cells,by simp only [Gh.add,al5,if_true]; exact heap_alloc_new w _,by omega,fun k=>by simp only [Gh.add,al5,if_true]; exact i.Gr (ac5 _),fun j u hu=>?_⟩
    rcases t3 j u hu with h4 | ⟨h4,id,h5,h6,h7⟩
    ·exact⟨(c2 j u h4).1,(c2 j u h4).2.mono m⟩
    ·subst h6
     obtain⟨_,hz⟩:=c2 j _ h4
     have hz:=hz.FO
     refine⟨rfl,?_⟩
     rw [hz]
     refine .own (t:=0) [] id 0 0 _ (.slice0 none 0) ?_ (ac5 _) (by simp) (fun _=>by simp only [Gh.add]; rw [if_pos (by omega)])
     rw [ac9 (by omega),show id - h.length=(id - (h.length+1))+1 by omega]
     simpa using h7
   | succ j =>
    have hj':=t2 j bl (by simpa using hj)
    subst hj'
    exact .inl ⟨rfl,by simp only [Gh.add]; rw [if_pos (by omega)]⟩)
  (fun j bl b hj ho=>by
   cases j with
   | zero=>simp at hj; subst hj; simp only [nN,Gh.add,al5,if_true,ab0] at ho; omega
   | succ j =>
    have hj':=t2 j bl (by simpa using hj)
    subst hj'
    simp only [nN,Gh.add] at ho
    rw [if_pos (by omega)] at ho
    cases ho)
  (fun j j' bl bl' b hj hj' ho ho'=>by
   have:∀j bl,(lE.tcells t (lD (h.length+1) v.cells).1::(lD (h.length+1) v.cells).2)[j]?=some bl→nN (G.add h.length w.heap.size) (h.length+j) bl=some b→j=0:=by
    intro j bl hj ho
    cases j with
    | zero=>rfl
    | succ j =>
     have hj':=t2 j bl (by simpa using hj)
     subst hj'
     simp only [nN,Gh.add] at ho
     rw [if_pos (by omega)] at ho
     cases ho
   rw [this j bl hj ho,this j' bl' hj' ho'])
 refine⟨key.1,key.2,?_,hsz⟩
 have hp:=lM.ptr (G:=G.add h.length w.heap.size) (h:=h++.tcells t (lD (h.length+1) v.cells).1::(lD (h.length+1) v.cells).2) h.length 0
  ⟨.tcells t (lD (h.length+1) v.cells).1,by simp,by simp⟩
 simpa [Gh.add] using hp
theorem Inv.alR (i:Inv G h w) {id off:Nat}{cs vs:List kM}{C:Array Value}{e:TypeId}{U:List Value}(hid:h[id]?=some (.tcells e cs))
  (hC:w.heap[G.oP id]?=some (.cells C e (0,0))) (hle:off+vs.length≤cs.length) (hU:U.length=vs.length)
  (hrel:∀(j:Nat) (u:kM),vs[j]?=some u→u.mD=true∧lM G h u (U.getD j undef)) :
  Inv G (h.set id (.tcells e (putCells cs off vs))) (w.setRow (G.oP id) (C.toList.take off++U++C.toList.drop (off+U.length)).toArray) ∧
   Ext G h w G (h.set id (.tcells e (putCells cs off vs))) (w.setRow (G.oP id) (C.toList.take off++U++C.toList.drop (off+U.length)).toArray):=by
 obtain⟨C',h1,h2,h3,h4⟩:=i.oP id _ hid
 rw [hC] at h1
 simp only [ab0,Obj.cells.injEq,true_and] at h1
 obtain⟨rfl,_⟩:=h1
 refine i.step id (.tcells e cs) _ hid (by simp) (by simp) (by simp) (by simp) ?_ (fun _ _=>rfl) (fun _ _=>rfl) (fun _ _ _ hh=>hh) (fun _ _ _ _=>rfl) ?_ ?_ ?_ ?_
 ·intro k _ hk
  exact setRow_other w _ k _ (fun e=>hk (by simp [nN,e]))
 ·intro b k v hb hv
  rcases hb with hb | hb
  ·have:=i.ok b k v hv
   have hlt:b < w.heap.size:=by
    unfold World.cell? at this
    cases hh:w.heap[b]? with
    | none=>simp [hh] at this
    | some o=>exact(Array.getElem?_eq_some_iff.1 hh).1
   omega
  ·simp only [nN,ab0] at hb
   subst hb
   rw [h3] at hv; cases hv
 ·exact⟨rfl,(uA cs vs off hle).symm,rfl,rfl⟩
 ·intro m
  have hoff:off+U.length≤C.size:=by rw [hU,h2]; exact hle
  refine⟨_,setRow_heap w _ C _ e _ hC,?_,h3,fun j u hu=>?_⟩
  ·rw [uA cs vs off hle]; simp; omega
  ·rw [xR cs vs off j hle] at hu
   rw [ab2,u2 C U off j hoff]
   split at hu
   ·rename_i hj
    rw [if_pos hj]
    exact⟨(h4 j u hu).1,by have:=(h4 j u hu).2.mono m; rwa [ab2] at this⟩
   ·rename_i hj
    rw [if_neg hj]
    split at hu
    ·rename_i hj2
     rw [if_pos (by rw [hU]; exact hj2)]
     obtain⟨a1,a2⟩:=hrel _ u hu
     refine⟨a1,?_⟩
     have:=a2.mono m
     rwa [af6] at this
    ·rename_i hj2
     rw [if_neg (by rw [hU]; exact hj2)]
     exact⟨(h4 j u hu).1,by have:=(h4 j u hu).2.mono m; rwa [ab2] at this⟩
 ·intro b hb
  exact .inr hb
theorem Ri {t:TypeId}{g:Bool}{n:Nat}(hg:t_ P t=some g) (hn:oU P t=some n) (i:Inv G h w) (hb:l_ g n h x=some v) (hx:lM G h x X) :
  ∃V,(Instr.loadAt t X).run P w=.ok V w∧lM G h v V:=by
 unfold l_ at hb
 split at hb
 ·rename_i id off
  split at hb
  ·rename_i x0 hgb
   have hid:=I9 hgb
   obtain⟨rfl,_⟩:=hx.xV
   obtain⟨C,h1,h2,h3,h4⟩:=i.oP id _ hid
   obtain⟨V,r1,r2⟩:=B3 (P:=P) (G:=G) (h:=h) (w:=w) hg hn (G.oP id) off x0.2 off (fun j=>C.getD j undef) hb (fun j u hu hj=>by
    have hlt:j < C.size:=by rw [h2]; exact(ab1.1 hu).1
    refine⟨?_,(h4 j u hu).2⟩
    rw [cell_of w _ _ h1,show off+(j - off)=j by omega,Array.getElem?_eq_getElem hlt]
    simp [ab2,hlt])
   exact⟨V,by simp [Instr.loadAt,Instr.sureAddr,r1],r2⟩
  ·exact CR hg hn i hb hx
 ·exact CR hg hn i hb hx
theorem Pg {t:TypeId}{n:Nat}{h':kP}(hn:oU P t=some n) (i:Inv G h w) (hb:pU n h x y=some h') (hx:lM G h x X) (hy:lM G h y Y) :
  ∃w',(Instr.storeAt t X Y).run P w=.ok () w'∧Inv G h' w'∧Ext G h w G h' w':=by
 unfold pU at hb
 split at hb
 ·rename_i id off
  cases hgb:BT h id with
  | none=>simp only [hgb] at hb; exact BL hn i hb hx hy
  | some x0 =>
   have hid:=I9 hgb
   simp only [hgb] at hb
   obtain⟨z,hz,hzr⟩:∃z:kM,y.cells=z.cells∧lM G h z Y:=⟨_,rfl,hy⟩
   rw [hz] at hb
   split at hb
   case isFalse=>cases hb
   rename_i hcond
   obtain⟨hlen,hle,hall⟩:=hcond
   injection hb with hb
   subst hb
   obtain⟨rfl,_⟩:=hx.xV
   obtain⟨C,h1,h2,h3,h4⟩:=i.oP id _ hid
   obtain⟨c1,c2⟩:=B5 hzr hall
   have hU:Y.cells.toList.length=z.cells.length:=by rw [ak1,c1]
   have h1c:∀u∈Y.cells.toList,u.oneCell'=true:=by
    intro u hu
    obtain⟨j,hj⟩:=List.getElem?_of_mem hu
    have hjl:j < z.cells.length:=by rw [←hU]; exact(ab1.1 hj).1
    obtain⟨a1,a2⟩:=c2 j _ (ac0 hjl)
    have hval:Y.cells.getD j undef=u:=by rw [ab2,←ad3,hj]; rfl
    rw [hval] at a2
    exact(a2.C7 a1).1
   have hst:=run_storeCells_at P (G.oP id) off x0.1 Y.cells.toList 0 C w h1 (by rw [ak1,h2]; omega) h1c
   simp only [al5] at hst
   have hw:=i.alR (off:=off) (vs:=pV h (x0.2.drop off) z.cells) (U:=Y.cells.toList) hid h1 (by rw [yA]; omega) (by rw [yA]; exact hU) (fun j u hu=>by
    obtain⟨v,hv,hk⟩:=E1 hu
    obtain⟨a1,a2⟩:=c2 j v hv
    rw [af6,ad3]
    rw [ab2] at a2
    exact UE i hk a1 a2)
   refine⟨_,?_,hw⟩
   have hsz:Y.cells.size=n:=by omega
   simp [Instr.storeAt,Instr.sureAddr,storeVar,oN hn,hsz,hst]
 ·exact BL hn i hb hx hy
theorem TU {t:TypeId}{n:Nat}{p:kM}{h':kP}(i:Inv G h w) (hb:Kk t n h x=some (p,h')) (hx:lM G h x X) :
  ∃V w' G',(Instr.box t X).run P w=.ok V w'∧Inv G' h' w'∧Ext G h w G' h' w'∧lM G' h' p V:=by
 obtain⟨G',h1,h2,h3,_⟩:=i.aFM t hb hx
 exact⟨_,_,G',by simp [Instr.box,newVar,newRow,Sem.run_pure],h1,h2,h3⟩
theorem O6 {t:TypeId}{n:Nat}{z p:kM}{h':kP}(i:Inv G h w) (hz:tA P t=some z) (hb:Kk t n h z=some (p,h')) :
  ∃V w' G',(Instr.alloc t true (.tuple #[])).run P w=.ok V w'∧Inv G' h' w'∧Ext G h w G' h' w'∧lM G' h' p V:=by
 obtain⟨Z,hz1,hz2⟩:=sI (P:=P) (G:=G) (h:=h) (w:=w) hz
 obtain⟨G',h1,h2,h3,_⟩:=i.aFM t hb hz2
 refine⟨_,_,G',?_,h1,h2,h3⟩
 simp [Instr.alloc,hz1,newVar,newRow,Sem.run_pure]
theorem Rh {tb:Bool}{t:TypeId}{g:Bool}{n:Nat}(hg:t_ P t=some g) (hn:oU P t=some n) (i:Inv G h w) (hb:IV tb g n h x=some v) (hx:lM G h x X) :
  ∃V,(Instr.loadAt t X).run P w=.ok V w∧lM G h v V:=by
 cases tb with
 | true=>exact Ri hg hn i hb hx
 | false=>exact CR hg hn i hb hx
theorem Pf {tb:Bool}{t:TypeId}{n:Nat}{h':kP}(hn:oU P t=some n) (i:Inv G h w) (hb:Yq tb n h x y=some h') (hx:lM G h x X) (hy:lM G h y Y) :
  ∃w',(Instr.storeAt t X Y).run P w=.ok () w'∧Inv G h' w'∧Ext G h w G h' w':=by
 cases tb with
 | true=>exact Pg hn i hb hx hy
 | false=>exact BL hn i hb hx hy
theorem TS {tb:Bool}{t:TypeId}{n:Nat}{p:kM}{h':kP}(i:Inv G h w) (hb:Ym tb t n h x=some (p,h')) (hx:lM G h x X) :
  ∃V w' G',(Instr.box t X).run P w=.ok V w'∧Inv G' h' w'∧Ext G h w G' h' w'∧lM G' h' p V:=by
 cases tb with
 | true=>exact TU i hb hx
 | false=>exact Wa i hb hx
theorem O5 {tb:Bool}{t:TypeId}{n:Nat}{z p:kM}{h':kP}(i:Inv G h w) (hz:tA P t=some z) (hb:Ym tb t n h z=some (p,h')) :
  ∃V w' G',(Instr.alloc t true (.tuple #[])).run P w=.ok V w'∧Inv G' h' w'∧Ext G h w G' h' w'∧lM G' h' p V:=by
 cases tb with
 | true=>exact O6 i hz hb
 | false=>exact Q9 i hz hb
end
end
section
open Go Go.RowKit
section
variable {P:Program}{G:Gh}{h:kP}{w:World}{x y v:kM}{X Y V:Value}
theorem EI {t tx ty e:TypeId}{sz bytes:Nat}{z r:kM}{h':kP}{new:List (List kM)}{news:List Value}(i:Inv G h w) (ht:P.underlying t=some (.slice e)) (hn:oU P e=some sz) (hby:zA P e=some bytes)
  (hz:tA P e=some z) (hzj:z.pL=false) (hzl:z.cells.length=sz) (hsz:sz≠0)
  (hsrc:Go.Src P sz tx Y new.length news w) (hrl0:∀r∈new,r.length=sz) (hrel0:∀(i' j:Nat) (row:List kM) (c:kM),new[i']?=some row→row[j]?=some c→∃u,news[i' * sz+j]?=some u∧rC G.H c u∧c.mD=true)
  {t1:Nat}(ht1:t1=e+1) (hb:yU t1 sz bytes h x (.slice new .no)=some (r,h')) (hx:lM G h x X) :
  ∃V w' G',(Builtin.append_ #[t,tx] ty #[X,Y]).run P w=.ok V w'∧Inv G' h' w'∧Ext G h w G' h' w'∧lM G' h' r V:=by
 obtain⟨ti,hti,hts,htb,Z,hzz,hZs⟩:∃ti,P.info? e=some ti∧ti.size=sz∧ti.bytes=bytes∧∃Z,ti.zero=some Z∧Z.cells.size=sz:=by
  unfold oU at hn; unfold zA at hby; unfold tA at hz
  cases hi:P.info? e with
  | none=>simp [hi] at hn
  | some ti =>
   simp [hi] at hn hby hz
   obtain⟨Z,hZ1,hZ2⟩:=hz
   refine⟨ti,rfl,hn,hby,Z,hZ1,?_⟩
   subst hZ2
   rw [←hzl]; exact(xF hzj (wW G h Z)).1.symm
 have hsrc':Go.Src P ti.size tx Y new.length news w:=by rw [hts]; exact hsrc
 have hrow:∀new',pY sz h (.slice new .no)=some new'→new'=new:=by
  intro new' hh
  simp only [pY] at hh
  split at hh
  ·exact(Option.some.inj hh).symm
  ·cases hh
 have hzero:∀(a:Option Addr) (n cap:Nat),n≤cap→new.length=0→(Builtin.append_ #[t,tx] ty #[.slice a n cap,Y]).run P w=.ok (.slice a n cap) w:=by
  intro a n cap hle h0
  have e0:news=[]:=List.eq_nil_of_length_eq_zero (by rw [hsrc.newsLen,h0,Nat.zero_mul])
  have hl:=hsrc'.len
  have hc:=hsrc'.cells
  rw [h0] at hl hc
  rw [e0] at hc
  rcases hsrc'.kind with ⟨e',hk⟩ | hk <;> cases a <;> simp [Builtin.append_,run_underlying ht,run_underlying hk,Go.sizeOf,Go.typeInfo,hti,hl,hc,hle,storeCells,Sem.run_pure]
 have hgrow0:0 < new.length→((new.length:Nat):Int)≤9223372036854775807→new.length * ti.bytes≤140737488355328→(Builtin.append_ #[t,tx] ty #[.slice none 0 0,Y]).run P w =
   .ok (.slice (some ⟨w.heap.size,0,none⟩) new.length (grownCap w new.length 0 e)) (w.drew.alloc (.cells (news.toArray++Builtin.zeroCells Z.cells (grownCap w new.length 0 e - new.length)) e)):=by
  intro h0 h1 h2
  have:=run_append_grow_src (P:=P) w t tx ty e ti Z ht hti hzz none 0 0 [] (run_firstCells_none w.drew ti.size 0 0 0) Y new.length news hsrc' (by omega) (by omega) (by rw [al6,nextslicecap_zero h0]; omega)
  simpa using this
 unfold yU at hb
 split at hb
 ·-- the holder of a token
  rename_i rows id new' hnew
  obtain rfl:=hrow _ hnew
  split at hb
  ·rename_i n sz0 t0 hid
   split at hb
   case isFalse=>cases hb
   rename_i hcond
   obtain⟨hlen,hszz,hbytes,hsmall⟩:=hcond
   obtain⟨hX,hrl,hcur⟩:=FT i hx hid hlen
   have htnew:(bif sz0 == 0 || t0 == t1 then t1 else 0)≠0→e+1=(bif sz0 == 0 || t0 == t1 then t1 else 0):=by
    cases (sz0 == 0 || t0 == t1) <;> simp [ht1]
   have httin:∀e0:TypeId,0 < sz0→(t0≠0→e0+1=t0)→(bif sz0 == 0 || t0 == t1 then t1 else 0)≠0→e0+1=(bif sz0 == 0 || t0 == t1 then t1 else 0):=by
    intro e0 h1 h2
    have:(sz0 == 0)=false:=by simp; omega
    rw [this,Bool.false_or]
    cases hq:t0 == t1 with
    | true =>
     have:t0=t1:=by simpa using hq
     subst this
     exact h2
    | false=>simp
   split at hb
   ·rename_i hm
    simp only [ab0,af8] at hb
    obtain⟨rfl,rfl⟩:=hb
    refine⟨X,w,G,?_,i,Ext.refl G h w,hx⟩
    rcases hcur with ⟨_,hc⟩ | ⟨b,cap,C,e0,hc,_,hle,_⟩
    ·rw [hX,hc]; exact hzero none 0 0 (ac5 _) hm
    ·rw [hX,hc]; exact hzero _ n cap hle hm
   ·rename_i hm
    simp only [ab0,af8] at hb
    obtain⟨rfl,rfl⟩:=hb
    have hone:=hsrc.one
    have hnl:news.length=new'.length * ti.size:=by rw [hts]; exact hsrc.newsLen
    have fin:∀(bb cap':Nat) (xs:List Value) (G':Gh),xs.length=n * sz→cap'≥n+new'.length→EG G h G' (h.set id (.front (n+new'.length) sz (bif sz0 == 0 || t0 == t1 then t1 else 0))) →
      (∀(k:Nat) u,(xs++news)[k]?=some u→G'.H bb k=some u)→G'.cur id=.slice (some ⟨bb,0,none⟩) (n+new'.length) cap' →
      (∀(i' j:Nat) (row:List kM) (c:kM),rows[i']?=some row→row[j]?=some c→∃u,xs[i' * sz+j]?=some u∧rC G.H c u∧c.mD=true) →
      (∀r∈rows,r.length=sz) →
      lM G' (h.set id (.front (n+new'.length) sz (bif sz0 == 0 || t0 == t1 then t1 else 0))) (.slice (rows++new') (.own id)) (.slice (some ⟨bb,0,none⟩) (n+new'.length) cap'):=by
     intro bb cap' xs G' hxl hc hm' hH hcur' hcells hrl'
     have hidl:id < h.length:=(ab1.1 hid).1
     have hrl2:∀r∈rows++new',r.length=sz:=fun r hr=>(List.mem_append.1 hr).elim (hrl' r) (hrl0 r)
     have hlen2:(rows++new').length=n+new'.length:=by rw [ac2,hlen]
     refine .own (t:=bif sz0 == 0 || t0 == t1 then t1 else 0) _ id (n+new'.length) sz _ ?_ (by simp [hidl]) (by omega) hrl2 (fun _=>hcur'.symm)
     have:=Em (H:=G'.H) (rows:=rows++new') (sz:=sz) (b:=bb) (cap:=cap') (all:=xs++news) hrl2 (by omega) hH
      (N9 (by rw [hlen]; exact hxl) hrl' (fun i' j row c h1 h2=>by obtain⟨u,e1,e2,e3⟩:=hcells i' j row c h1 h2; exact⟨u,e1,e2.mono hm'.hmono,e3⟩)
       (fun i' j row c h1 h2=>by obtain⟨u,e1,e2,e3⟩:=hrel0 i' j row c h1 h2; exact⟨u,e1,e2.mono hm'.hmono,e3⟩))
     rwa [hlen2] at this
    rw [hX]
    rcases hcur with ⟨rfl,hc⟩ | ⟨b,cap,C,e0,hc,hC,hle,hmx,hCs,hs0,hHn,hcells,hte⟩
    ·-- nil so far
     rw [hc]
     have hrun:=hgrow0 (by omega) (by omega) (by rw [htb]; rw [al6] at hbytes; omega)
     have hcapg:=grownCap_ge w new'.length 0 e
     have hcapm:=grownCap_le_maxLen w new'.length 0 e (by simp only [maxLen]; omega)
     obtain⟨G',g1,g2,g3,g4,g5⟩:=i.grow (id:=id) (n:=0) (n':=0+new'.length) (t':=bif sz0 == 0 || t0 == t1 then t1 else 0) (sz:=sz0) (sz':=sz) (bb:=w.heap.size) (cap':=grownCap w new'.length 0 e) (all:=news)
      (w':=w.drew.alloc (.cells (news.toArray++Builtin.zeroCells Z.cells (grownCap w new'.length 0 e - new'.length)) e)) hid (by omega) (by omega) rfl rfl rfl (by simp)
      (fun k hk _ _=>n9 w.drew _ k hk) (.inl (ac5 _)) (heap_alloc_new w.drew _) (by omega) hcapm
      (by simp only [Array.size_append,List.size_toArray,size_zeroCells,hZs,hsrc.newsLen,←al4]; congr 1; omega)
      (by omega) (by rw [hsrc.newsLen]; simp) (fun k u hu=>by
       rw [Array.getElem?_append_left (by simpa using (ab1.1 hu).1)]; simpa using hu)
      (fun k v hv=>by have:=i.CG hv; omega) htnew
     refine⟨_,_,G',hrun,g1,g2,?_⟩
     have:=fin w.heap.size (grownCap w new'.length 0 e) [] G' (by simp) (by omega) g2.toMono (by simpa using g4) g5 (fun i' j row c h1 _=>by
      have:rows=[]:=List.eq_nil_of_length_eq_zero hlen
      subst this; simp at h1) (fun r hr=>by
      have:rows=[]:=List.eq_nil_of_length_eq_zero hlen
      subst this; cases hr)
     simpa using this
    ·have hs:sz0=sz:=by omega
     rw [hc]
     by_cases hroom:n+new'.length≤cap
     ·subst hs
      have hfit:n * ti.size+news.length≤C.size:=by rw [hts,hsrc.newsLen,hCs,←al4]; exact aj0 _ hroom
      have hst:=run_storeCells_at P b (n * ti.size) e0 news 0 C w hC (by simpa using hfit) hone
      simp only [al5] at hst
      have hrun:(Builtin.append_ #[t,tx] ty #[.slice (some ⟨b,0,none⟩) n cap,Y]).run P w =
        .ok (.slice (some ⟨b,0,none⟩) (n+new'.length) cap) (w.setRow b (C.toList.take (n * ti.size)++news++C.toList.drop (n * ti.size+news.length)).toArray):=by
       rcases hsrc'.kind with ⟨e',hk⟩ | hk <;> simp [Builtin.append_,run_underlying ht,run_underlying hk,Go.sizeOf,Go.typeInfo,hti,hsrc'.len,hroom,hsrc'.cells,Addr.add_lit,hst]
      rw [hts] at hrun hfit
      have hxl:(C.toList.take (n * sz0)).length=n * sz0:=by rw [ak8,ak1]; omega
      obtain⟨G',g1,g2,g3,g4,g5⟩:=i.grow (id:=id) (n:=n) (n':=n+new'.length) (t':=bif sz0 == 0 || t0 == t1 then t1 else 0) (sz:=sz0) (sz':=sz0) (bb:=b) (cap':=cap) (all:=C.toList.take (n * sz0)++news)
       (C':=(C.toList.take (n * sz0)++news++C.toList.drop (n * sz0+news.length)).toArray) (e':=e0)
       (w':=w.setRow b (C.toList.take (n * sz0)++news++C.toList.drop (n * sz0+news.length)).toArray) hid (by omega) (fun _=>rfl) (by simp) (by simp) (by simp) (by simp)
       (fun k hk _ hne=>setRow_other w b k _ hne) (.inr (by rw [hc]; rfl)) (setRow_heap w b C _ e0 _ hC) hroom hmx
       (by simp; omega) hs0
       (by rw [ac2,hxl,hsrc.newsLen,al4]) (fun k u hu=>by
        rw [List.getElem?_toArray,af7 (ab1.1 hu).1]; exact hu)
       (fun k v hv=>by
        have hk:k < n * sz0:=Classical.byContradiction fun hk=>by rw [hHn k (by omega)] at hv; cases hv
        have:=i.ok _ _ _ hv
        rw [cell_of w _ _ hC] at this
        rw [af7 (by omega),ah3,if_pos hk,ad3]; exact this) (httin e0 hs0 hte)
      exact⟨_,_,G',hrun,g1,g2,fin b cap _ G' hxl hroom g2.toMono g4 g5 hcells hrl⟩
     ·subst hs
      have hxl:(C.toList.take (n * sz0)).length=n * sz0:=by
       rw [ak8,ak1,hCs]
       have:n * sz0≤cap * sz0:=aj0 _ hle
       omega
      have hxc:∀j u,(C.toList.take (n * sz0))[j]?=some u→w.cell? ((⟨b,0,none⟩:Addr).add j)=some u:=by
       intro j u hu
       rw [ah3] at hu
       split at hu
       ·rw [add_plain,cell_of w _ _ hC,al6]; rwa [ad3] at hu
       ·cases hu
      have hrun:=run_append_grow_src (P:=P) w t tx ty e ti Z ht hti hzz (some ⟨b,0,none⟩) n cap (C.toList.take (n * sz0)) (run_firstCells_some (P:=P) w.drew ti.size n ⟨b,0,none⟩ n cap _ (by rw [hts]; exact hxl) (by simpa using hxc)) Y new'.length news hsrc' (by omega) (by omega)
       (growslice_fits (by omega) (by rw [htb]; exact hbytes))
      rw [show(C.toList.take (n * sz0)++news).toArray=(C.toList.take (n * sz0)).toArray++news.toArray by simp] at hrun
      have hcapg:=grownCap_ge w (n+new'.length) cap e
      have hcapm:=grownCap_le_maxLen w (n+new'.length) cap e (by simp only [maxLen]; omega)
      obtain⟨G',g1,g2,g3,g4,g5⟩:=i.grow (id:=id) (n:=n) (n':=n+new'.length) (t':=bif sz0 == 0 || t0 == t1 then t1 else 0) (sz:=sz0) (sz':=sz0) (bb:=w.heap.size) (cap':=grownCap w (n+new'.length) cap e) (all:=C.toList.take (n * sz0)++news)
       (w':=w.drew.alloc (.cells ((C.toList.take (n * sz0)).toArray++news.toArray++Builtin.zeroCells Z.cells (grownCap w (n+new'.length) cap e - (n+new'.length))) e)) hid (by omega)
       (fun _=>rfl) rfl rfl rfl (by simp)
       (fun k hk _ _=>n9 w.drew _ k hk) (.inl (ac5 _)) (heap_alloc_new w.drew _) (by omega) hcapm
       (by simp only [Array.size_append,List.size_toArray,size_zeroCells,hZs,hsrc.newsLen,hxl,←al4]; congr 1; omega)
       (by omega) (by rw [ac2,hxl,hsrc.newsLen,al4]) (fun k u hu=>by
        have hk:=(ab1.1 hu).1
        rw [Array.getElem?_append_left (by simpa using hk),List.append_toArray,List.getElem?_toArray]; exact hu)
       (fun k v hv=>by have:=i.CG hv; omega) htnew
      exact⟨_,_,G',hrun,g1,g2,fin w.heap.size _ _ G' hxl (by omega) g2.toMono g4 g5 hcells hrl⟩
  ·cases hb
 ·-- a nil slice without a token
  rename_i new' hnew
  obtain rfl:=hrow _ hnew
  have hX:=hx.FO
  split at hb
  ·rename_i hm
   simp only [ab0,af8] at hb
   obtain⟨rfl,rfl⟩:=hb
   refine⟨X,w,G,?_,i,Ext.refl G h w,hx⟩
   rw [hX]
   exact hzero none 0 0 (ac5 _) hm
  ·rename_i hm
   split at hb
   case isFalse=>cases hb
   rename_i hcond
   obtain⟨hbytes,hsmall⟩:=hcond
   simp only [ab0,af8] at hb
   obtain⟨rfl,rfl⟩:=hb
   have hnl:news.length=new'.length * ti.size:=by rw [hts]; exact hsrc.newsLen
   obtain⟨G1,i1,x1,hc1,hH1⟩:=i.Ek
   rw [hX]
   have hrun:=hgrow0 (by omega) (by omega) (by rw [htb]; omega)
   have hcapg:=grownCap_ge w new'.length 0 e
   have hcapm:=grownCap_le_maxLen w new'.length 0 e (by simp only [maxLen]; omega)
   obtain⟨G',g1,g2,g3,g4,g5⟩:=i1.grow (id:=h.length) (n:=0) (n':=new'.length) (t:=0) (t':=t1) (sz:=0) (sz':=sz) (bb:=w.heap.size) (cap':=grownCap w new'.length 0 e) (all:=news)
    (w':=w.drew.alloc (.cells (news.toArray++Builtin.zeroCells Z.cells (grownCap w new'.length 0 e - new'.length)) e)) (by simp) (by omega) (by omega) rfl rfl rfl (by simp)
    (fun k hk _ _=>n9 w.drew _ k hk) (.inl (ac5 _)) (heap_alloc_new w.drew _) (by omega) hcapm
    (by simp only [Array.size_append,List.size_toArray,size_zeroCells,hZs,hsrc.newsLen,←al4]; congr 1; omega)
    (by omega) hsrc.newsLen (fun k u hu=>by
     rw [Array.getElem?_append_left (by simpa using (ab1.1 hu).1)]; simpa using hu)
    (fun k v hv=>by have:=i1.CG hv; omega) (fun _=>ht1.symm)
   have hset:(h++[lE.front 0 0]).set h.length (.front new'.length sz t1)=h++[.front new'.length sz t1]:=by simp
   rw [hset] at g1 g2
   refine⟨_,_,G',hrun,g1,x1.trans g2,?_⟩
   have m:=(x1.trans g2).toMono
   refine .own (t:=t1) _ h.length new'.length sz _ ?_ (by simp) (ac5 _) hrl0 (fun _=>g5.symm)
   exact Em hrl0 hcapg (fun k u hu=>g4 k u hu) (fun i' j row c h1 h2=>by
    obtain⟨u,e1,e2,e3⟩:=hrel0 i' j row c h1 h2; exact⟨u,e1,e2.mono m.hmono,e3⟩)
 ·cases hb
theorem CU {sz:Nat}{new:List (List kM)}(hr:∀r∈new,r.length=sz):pY sz h (.slice new .no)=some new:=by
 simp only [pY]
 rw [if_pos]
 simpa using hr
theorem Mn {t ty e:TypeId}{sz bytes:Nat}{z r:kM}{h':kP}(i:Inv G h w) (ht:P.underlying t=some (.slice e)) (hn:oU P e=some sz) (hby:zA P e=some bytes)
  (hz:tA P e=some z) (hzj:z.pL=false) (hzl:z.cells.length=sz) (hsz:sz≠0) {t1:Nat}(ht1:t1=e+1) (hb:yU t1 sz bytes h x y=some (r,h')) (hx:lM G h x X) (hy:lM G h y Y) :
  ∃V w' G',(Builtin.append_ #[t,t] ty #[X,Y]).run P w=.ok V w'∧Inv G' h' w'∧Ext G h w G' h' w'∧lM G' h' r V:=by
 cases hrw:pY sz h y with
 | none =>
  unfold yU at hb
  rw [hrw] at hb
  split at hb <;> simp_all
 | some new =>
  obtain⟨a,news,src⟩:=Ae i hrw hy
  obtain⟨capY,hYf⟩:=src.form
  have hb':yU t1 sz bytes h x (.slice new .no)=some (r,h'):=by
   unfold yU at hb ⊢
   rw [CU src.rlen]
   rw [hrw] at hb
   exact hb
  have hsrc:Go.Src P sz t Y new.length news w:=by
   rw [hYf]
   cases a with
   | some ad=>exact Go.Src.ofSlice w ht ad _ _ news src.len (fun j u hu=>by obtain⟨ad',e1,e2⟩:=src.at_ j u hu; cases e1; exact e2) src.one
   | none =>
    have h0:news.length=0:=by
     rcases Nat.eq_zero_or_pos news.length with h0 | h0
     ·exact h0
     ·obtain⟨ad,e1,_⟩:=src.at_ 0 _ (ac0 h0); cases e1
    have hn0:new.length=0:=by
     have:=src.len
     rw [h0] at this
     rcases Nat.mul_eq_zero.1 this.symm with h1 | h1
     ·exact h1
     ·exact absurd h1 hsz
    have hne:news=[]:=List.eq_nil_of_length_eq_zero h0
    subst hne
    rw [hn0]
    exact Go.Src.ofNil w ht capY
  exact EI i ht hn hby hz hzj hzl hsz hsrc src.rlen src.rel ht1 hb' hx
theorem IP {t tx ty e:TypeId}{sz bytes:Nat}{z r:kM}{h':kP}(i:Inv G h w) (ht:P.underlying t=some (.slice e)) (hu:P.underlying tx=some .string) (hn:oU P e=some sz) (hby:zA P e=some bytes)
  (hz:tA P e=some z) (hzj:z.pL=false) {t1:Nat}(ht1:t1=e+1) (hb:AN t1 sz bytes z.cells.length h x y=some (r,h')) (hx:lM G h x X) (hy:lM G h y Y) :
  ∃V w' G',(Builtin.append_ #[t,tx] ty #[X,Y]).run P w=.ok V w'∧Inv G' h' w'∧Ext G h w G' h' w'∧lM G' h' r V:=by
 unfold AN at hb
 split at hb
 ·rename_i bs
  cases hc:(sz == 1 && z.cells.length == 1) with
  | false=>rw [hc] at hb; cases hb
  | true =>
   rw [hc] at hb
   simp only [cond_true] at hb
   simp only [ad2,beq_iff_eq] at hc
   obtain⟨rfl,hzl⟩:=hc
   have:=hy.AD
   subst this
   have hl:(tX bs).length=(⟨bs.toArray⟩:ByteArray).size:=by simp [tX,ByteArray.size]
   have hbc:byteCells ⟨bs.toArray⟩=bs.map fun b=>Value.int .u8 b.toNat:=by simp [byteCells]
   have hsrc:=Go.Src.ofString (P:=P) w hu ⟨bs.toArray⟩
   rw [←hl] at hsrc
   refine EI i ht hn hby hz hzj hzl (by decide) hsrc ?_ ?_ ht1 hb hx
   ·intro r hr
    obtain⟨b,_,rfl⟩:=List.mem_map.1 hr
    rfl
   ·intro i' j row c h1 h2
    unfold tX at h1
    rw [ai1,ac6] at h1
    obtain⟨b,hb1,rfl⟩:=h1
    cases j with
    | zero =>
     simp only [List.getElem?_cons_zero,ab0] at h2
     subst h2
     exact⟨.int .u8 b.toNat,by rw [hbc]; simp [hb1],.int _ _,rfl⟩
    | succ j=>simp at h2
 ·cases hb
end
end
section
open Go Go.RowKit
def CP (G:Gh) (h:kP) (vs:List kM) (A:Array Value):Prop:=vs.length=A.size∧∀(i:Nat) (v:kM),vs[i]?=some v→lM G h v (A.getD i undef)
def wY (G:Gh) (h:kP) (w:World) (r:vG) (h':kP) (e:Ending) (w':World):Prop :=
 ∃G',Ext G h w G' h' w'∧Inv G' h' w'∧match r with
  | .ret v=>∃V,e=.returned V∧lM G' h' v V
  | .pan v=>∃V,e=.panicked [{ v:=V,recovered:=false }]∧lM G' h' v V
def vH (P:Program) (A:CF) (K:lB):Prop :=
 ∀(f:Nat) (args:List kM) (h:kP) (r:vG) (h':kP),K f args h=some (r,h') →
  ∀(G:Gh) (w:World) (X:Array Value),Inv G h w→tM A G h w→CP G h args X →
   (∀w,(callFunc f X).run P w=.ok (.enter f X) w)∧Calls P f X w (wY G h w r h')
theorem Hb {G:Gh}{h:kP}{x:kM}{X:Value}(hx:lM G h x X):lM G h x.uH X:=by
 cases x <;> simp only [kM.uH] <;> first | exact hx | exact .p _ _ hx.wD
theorem DU {G:Gh}{h:kP}{x:kM}{X:Value}(hx:lM G h x X):lM G h x.mV X:=by
 have agg:∀(cs:List kM) (X:Value),lM G h (.agg cs) X→lM G h (.agg (cs.map kM.uH)) X:=by
  intro cs X hx
  obtain⟨C,rfl,hl,hr⟩:=hx.Ac
  refine .agg _ _ (by simpa using hl) fun i u hu=>?_
  simp only [ai1,ac6] at hu
  obtain⟨a,ha,rfl⟩:=hu
  exact Hb (hr i a ha)
 cases x with
 | agg cs=>exact agg cs X hx
 | tuple vs =>
  obtain⟨C,rfl,hl,hr⟩:=hx.F3
  refine .tuple _ _ (by simpa using hl) fun i u hu=>?_
  simp only [ai1,ac6] at hu
  obtain⟨a,ha,rfl⟩:=hu
  have:=hr i a ha
  cases a <;> first | exact agg _ _ this | exact Hb this
 | _=>exact Hb hx
section
variable {J:Act→Prop}{cx:Cx}{o:Oper}{ρ:List kM}{h:kP}{kv kp:kM→kP→Option R}{r:R}{G:Gh}{w:World}{a:Act}{N:Act→World→Prop}{Q:Exit→Act→World→Prop}
def am4 (o:Oper) (kv:kM→kP→Option R) (r:R) (G:Gh) (h:kP) (w:World) (a:Act) (N:Act→World→Prop):Prop :=
 ∀v h' G' w' V,kv v h'=some r→Ext G h w G' h' w'→Inv G' h' w'→lM G' h' v V→N (a.put o.dst V) w'
def aeE (kp:kM→kP→Option R) (r:R) (G:Gh) (h:kP) (w:World) (a:Act) (Q:Exit→Act→World→Prop):Prop :=
 ∀v h' G' w' V,kp v h'=some r→Ext G h w G' h' w'→Inv G' h' w'→lM G' h' v V→Q (.panic [{ v:=V,recovered:=false }]) a w'
theorem OX {V:Value}{w':World}(hr:(execOp a.eval o).run cx.P w=.ok (.value V) w') (hN:N (a.put o.dst V) w'):o.wp cx.P a w N Q:=by
 unfold Oper.wp; rw [hr]; exact hN
theorem OW {w':World}(hr:(execOp a.eval o).run cx.P w=.ok .skip w') (hN:N (a.put o.dst undef) w'):o.wp cx.P a w N Q:=by
 unfold Oper.wp; rw [hr]; exact hN
theorem nE {s:Sem Value}{V:Value}{w':World}(h:s.run cx.P w=.ok V w'):(do pure (Next.value (←s)):Sem Next).run cx.P w=.ok (.value V) w':=by
 simp [h,Sem.run_pure]
theorem Od {s:Sem Unit}{w':World}(h:s.run cx.P w=.ok () w'):(do s; pure Next.skip:Sem Next).run cx.P w=.ok .skip w':=by
 simp [h,Sem.run_pure]
theorem nB {v:kM}(i:Inv G h w) (hk:kv v h=some r) (hkv:am4 o kv r G h w a N) (hr:∃V,(execOp a.eval o).run cx.P w=.ok (.value V) w∧lM G h v V):o.wp cx.P a w N Q:=by
 obtain⟨V,h1,h2⟩:=hr
 exact OX h1 (hkv v h G w V hk (Ext.refl G h w) i h2)
theorem sU {v:kM}{h':kP}(hk:kv v h'=some r) (hkv:am4 o kv r G h w a N)
  (hr:∃V w' G',(execOp a.eval o).run cx.P w=.ok (.value V) w'∧Inv G' h' w'∧Ext G h w G' h' w'∧lM G' h' v V):o.wp cx.P a w N Q:=by
 obtain⟨V,w',G',h1,h2,h3,h4⟩:=hr
 exact OX h1 (hkv v h' G' w' V hk h3 h2 h4)
theorem Ph {c:Call}{b:Builtin}(ho:o.op=.call c) (hcal:c.callee=.builtin b) (hb:tU cx b c.argTypes.toList (c.args.toList.map (tD cx.A ρ)) h kv=some r) (i:Inv G h w)
  (ev:∀x,lM G h (tD cx.A ρ x) (a.eval x)) (hkv:am4 o kv r G h w a N):o.wp cx.P a w N Q:=by
 have run:∀(s:Sem Value) (V:Value) (w':World),s.run cx.P w=.ok V w'→(∀consts,(builtin b c.argTypes o.type consts (c.args.map a.eval)).run cx.P w=(do pure (Next.value (←s)):Sem Next).run cx.P w) →
   (execOp a.eval o).run cx.P w=.ok (.value V) w':=by
  intro s V w' h1 h2
  simp only [execOp,ho,resolve,hcal,Sem.run_bind,Sem.run_pure,Result.andThen_ok,invoke]
  exact(h2 _).trans (nE h1)
 unfold tU at hb
 split at hb
 ·rename_i t x hT hA
  obtain⟨x0,hx0,rfl⟩:∃x0,c.args=#[x0]∧x=tD cx.A ρ x0:=by
   cases hc:c.args with
   | mk l=>rw [hc] at hA; cases l with
    | nil=>simp at hA
    | cons y r=>simp at hA; exact⟨y,by simp [hA.2],hA.1.symm⟩
  have hT':c.argTypes=#[t]:=by cases hc:c.argTypes with | mk l=>rw [hc] at hT; simp at hT; rw [hT]
  split at hb
  ·rename_i n e ht
   refine nB i hb hkv ⟨.int .i64 n,run (Builtin.len_ #[t] o.type #[a.eval x0]) _ _ ?_ (fun _=>by simp [builtin,hx0,hT']),.p _ _ (.int _ _)⟩
   simp [Builtin.len_,run_underlying ht,goInt,Sem.run_pure]
  ·rename_i ht
   obtain⟨v,hv,hk⟩:=aa2.1 hb
   obtain⟨V,e1,e2⟩:=Pa (P:=cx.P) (w:=w) (ty:=o.type) ht hv (ev x0)
   exact nB i hk hkv ⟨V,run _ _ _ e1 (fun _=>by simp [builtin,hx0,hT']),e2⟩
  ·rename_i e ht
   obtain⟨v,hv,hk⟩:=aa2.1 hb
   obtain⟨V,e1,e2⟩:=Rg (P:=cx.P) (w:=w) (ty:=o.type) ht hv (ev x0)
   exact nB i hk hkv ⟨V,run _ _ _ e1 (fun _=>by simp [builtin,hx0,hT']),e2⟩
  ·cases hb
 ·rename_i x y hA
  obtain⟨x0,y0,hx0,rfl,rfl⟩:∃x0 y0,c.args=#[x0,y0]∧x=tD cx.A ρ x0∧y=tD cx.A ρ y0:=by
   cases hc:c.args with
   | mk l=>rw [hc] at hA; match l,hA with
    | [p,q],hA=>simp at hA; exact⟨p,q,rfl,hA.1.symm,hA.2.symm⟩
  obtain⟨v,hv,hk⟩:=aa2.1 hb
  obtain⟨V,e1,e2⟩:=Ki (P:=cx.P) (w:=w) hv (ev x0) (ev y0)
  exact nB i hk hkv ⟨V,run (Builtin.min2 (a.eval x0) (a.eval y0)) _ _ e1 (fun _=>by simp [builtin,hx0,Builtin.min_]),e2⟩
 ·rename_i x y hA
  obtain⟨x0,y0,hx0,rfl,rfl⟩:∃x0 y0,c.args=#[x0,y0]∧x=tD cx.A ρ x0∧y=tD cx.A ρ y0:=by
   cases hc:c.args with
   | mk l=>rw [hc] at hA; match l,hA with
    | [p,q],hA=>simp at hA; exact⟨p,q,rfl,hA.1.symm,hA.2.symm⟩
  obtain⟨v,hv,hk⟩:=aa2.1 hb
  obtain⟨V,e1,e2⟩:=Kf (P:=cx.P) (w:=w) hv (ev x0) (ev y0)
  exact nB i hk hkv ⟨V,run (Builtin.max2 (a.eval x0) (a.eval y0)) _ _ e1 (fun _=>by simp [builtin,hx0,Builtin.max_]),e2⟩
 ·rename_i x y z r' hA
  obtain⟨x0,l0,hx0,rfl,hl0⟩:∃x0 l0,c.args.toList=x0::l0∧x=tD cx.A ρ x0∧y::z::r'=l0.map (tD cx.A ρ):=by
   cases hc:c.args.toList with
   | nil=>rw [hc] at hA; simp at hA
   | cons p q=>rw [hc] at hA; simp only [aj2,List.cons.injEq] at hA; exact⟨p,q,rfl,hA.1.symm,hA.2.symm⟩
  obtain⟨v,hv,hk⟩:=aa2.1 hb
  rw [hl0] at hv
  obtain⟨V,e1,e2⟩:=Kj (P:=cx.P) (w:=w) (L:=l0.map a.eval) hv (ev x0) (by simp) fun j u U hu hU=>by
   simp only [ai1,ac6] at hu hU
   obtain⟨q,hq,rfl⟩:=hu
   obtain⟨q',hq',rfl⟩:=hU
   rw [hq] at hq'; cases hq'
   exact ev q
  exact nB i hk hkv ⟨V,run _ _ _ e1 (fun _=>by simp [builtin,Builtin.min_,hx0]),e2⟩
 ·rename_i x y z r' hA
  obtain⟨x0,l0,hx0,rfl,hl0⟩:∃x0 l0,c.args.toList=x0::l0∧x=tD cx.A ρ x0∧y::z::r'=l0.map (tD cx.A ρ):=by
   cases hc:c.args.toList with
   | nil=>rw [hc] at hA; simp at hA
   | cons p q=>rw [hc] at hA; simp only [aj2,List.cons.injEq] at hA; exact⟨p,q,rfl,hA.1.symm,hA.2.symm⟩
  obtain⟨v,hv,hk⟩:=aa2.1 hb
  rw [hl0] at hv
  obtain⟨V,e1,e2⟩:=Kh (P:=cx.P) (w:=w) (L:=l0.map a.eval) hv (ev x0) (by simp) fun j u U hu hU=>by
   simp only [ai1,ac6] at hu hU
   obtain⟨q,hq,rfl⟩:=hu
   obtain⟨q',hq',rfl⟩:=hU
   rw [hq] at hq'; cases hq'
   exact ev q
  exact nB i hk hkv ⟨V,run _ _ _ e1 (fun _=>by simp [builtin,Builtin.max_,hx0]),e2⟩
 ·rename_i t t' x y hT hA
  obtain⟨x0,y0,hx0,rfl,rfl⟩:∃x0 y0,c.args=#[x0,y0]∧x=tD cx.A ρ x0∧y=tD cx.A ρ y0:=by
   cases hc:c.args with
   | mk l=>rw [hc] at hA; match l,hA with
    | [p,q],hA=>simp at hA; exact⟨p,q,rfl,hA.1.symm,hA.2.symm⟩
  have hT':c.argTypes=#[t,t']:=by cases hc:c.argTypes with | mk l=>rw [hc] at hT; simp at hT; rw [hT]
  split at hb
  ·rename_i e he
   have ht:cx.P.underlying t=some (.slice e):=by unfold Kr at he; split at he <;> simp_all
   cases htt:(t != t') with
   | true =>
    simp only [htt,cond_true] at hb
    split at hb
    ·rename_i sz by_ z hu hn hby hz
     cases hj:z.pL with
     | true=>rw [hj] at hb; cases hb
     | false =>
      rw [hj,cond_false] at hb
      unfold kQ at hb
      obtain⟨⟨p,h'⟩,hv,hk⟩:=aa2.1 hb
      obtain⟨V,w',G',e1,e2,e3,e4⟩:=IP (P:=cx.P) (ty:=o.type) i ht hu hn hby hz hj rfl hv (ev x0) (ev y0)
      exact sU hk hkv ⟨V,w',G',run _ _ _ e1 (fun _=>by simp [builtin,hx0,hT']),e2,e3,e4⟩
    ·cases hb
   | false =>
    simp only [htt,cond_false] at hb
    have:t=t':=by simpa using htt
    subst this
    split at hb
    ·rename_i sz by_ z hn hby hz
     cases hg:(sz == 0 || z.pL || z.cells.length != sz) with
     | true=>simp only [hg,cond_true] at hb; cases hb
     | false =>
      simp only [hg,cond_false] at hb
      simp only [Bool.or_eq_false_iff,beq_eq_false_iff_ne,bne_eq_false_iff_eq] at hg
      obtain⟨⟨h0,hj⟩,hl⟩:=hg
      unfold kQ at hb
      obtain⟨⟨p,h'⟩,hv,hk⟩:=aa2.1 hb
      cases hvec:cx.vec t with
      | false =>
       rw [hvec,cond_false] at hv
       cases htb:cx.tb with
       | true =>
        rw [htb,cond_true] at hv
        obtain⟨V,w',G',e1,e2,e3,e4⟩:=Mn (P:=cx.P) (ty:=o.type) i ht hn hby hz hj hl h0 rfl hv (ev x0) (ev y0)
        exact sU hk hkv ⟨V,w',G',run _ _ _ e1 (fun _=>by simp [builtin,hx0,hT']),e2,e3,e4⟩
       | false =>
       rw [htb,cond_false] at hv
       obtain⟨V,w',G',e1,e2,e3,e4⟩:=O7 (P:=cx.P) (ty:=o.type) i ht hn hby hz hj hl h0 hv (ev x0) (ev y0)
       exact sU hk hkv ⟨V,w',G',run _ _ _ e1 (fun _=>by simp [builtin,hx0,hT']),e2,e3,e4⟩
      | true =>
       rw [hvec,cond_true] at hv
       obtain⟨V,w',G',e1,e2,e3,e4⟩:=Mo (P:=cx.P) (ty:=o.type) i ht hn hby hz hj hl h0 hv (ev x0) (ev y0)
       exact sU hk hkv ⟨V,w',G',run _ _ _ e1 (fun _=>by simp [builtin,hx0,hT']),e2,e3,e4⟩
    ·cases hb
  ·cases hb
 ·rename_i t t' x y hT hA
  obtain⟨x0,y0,hx0,rfl,rfl⟩:∃x0 y0,c.args=#[x0,y0]∧x=tD cx.A ρ x0∧y=tD cx.A ρ y0:=by
   cases hc:c.args with
   | mk l=>rw [hc] at hA; match l,hA with
    | [p,q],hA=>simp at hA; exact⟨p,q,rfl,hA.1.symm,hA.2.symm⟩
  have hT':c.argTypes=#[t,t']:=by cases hc:c.argTypes with | mk l=>rw [hc] at hT; simp at hT; rw [hT]
  split at hb
  ·rename_i e he _
   have ht:cx.P.underlying t=some (.slice e):=by unfold Kr at he; split at he <;> simp_all
   split at hb
   ·rename_i hn _
    unfold kQ at hb
    obtain⟨⟨p,h'⟩,hv,hk⟩:=aa2.1 hb
    obtain⟨V,w',G',e1,e2,e3,e4⟩:=Rc (P:=cx.P) (ty:=o.type) (t2:=t') i ht hn hv (ev x0) (ev y0)
    exact sU hk hkv ⟨V,w',G',run _ _ _ e1 (fun _=>by simp [builtin,hx0,hT']),e2,e3,e4⟩
   ·cases hb
  ·cases hb
 ·rename_i t t' x y hT hA
  obtain⟨x0,y0,hx0,rfl,rfl⟩:∃x0 y0,c.args=#[x0,y0]∧x=tD cx.A ρ x0∧y=tD cx.A ρ y0:=by
   cases hc:c.args with
   | mk l=>rw [hc] at hA; match l,hA with
    | [p,q],hA=>simp at hA; exact⟨p,q,rfl,hA.1.symm,hA.2.symm⟩
  have hT':c.argTypes[0]?=some t:=by cases hc:c.argTypes with | mk l=>rw [hc] at hT; simp at hT; rw [hT]; rfl
  split at hb
  ·rename_i kt et ht
   split at hb
   ·rename_i d hd
    cases hf:oL d (tD cx.A ρ y0) with
    | false=>rw [hf] at hb; cases hb
    | true =>
     rw [hf] at hb
     simp only [cond_true] at hb
     obtain⟨h1,hv,hk⟩:=aa2.1 hb
     obtain⟨w',e1,e2,e3⟩:=Pc (P:=cx.P) (ty:=o.type) i ht hd hf hv (ev x0) (ev y0) hT'
     exact sU hk hkv ⟨_,w',G,run _ _ _ e1 (fun _=>by simp [builtin,hx0]),e2,e3,.tuple _ _ rfl (by simp)⟩
   ·cases hb
  ·cases hb
 ·rename_i t x hT hA
  obtain⟨x0,hx0,rfl⟩:∃x0,c.args=#[x0]∧x=tD cx.A ρ x0:=by
   cases hc:c.args with
   | mk l=>rw [hc] at hA; cases l with
    | nil=>simp at hA
    | cons y r=>simp at hA; exact⟨y,by simp [hA.2],hA.1.symm⟩
  have hT':c.argTypes[0]?=some t:=by cases hc:c.argTypes with | mk l=>rw [hc] at hT; simp at hT; rw [hT]; rfl
  split at hb
  ·rename_i e ht
   split at hb
   ·rename_i sz z hn hz
    cases hj:z.pL with
    | true=>rw [hj] at hb; cases hb
    | false =>
     rw [hj] at hb
     simp only [cond_false] at hb
     obtain⟨h1,hv,hk⟩:=aa2.1 hb
     obtain⟨w',e1,e2,e3⟩:=Rb (P:=cx.P) (ty:=o.type) i ht hz hj hv (ev x0) hT'
     exact sU hk hkv ⟨_,w',G,run _ _ _ e1 (fun _=>by simp [builtin,hx0]),e2,e3,.tuple _ _ rfl (by simp)⟩
   ·cases hb
  ·rename_i kt et ht
   obtain⟨h1,hv,hk⟩:=aa2.1 hb
   obtain⟨w',e1,e2,e3⟩:=K3 (P:=cx.P) (ty:=o.type) i ht hv (ev x0) hT'
   exact sU hk hkv ⟨_,w',G,run _ _ _ e1 (fun _=>by simp [builtin,hx0]),e2,e3,.tuple _ _ rfl (by simp)⟩
  ·cases hb
 ·cases hb
theorem aaT {P:Program}{t f:Nat}{name:String}(hm:afK P t name=some f) (v:Value) (w:World):(method (P.types.size+Made.depth) t v name).run P w=.ok (f,v) w:=by
 unfold afK at hm
 split at hm
 ·rename_i i hi
  split at hm
  ·rename_i m hf
   cases hp:m.path.toList with
   | cons _ _=>rw [hp] at hm; simp at hm
   | nil =>
    rw [hp] at hm
    simp only [List.isEmpty_nil,cond_true] at hm
    split at hm
    ·rename_i f' hfn
     split at hm
     ·rename_i fs hu
      cases hm
      have hd:P.types.size+Made.depth=(P.types.size+99)+1:=rfl
      rw [hd]
      have hti:(typeInfo t).run P w=.ok i w:=by simp [typeInfo,Sem.run_bind,Sem.run_pure,hi]
      unfold method
      simp only [Sem.run_bind,hti,Result.andThen_ok,hf]
      simp only [hp,follow,Sem.run_bind,Sem.run_pure,Result.andThen_ok,hfn,receiverAt,run_underlying hu,Place.get]
     ·cases hm
    ·cases hm
  ·cases hm
 ·cases hm
theorem D6 (hX:yT cx.P cx.A) (hK:vH cx.P cx.A cx.K) (rsv:Option Nat) (hb:evalOp cx o rsv ρ h kv kp=some r) (i:Inv G h w) (gl:tM cx.A G h w) (s:p_ J G h ρ a)
  (hkv:am4 o kv r G h w a N) (hkp:aeE kp r G h w a Q):o.wp cx.P a w N Q:=by
 have ev:∀x,lM G h (tD cx.A ρ x) (a.eval x):=fun x=>s.eval gl.cells x
 unfold evalOp oJ at hb
 simp only [] at hb
 split at hb
 ·rename_i x ho
  exact nB i hb hkv ⟨_,by simp [execOp,ho,Sem.run_pure],ev x⟩
 ·rename_i x ho
  cases hn:DL x with
  | true =>
   simp only [hn,cond_true] at hb
   obtain⟨G',i',x',hc,_⟩:=i.Ek
   have hx:a.eval x=.slice none 0 0:=by
    unfold DL at hn
    split at hn
    ·rfl
    ·cases hn
   exact OX (by simp [execOp,ho,Sem.run_pure,hx]) (hkv _ _ G' w _ hb x' i' (Va hc))
  | false =>
   simp only [hn,cond_false] at hb
   exact nB i hb hkv ⟨_,by simp [execOp,ho,Sem.run_pure],ev x⟩
 ·rename_i c x y ho
  obtain⟨v,hv,hk⟩:=aa2.1 hb
  obtain⟨V,h1,h2⟩:=T2 (P:=cx.P) (w:=w) hv (ev c) (ev x) (ev y)
  exact nB i hk hkv ⟨V,by simp only [execOp,ho]; exact h1,h2⟩
 ·rename_i t ho
  split at hb
  ·rename_i n z hn hz
   split at hb
   ·unfold kQ at hb
    obtain⟨⟨p,h'⟩,hv,hk⟩:=aa2.1 hb
    obtain⟨V,w',G',h1,h2,h3,h4⟩:=O5 (P:=cx.P) i hz hv
    exact sU hk hkv ⟨V,w',G',by simp only [execOp,ho]; exact nE h1,h2,h3,h4⟩
   ·unfold kQ at hb
    obtain⟨⟨p,h'⟩,hv,hk⟩:=aa2.1 hb
    obtain⟨V,w',G',h1,h2,h3,h4⟩:=Mm (P:=cx.P) i hz hv
    exact sU hk hkv ⟨V,w',G',by simp only [execOp,ho]; exact nE h1,h2,h3,h4⟩
  ·cases hb
 ·rename_i t x ho
  split at hb
  ·rename_i n hn
   split at hb
   ·unfold kQ at hb
    obtain⟨⟨p,h'⟩,hv,hk⟩:=aa2.1 hb
    obtain⟨V,w',G',h1,h2,h3,h4⟩:=TS (P:=cx.P) (t:=t) i hv (ev x)
    exact sU hk hkv ⟨V,w',G',by simp only [execOp,ho]; exact nE h1,h2,h3,h4⟩
   ·unfold kQ at hb
    obtain⟨⟨p,h'⟩,hv,hk⟩:=aa2.1 hb
    obtain⟨V,w',G',h1,h2,h3,h4⟩:=Q_ (P:=cx.P) (t:=t) i hv (ev x)
    exact sU hk hkv ⟨V,w',G',by simp only [execOp,ho]; exact nE h1,h2,h3,h4⟩
  ·cases hb
 ·rename_i t parts ho
  split at hb
  ·rename_i z fs hz ht
   split at hb
   ·rename_i places hp
    cases hj:z.pL with
    | true=>simp [hj] at hb
    | false =>
     simp only [hj,cond_false] at hb
     obtain⟨v,hv,hk⟩:=aa2.1 hb
     obtain⟨V,h1,h2⟩:=O8 (P:=cx.P) (G:=G) (h:=h) (w:=w) ht hz hp ev hj hv
     exact nB i hk hkv ⟨V,by simp only [execOp,ho]; exact nE h1,h2⟩
   ·cases hb
  ·rename_i z len e hz ht
   split at hb
   ·rename_i n hn
    cases hj:z.pL with
    | true=>simp [hj] at hb
    | false =>
     simp only [hj,cond_false] at hb
     obtain⟨v,hv,hk⟩:=aa2.1 hb
     obtain⟨V,h1,h2⟩:=Ra (P:=cx.P) (G:=G) (h:=h) (w:=w) ht hz hn ev hj hv
     exact nB i hk hkv ⟨V,by simp only [execOp,ho]; exact nE h1,h2⟩
   ·cases hb
  ·cases hb
 ·rename_i t len parts ho
  split at hb
  ·rename_i e he
   have ht:cx.P.underlying t=some (.slice e):=by unfold Kr at he; split at he <;> simp_all
   split at hb
   ·rename_i n z hn hz
    cases hg:(n == 0 || z.pL || decide (len * n > 16777216)) with
    | true=>simp only [hg,cond_true] at hb; cases hb
    | false =>
     simp only [hg,cond_false] at hb
     simp only [Bool.or_eq_false_iff,beq_eq_false_iff_ne,decide_eq_false_iff_not] at hg
     obtain⟨⟨h0,hj⟩,hle⟩:=hg
     split at hb
     ·unfold kQ at hb
      obtain⟨⟨p,h'⟩,hv,hk⟩:=aa2.1 hb
      cases hvl:cx.vlit t with
      | false =>
       rw [hvl,cond_false] at hv
       obtain⟨V,w',G',h1,h2,h3,h4⟩:=Hl (P:=cx.P) i ht hz hn h0 (by omega) ev hj hv
       exact sU hk hkv ⟨V,w',G',by simp only [execOp,ho]; exact nE h1,h2,h3,h4⟩
      | true =>
       rw [hvl,cond_true] at hv
       obtain⟨V,w',G',h1,h2,h3,h4⟩:=Gs (P:=cx.P) i ht hz hn h0 (by omega) ev hj hv
       exact sU hk hkv ⟨V,w',G',by simp only [execOp,ho]; exact nE h1,h2,h3,h4⟩
     ·unfold kQ at hb
      obtain⟨⟨p,h'⟩,hv,hk⟩:=aa2.1 hb
      obtain⟨V,w',G',h1,h2,h3,h4⟩:=F8 (P:=cx.P) i ht hz hn h0 (by omega) ev hj hv
      exact sU hk hkv ⟨V,w',G',by simp only [execOp,ho]; exact nE h1,h2,h3,h4⟩
   ·cases hb
  ·cases hb
 ·rename_i t x ho
  split at hb
  ·rename_i g n hg hn
   obtain⟨v,hv,hk⟩:=aa2.1 hb
   obtain⟨V,h1,h2⟩:=Rh (P:=cx.P) hg hn i hv (ev x)
   cases hfr:cx.rb && cx.frl with
   | false =>
    rw [hfr,cond_false] at hk
    exact nB i hk hkv ⟨V,by simp only [execOp,ho]; exact nE h1,h2⟩
   | true =>
    rw [hfr,cond_true] at hk
    unfold kQ at hk
    obtain⟨⟨y,h3⟩,hy,hk⟩:=aa2.1 hk
    obtain⟨G1,i1,x1,r1⟩:=Mw i hy h2
    exact sU hk hkv ⟨V,w,G1,by simp only [execOp,ho]; exact nE h1,i1,x1,r1⟩
  ·cases hb
 ·rename_i t p x ho
  split at hb
  ·rename_i n hn
   cases hfz:cx.frz with
   | false =>
    rw [hfz,cond_false] at hb
    obtain⟨h',hv,hk⟩:=aa2.1 hb
    obtain⟨w',h1,h2,h3⟩:=Pf (P:=cx.P) hn i hv (ev p) (ev x)
    exact OW (by simp only [execOp,ho]; exact Od h1) (hkv _ _ G w' _ hk h3 h2 .undef)
   | true =>
    rw [hfz,cond_true] at hb
    obtain⟨⟨y,h1⟩,hy,hb⟩:=aa2.1 hb
    obtain⟨h',hv,hk⟩:=aa2.1 hb
    obtain⟨G1,i1,x1,r1⟩:=Dg i hy (ev x)
    obtain⟨w',g1,g2,g3⟩:=BL (P:=cx.P) hn i1 hv ((ev p).mono x1.toMono) r1
    exact OW (by simp only [execOp,ho]; exact Od g1) (hkv _ _ G1 w' _ hk (x1.trans g3) g2 .undef)
  ·cases hb
 ·rename_i x ho
  obtain⟨v,hv,hk⟩:=aa2.1 hb
  have hx:=ev x
  refine nB i hk hkv ⟨a.eval x,?_,?_⟩
  ·unfold kZ at hv
   split at hv <;> simp only [ab0,reduceCtorEq] at hv
   ·rename_i he; rw [he] at hx; obtain⟨h1,_⟩:=hx.xV; simp [execOp,ho,h1,Sem.run_pure]
   ·rename_i he; rw [he] at hx; obtain⟨_,h1,_⟩:=hx.Fo; simp [execOp,ho,h1,Sem.run_pure]
   ·rename_i he
    rw [he] at hx
    have:=hx.Fc
    generalize hX:a.eval x=X at this
    cases this
    simp [execOp,ho,hX,Sem.run_pure]
   ·rename_i he; rw [he] at hx; obtain⟨F,C,h1,_⟩:=hx.Hz; simp [execOp,ho,h1,Sem.run_pure]
  ·unfold kZ at hv
   split at hv <;> simp only [ab0,reduceCtorEq] at hv
   all_goals (rename_i he; rw [he] at hx; rw [←hv]; exact hx)
 ·rename_i op t x y yt ho
  split at hb
  ·rename_i fs ht
   split at hb
   ·rename_i ks hks
    obtain⟨b,hv,hk⟩:=aa2.1 hb
    have:=(Ks (P:=cx.P) (w:=w) ht hks x y hv (ev x) (ev y)).1
    exact nB i hk hkv ⟨_,by simp only [execOp,ho]; exact nE this,.p _ _ (.bool _)⟩
   ·cases hb
  ·rename_i fs ht
   split at hb
   ·rename_i ks hks
    obtain⟨b,hv,hk⟩:=aa2.1 hb
    have:=(Ks (P:=cx.P) (w:=w) ht hks x y hv (ev x) (ev y)).2
    exact nB i hk hkv ⟨_,by simp only [execOp,ho]; exact nE this,.p _ _ (.bool _)⟩
   ·cases hb
  ·rename_i ht
   obtain⟨v,hv,hk⟩:=aa2.1 hb
   obtain⟨V,h1,h2⟩:=TO (P:=cx.P) (w:=w) ht x y hv (ev x) (ev y)
   exact nB i hk hkv ⟨V,by simp only [execOp,ho]; exact nE h1,h2⟩
  ·obtain⟨v,hv,hk⟩:=aa2.1 hb
   obtain⟨V,h1,h2⟩:=Mp (P:=cx.P) (w:=w) t x y hv (ev x) (ev y)
   exact nB i hk hkv ⟨V,by simp only [execOp,ho]; exact nE h1,h2⟩
  ·obtain⟨v,hv,hk⟩:=aa2.1 hb
   obtain⟨V,h1,h2⟩:=Mp (P:=cx.P) (w:=w) t x y hv (ev x) (ev y)
   exact nB i hk hkv ⟨V,by simp only [execOp,ho]; exact nE h1,h2⟩
  ·cases hb
 ·rename_i op t x ho
  obtain⟨v,hv,hk⟩:=aa2.1 hb
  obtain⟨V,h1,h2⟩:=aaW (P:=cx.P) (w:=w) hv (ev x)
  exact nB i hk hkv ⟨V,by simp only [execOp,ho]; exact nE h1,h2⟩
 ·rename_i sT dT x ho
  split at hb
  ·rename_i k0 k hs hd
   obtain⟨v,hv,hk⟩:=aa2.1 hb
   obtain⟨V,h1,h2⟩:=Mq (P:=cx.P) (w:=w) hs hd hv (ev x)
   exact nB i hk hkv ⟨V,by simp only [execOp,ho]; exact nE h1,h2⟩
  ·rename_i e hs hd
   split at hb
   ·rename_i hu
    obtain⟨v,hv,hk⟩:=aa2.1 hb
    have hv:Fx h (tD cx.A ρ x)=some v:=by
     cases hrb:cx.rb with
     | true=>rw [hrb] at hv; exact hv
     | false =>
      rw [hrb] at hv
      have hv:xE (tD cx.A ρ x)=some v:=hv
      unfold Fx
      split
      ·rename_i hx
       unfold xE at hv
       rw [hx] at hv; cases hv
      ·rename_i hx
       unfold xE at hv
       rw [hx] at hv; cases hv
      ·exact hv
    obtain⟨V,h1,h2⟩:=O9 (P:=cx.P) i hv (ev x)
    have hsl:∃q n c,a.eval x=Value.slice q n c:=by
     have hx:=ev x
     generalize tD cx.A ρ x=y at hv hx
     generalize a.eval x=Y at hx
     unfold Fx at hv
     split at hv
     ·obtain⟨b,cap,rfl,_⟩:=hx.tI
      exact⟨_,_,_,rfl⟩
     ·obtain⟨b,cap,rfl,_⟩:=hx.AS
      exact⟨_,_,_,rfl⟩
     ·unfold xE at hv
      split at hv
      ·have hp:=hx.wD
       cases hp <;> exact⟨_,_,_,rfl⟩
      ·cases hv
    obtain⟨q,n,c,hq⟩:=hsl
    rw [hq] at h1
    exact nB i hk hkv ⟨V,by
     simp only [execOp,ho,hq]
     refine nE ?_
     simp only [Go.convert,Sem.run_bind,run_underlying hs,run_underlying hd,run_underlying hu,Result.andThen_ok]
     exact h1,h2⟩
   ·cases hb
  ·cases hb
 ·rename_i t ho
  obtain⟨G',h1,h2,h3⟩:=i.aBG
  exact sU hb hkv ⟨.map (some w.heap.size),_,G',by simp only [execOp,ho]; exact nE (run_makeMap t w),h1,h2,h3⟩
 ·rename_i t l c ho
  split at hb
  ·rename_i e he
   have ht:cx.P.underlying t=some (.slice e):=by unfold Kr at he; split at he <;> simp_all
   split at hb
   ·rename_i n by_ z hn hby hz
    cases hg:(n == 0 || z.pL || z.cells.length != n || !(z.cells.all kM.mD) || !(Xx l c)) with
    | true=>simp only [hg,cond_true] at hb; cases hb
    | false =>
     simp only [hg,cond_false] at hb
     simp only [Bool.or_eq_false_iff,beq_eq_false_iff_ne,bne_eq_false_iff_eq,Bool.not_eq_false'] at hg
     obtain⟨⟨⟨⟨h0,hj⟩,hl⟩,hall⟩,hso⟩:=hg
     unfold kQ at hb
     obtain⟨⟨p,h'⟩,hv,hk⟩:=aa2.1 hb
     obtain⟨k,k',m,e1,e2,e3⟩:∃k k' m,tD cx.A ρ l=.int k m∧a.eval l=.int k m∧a.eval c=.int k' m:=by
      have hx:=ev l
      have hm:∃k m,tD cx.A ρ l=.int k m:=by
       cases hvm:cx.vmk <;> rw [hvm] at hv <;> simp only [cond_true,cond_false] at hv
       ·unfold Ce at hv
        split at hv
        ·rename_i k m he; exact⟨k,m,he⟩
        ·cases hv
       ·unfold zM at hv
        split at hv
        ·rename_i k m he; exact⟨k,m,he⟩
        ·cases hv
      obtain⟨k,m,hm⟩:=hm
      rw [hm] at hx
      have hx:=hx.q_
      unfold Xx at hso
      split at hso
      ·simp at hso; subst hso; exact⟨k,k,m,hm,hx,hx⟩
      ·rename_i k1 a1 k2 b1
       simp at hso; subst hso
       simp only [tD,ofConst,E9,kM.int.injEq] at hm
       obtain⟨rfl,rfl⟩:=hm
       exact⟨_,_,_,rfl,rfl,rfl⟩
      ·cases hso
     obtain⟨V,w',G',h1,h2,h3,h4⟩:∃V w' G',(Instr.makeSlice t (a.eval l) (a.eval c)).run cx.P w=.ok V w'∧Inv G' h' w'∧Ext G h w G' h' w'∧lM G' h' p V:=by
      cases hvm:cx.vmk <;> rw [hvm] at hv <;> simp only [cond_true,cond_false] at hv
      ·exact IW (P:=cx.P) i ht hn hby hz hj hl hall hv e1 e2 e3
      ·exact Hn (P:=cx.P) i ht hn hby hz h0 hj hl hall hv e1 e2 e3
     exact sU hk hkv ⟨V,w',G',by simp only [execOp,ho]; exact nE h1,h2,h3,h4⟩
   ·cases hb
  ·cases hb
 ·rename_i t m k ok ho
  split at hb
  ·rename_i kt e ht
   split at hb
   ·rename_i d z hd hz
    cases hf:oL d (tD cx.A ρ k) with
    | false=>simp only [hf,cond_false] at hb; cases hb
    | true =>
     simp only [hf,cond_true] at hb
     obtain⟨v,hv,hk⟩:=aa2.1 hb
     obtain⟨V,h1,h2⟩:=Pb (P:=cx.P) i ht hd hz hf hv (ev m) (ev k)
     exact nB i hk hkv ⟨V,by simp only [execOp,ho]; exact nE h1,h2⟩
   ·cases hb
  ·cases hb
 ·rename_i t m k x ho
  split at hb
  ·rename_i kt e ht
   split at hb
   ·rename_i d hd
    cases hf:oL d (tD cx.A ρ k) with
    | false=>simp only [hf,cond_false] at hb; cases hb
    | true =>
     simp only [hf,cond_true] at hb
     obtain⟨h',hv,hk⟩:=aa2.1 hb
     obtain⟨w',h1,h2,h3⟩:=Pd (P:=cx.P) i ht hd hf hv (ev m) (ev k) (ev x)
     exact OW (by simp only [execOp,ho]; exact Od h1) (hkv _ _ G w' _ hk h3 h2 .undef)
   ·cases hb
  ·cases hb
 ·rename_i t x ho
  split at hb
  ·cases hb
  ·rename_i d hne hd
   refine nB i hb hkv ⟨.iface t (a.eval x),?_,.iface _ _ _ (ev x)⟩
   have:(Instr.makeInterface t (a.eval x)).run cx.P w=.ok (.iface t (a.eval x)) w:=by
    unfold Instr.makeInterface
    simp only [Sem.run_bind,run_underlying hd,Result.andThen_ok]
    cases d <;> first | (exact absurd rfl (hne _); done) | simp [Sem.run_pure]
   simp only [execOp,ho]; exact nE this
  ·cases hb
 ·rename_i f first cap ho
  refine nB i hb hkv ⟨.func (.func f) (first.map a.eval) (cap.map a.eval),by simp only [execOp,ho]; exact nE (by simp only [Instr.makeFunc,Sem.run_pure]),.func f _ _ _ _ (by simp) (by simp) ?_ ?_⟩
  ·intro j u hu
   simp only [ai1,ac6,ad3] at hu
   obtain⟨x,hx,rfl⟩:=hu
   have:(first.map a.eval).getD j undef=a.eval x:=by simp [ab2,hx]
   rw [this]; exact ev x
  ·intro j u hu
   simp only [ai1,ac6,ad3] at hu
   obtain⟨x,hx,rfl⟩:=hu
   have:(cap.map a.eval).getD j undef=a.eval x:=by simp [ab2,hx]
   rw [this]; exact ev x
 ·rename_i t x lo hi ho
  obtain⟨l1,l2⟩:=ajP (G:=G) (h:=h) ev lo
  obtain⟨h1,h2⟩:=ajP (G:=G) (h:=h) ev hi
  split at hb
  ·rename_i ht
   obtain⟨v,hv,hk⟩:=aa2.1 hb
   obtain⟨V,e1,e2⟩:=K8 (P:=cx.P) (w:=w) l1 l2 h1 h2 ht hv (ev x)
   exact nB i hk hkv ⟨V,by simp only [execOp,ho]; exact nE e1,e2⟩
  ·rename_i e ht
   split at hb
   ·rename_i n hn
    obtain⟨v,hv,hk⟩:=aa2.1 hb
    obtain⟨V,e1,e2⟩:=MC (P:=cx.P) (w:=w) l1 l2 h1 h2 ht hn hv (ev x)
    exact nB i hk hkv ⟨V,by simp only [execOp,ho]; exact nE e1,e2⟩
   ·cases hb
  ·rename_i len e ht
   split at hb
   ·rename_i n hn
    obtain⟨v,hv,hk⟩:=aa2.1 hb
    obtain⟨V,e1,e2⟩:=K7 (P:=cx.P) (w:=w) l1 l2 h1 h2 ht hn hv (ev x)
    exact nB i hk hkv ⟨V,by simp only [execOp,ho]; exact nE e1,e2⟩
   ·cases hb
  ·cases hb
 ·rename_i t x f ho
  split at hb
  ·rename_i fs ht
   split at hb
   ·rename_i fd hf
    split at hb
    ·rename_i n hn
     obtain⟨v,hv,hk⟩:=aa2.1 hb
     obtain⟨V,e1,e2⟩:=Mu (P:=cx.P) (w:=w) ht hf hn hv (ev x)
     exact nB i hk hkv ⟨V,by simp only [execOp,ho]; exact nE e1,e2⟩
    ·cases hb
   ·cases hb
  ·cases hb
 ·rename_i t x f ho
  split at hb
  ·rename_i fs ht
   split at hb
   ·rename_i fd hf
    split at hb
    ·rename_i g n hg hn
     obtain⟨v,hv,hk⟩:=aa2.1 hb
     obtain⟨V,e1,e2⟩:=Re (P:=cx.P) (w:=w) (ft:=fd.type) ht hf hg hn hv (ev x)
     exact nB i hk hkv ⟨V,by simp only [execOp,ho]; exact nE e1,e2⟩
    ·cases hb
   ·cases hb
  ·cases hb
 ·rename_i t x ix ho
  split at hb
  ·rename_i e ht
   split at hb
   ·rename_i n hn
    obtain⟨v,hv,hk⟩:=aa2.1 hb
    obtain⟨V,e1,e2⟩:=My (P:=cx.P) (w:=w) ht hn hv (ev x) (ev ix)
    exact nB i hk hkv ⟨V,by simp only [execOp,ho]; exact nE e1,e2⟩
   ·cases hb
  ·rename_i len e ht
   split at hb
   ·rename_i n hn
    obtain⟨v,hv,hk⟩:=aa2.1 hb
    obtain⟨V,e1,e2⟩:=Mx (P:=cx.P) (w:=w) ht hn hv (ev x) (ev ix)
    exact nB i hk hkv ⟨V,by simp only [execOp,ho]; exact nE e1,e2⟩
   ·cases hb
  ·cases hb
 ·rename_i t x ix ho
  split at hb
  ·rename_i ht
   obtain⟨v,hv,hk⟩:=aa2.1 hb
   obtain⟨V,e1,e2⟩:=K6 (P:=cx.P) (w:=w) ht hv (ev x) (ev ix)
   exact nB i hk hkv ⟨V,by simp only [execOp,ho]; exact nE e1,e2⟩
  ·rename_i len e ht
   split at hb
   ·rename_i g n hg hn
    obtain⟨v,hv,hk⟩:=aa2.1 hb
    obtain⟨V,e1,e2⟩:=K4 (P:=cx.P) (w:=w) ht hg hn hv (ev x) (ev ix)
    exact nB i hk hkv ⟨V,by simp only [execOp,ho]; exact nE e1,e2⟩
   ·cases hb
  ·cases hb
 ·rename_i x ix ho
  obtain⟨v,hv,hk⟩:=aa2.1 hb
  obtain⟨V,e1,e2⟩:=Mt (P:=cx.P) (w:=w) hv (ev x)
  exact nB i hk hkv ⟨V,by simp only [execOp,ho]; exact nE e1,e2⟩
 ·rename_i x xt t ho
  split at hb
  ·cases hb
  ·rename_i td hni ht
   split at hb
   ·rename_i z hz
    obtain⟨v,hv,hk⟩:=aa2.1 hb
    obtain⟨Z,hz1,hz2⟩:=sI (P:=cx.P) (w:=w) (G:=G) (h:=h) hz
    have hx:=ev x
    have run:∀X,a.eval x=X→(execOp a.eval o).run cx.P w=(do pure (Next.value (←Instr.typeAssert X xt t true)):Sem Next).run cx.P w:=by
     intro X hX; simp only [execOp,ho,hX]
    unfold zO at hv
    split at hv
    ·rename_i t' u hu
     simp only [ab0] at hv
     rw [hu] at hx
     obtain⟨W,h1,h2⟩:=hx.DC
     have run1:(Instr.typeAssert (.iface t' W) xt t true).run cx.P w=if t'=t then .ok (.tuple #[W,.bool true]) w else .ok (.tuple #[Z,.bool false]) w:=by
      cases td <;> first | exact(hni _ rfl).elim | (by_cases htt:t'=t <;> simp [Instr.typeAssert,run_underlying ht,Sem.run_pure,htt,hz1])
     by_cases htt:t'=t
     ·have e:(t' == t)=true:=by simpa using htt
      rw [e] at hv
      simp only [cond_true] at hv
      subst hv
      refine nB i hk hkv ⟨.tuple #[W,.bool true],by rw [run _ h1]; exact nE (by rw [run1,if_pos htt]),.tuple _ _ rfl fun j c hc=>?_⟩
      match j with
      | 0=>simp at hc; subst hc; exact h2
      | 1=>simp at hc; subst hc; exact .p _ _ (.bool true)
      | j+2=>simp at hc
     ·have e:(t' == t)=false:=by simpa using htt
      rw [e] at hv
      simp only [cond_false] at hv
      subst hv
      refine nB i hk hkv ⟨.tuple #[Z,.bool false],by rw [run _ h1]; exact nE (by rw [run1,if_neg htt]),.tuple _ _ rfl fun j c hc=>?_⟩
      match j with
      | 0=>simp at hc; subst hc; exact hz2
      | 1=>simp at hc; subst hc; exact .p _ _ (.bool false)
      | j+2=>simp at hc
    ·rename_i hu
     simp only [ab0] at hv
     rw [hu] at hx
     have h1:a.eval x=.nilIface:=by
      generalize a.eval x=X at hx
      cases hx with
      | p _ _ hp=>cases hp; rfl
     have run1:(Instr.typeAssert .nilIface xt t true).run cx.P w=.ok (.tuple #[Z,.bool false]) w:=by
      cases td <;> first | exact(hni _ rfl).elim | simp [Instr.typeAssert,run_underlying ht,Sem.run_pure,hz1]
     subst hv
     refine nB i hk hkv ⟨.tuple #[Z,.bool false],by rw [run _ h1]; exact nE run1,.tuple _ _ rfl fun j c hc=>?_⟩
     match j with
     | 0=>simp at hc; subst hc; exact hz2
     | 1=>simp at hc; subst hc; exact .p _ _ (.bool false)
     | j+2=>simp at hc
    ·cases hv
   ·cases hb
  ·cases hb
 ·rename_i x ho
  unfold EM at hb
  split at hb
  ·rename_i t v hv
   have hx:=ev x
   rw [hv] at hx
   obtain⟨W,h1,h2⟩:=hx.DC
   have hrun:(execOp a.eval o).run cx.P w=.halt (.panic (.iface t W)) w:=by
    simp only [execOp,ho,h1,Instr.panic]
    rfl
   unfold Oper.wp
   rw [hrun]
   exact hkp _ _ G w _ hb (Ext.refl G h w) i (.iface _ _ _ h2)
  ·cases hb
 ·rename_i c ho
  split at hb
  ·rename_i b hcal
   exact Ph ho hcal hb i ev hkv
  ·rename_i f hcal
   obtain⟨⟨g,fi,ca⟩,hv,hk⟩:=aa2.1 hb
   have hf:=ev f
   unfold BG at hv
   split at hv <;> simp only [ab0,af8,reduceCtorEq] at hv
   rename_i g' fi' ca' hfv
   obtain⟨rfl,rfl,rfl⟩:=hv
   rw [hfv] at hf
   obtain⟨F,C,hF,hlf,hlc,hrf,hrc⟩:=hf.Hz
   simp only [] at hk
   unfold kU at hk
   obtain⟨⟨res,h'⟩,hcall,hk⟩:=aa2.1 hk
   have hargs0:CP G h (fi'++c.args.toList.map (tD cx.A ρ)++ca') (F++c.args.map a.eval++C):=by
    refine⟨by simp [hlf,hlc],fun j u hu=>?_⟩
    rw [ab2]
    by_cases h1:j < fi'.length
    ·rw [af9,af7 h1] at hu
     rw [Array.append_assoc,Array.getElem?_append_left (by omega)]
     have:=hrf j u hu
     rwa [ab2] at this
    ·by_cases h2:j < fi'.length+c.args.size
     ·rw [af9,ac9 (by omega),af7 (by simp; omega)] at hu
      rw [Array.append_assoc,Array.getElem?_append_right (by omega),Array.getElem?_append_left (by simp; omega)]
      simp only [ai1,ac6,ad3] at hu
      obtain⟨x,hx,rfl⟩:=hu
      rw [←hlf]
      simp only [Array.getElem?_map,hx,Option.map_some,Option.getD_some]
      exact ev x
     ·rw [ac9 (by simp; omega)] at hu
      rw [Array.getElem?_append_right (by simp; omega)]
      have:=hrc _ u hu
      rw [ab2] at this
      simpa [hlf] using this
   have hargs:CP G h (A4 cx.A g' (fi'++c.args.toList.map (tD cx.A ρ)++ca')) (F++c.args.map a.eval++C):=by
    unfold A4
    cases cx.A.grow g' with
    | true=>exact hargs0
    | false =>
     refine⟨by simpa using hargs0.1,fun j u hu=>?_⟩
     simp only [cond_false,ai1,ac6] at hu
     obtain⟨x,hx,rfl⟩:=hu
     exact DU (hargs0.2 j x hx)
   cases hext:cx.A.ext g' with
   | some ek =>
   simp only [CV,hext] at hcall
   obtain⟨v,V,hr,hrun,hV⟩:=MU hX hext hcall hargs.1 hargs.2 (w:=w)
   cases hr
   have hrun':(execOp a.eval o).run cx.P w=.ok (.value V) w:=by
    simp only [execOp,ho,resolve,hcal,hF,Deferred.ofValue,Sem.run_bind,Sem.run_pure,Result.andThen_ok,invoke]
    exact hrun
   exact OX hrun' (hkv v h G w V hk (Ext.refl G h w) i hV)
   | none =>
   simp only [CV,hext] at hcall
   obtain⟨henter,hcalls⟩:=hK _ _ _ _ _ hcall G w _ i gl hargs
   have hrun:(execOp a.eval o).run cx.P w=.ok (.enter g' (F++c.args.map a.eval++C)) w:=by
    simp only [execOp,ho,resolve,hcal,hF,Deferred.ofValue,Sem.run_bind,Sem.run_pure,Result.andThen_ok,invoke]
    exact henter w
   unfold Oper.wp
   rw [hrun]
   refine Calls.mono hcalls fun e w' hpost=>?_
   obtain⟨G',x',i',hres⟩:=hpost
   cases res with
   | ret v =>
    obtain⟨V,rfl,hV⟩:=hres
    exact hkv v h' G' w' V hk x' i' hV
   | pan v =>
    obtain⟨V,rfl,hV⟩:=hres
    exact hkp v h' G' w' V hk x' i' hV
  ·rename_i f name hcal
   obtain⟨⟨g',w0⟩,hv,hk⟩:=aa2.1 hb
   have hf:=ev f
   unfold Rf at hv
   split at hv <;> simp only [ac6,af8,reduceCtorEq] at hv
   rename_i t w1 hfv
   obtain⟨g2,hm,rfl,rfl⟩:=hv
   rw [hfv] at hf
   obtain⟨W,hF,hW⟩:=hf.DC
   simp only [] at hk
   unfold kU at hk
   obtain⟨⟨res,h'⟩,hcall,hk⟩:=aa2.1 hk
   have hargs0:CP G h (w1::c.args.toList.map (tD cx.A ρ)) (#[W]++c.args.map a.eval):=by
    refine⟨by simp; omega,fun j u hu=>?_⟩
    cases j with
    | zero =>
     simp only [List.getElem?_cons_zero,ab0] at hu
     subst hu
     have e0:(#[W]++c.args.map a.eval)[0]?=some W:=by rw [Array.getElem?_append_left (by simp)]; rfl
     rw [ab2,e0]
     exact hW
    | succ j =>
     simp only [List.getElem?_cons_succ,ai1,ac6,ad3] at hu
     obtain⟨x,hx,rfl⟩:=hu
     rw [ab2,Array.getElem?_append_right (by simp)]
     simp only [Array.size_singleton,Nat.add_sub_cancel,Array.getElem?_map,hx,Option.map_some,Option.getD_some]
     exact ev x
   have hargs:CP G h (A4 cx.A g2 (w1::c.args.toList.map (tD cx.A ρ))) (#[W]++c.args.map a.eval):=by
    unfold A4
    cases cx.A.grow g2 with
    | true=>exact hargs0
    | false =>
     refine⟨by have:=hargs0.1; simpa using this,fun j u hu=>?_⟩
     simp only [cond_false,ai1,ac6] at hu
     obtain⟨x,hx,rfl⟩:=hu
     exact DU (hargs0.2 j x hx)
   have hrunE:(execOp a.eval o).run cx.P w=(callFunc g2 (#[W]++c.args.map a.eval)).run cx.P w:=by
    have h0:(#[Value.iface t W]++c.args.map a.eval)[0]?=some (Value.iface t W):=by rw [Array.getElem?_append_left (by simp)]; rfl
    have h1:(#[Value.iface t W]++c.args.map a.eval).extract 1 (#[Value.iface t W]++c.args.map a.eval).size=c.args.map a.eval:=by
     apply Array.toList_inj.1
     rw [Array.toList_extract]
     have:c.args.size=(List.map a.eval c.args.toList).length:=by simp
     simp [List.extract,this,-al0,List.take_length]
    simp only [execOp,ho,resolve,hcal,Sem.run_bind,Sem.run_pure,Result.andThen_ok,invoke,hF]
    rw [h0,h1]
    simp only [callMethod,Sem.run_bind,run_program,Result.andThen_ok,aaT hm]
   cases hext:cx.A.ext g2 with
   | some ek =>
    simp only [CV,hext] at hcall
    obtain⟨v,V,hr,hrun,hV⟩:=MU hX hext hcall hargs.1 hargs.2 (w:=w)
    cases hr
    exact OX (hrunE.trans hrun) (hkv v h G w V hk (Ext.refl G h w) i hV)
   | none =>
    simp only [CV,hext] at hcall
    obtain⟨henter,hcalls⟩:=hK _ _ _ _ _ hcall G w _ i gl hargs
    have hrun:=hrunE.trans (henter w)
    unfold Oper.wp
    rw [hrun]
    refine Calls.mono hcalls fun e w' hpost=>?_
    obtain⟨G',x',i',hres⟩:=hpost
    cases res with
    | ret v =>
     obtain⟨V,rfl,hV⟩:=hres
     exact hkv v h' G' w' V hk x' i' hV
    | pan v =>
     obtain⟨V,rfl,hV⟩:=hres
     exact hkp v h' G' w' V hk x' i' hV
 ·cases hb
end
end
noncomputable section
open Go Go.RowKit
section
variable {cx:Cx}{o:Oper}{ρ:List kM}{h:kP}{kv kp:kM→kP→Option R}{r:R}{ids:List Nat}{ops:List Oper}
theorem AO {rsv:Option Nat}:evalOp cx o rsv ρ h kv kp=(evalOp cx o rsv ρ h nM yS).bind (nT kv kp):=by
 unfold evalOp
 generalize tD cx.A ρ=v
 have B:∀(e:Option kM),(e.bind fun w=>kv w h)=(e.bind fun w=>nM w h).bind (nT kv kp):=by intro e; cases e <;> rfl
 have BV:∀(e:Option (kM×kP)),kQ e kv=(kQ e nM).bind (nT kv kp):=by intro e; cases e <;> rfl
 have BR:∀(e:Option (vG×kP)),kU e kv kp=(kU e nM yS).bind (nT kv kp):=by
  intro e
  cases e with
  | none=>rfl
  | some e=>obtain⟨r,h⟩:=e; cases r <;> rfl
 have BH:∀(e:Option kP),(e.bind fun h'=>kv (.tuple []) h')=(e.bind fun h'=>nM (.tuple []) h').bind (nT kv kp):=by intro e; cases e <;> rfl
 have BB:∀(e:Option Bool) (f:Bool→kM),(e.bind fun b=>kv (f b) h)=(e.bind fun b=>nM (f b) h).bind (nT kv kp):=by intro e f; cases e <;> rfl
 have C:∀(b:Bool) (x y:Option R),x=y.bind (nT kv kp)→(bif b then none else x)=(bif b then none else y).bind (nT kv kp):=by intro b x y hxy; cases b <;> simp [hxy]
 have D:∀(b:Bool) (x y:Option R),x=y.bind (nT kv kp)→(bif b then x else none)=(bif b then y else none).bind (nT kv kp):=by intro b x y hxy; cases b <;> simp [hxy]
 have EE:∀(b:Bool) (x y x0 y0:Option R),x=x0.bind (nT kv kp)→y=y0.bind (nT kv kp)→(bif b then x else y)=(bif b then x0 else y0).bind (nT kv kp):=by intro b x y x0 y0 h1 h2; cases b <;> simp [h1,h2]
 have bu:∀(b:Builtin) (ts:List TypeId) (args:List kM),tU cx b ts args h kv=(tU cx b ts args h nM).bind (nT kv kp):=by
  intro b ts args
  unfold tU
  repeat' split
  all_goals first
   | rfl
   | exact B _
   | exact BV _
   | exact BH _
   | exact D _ _ _ (BH _)
   | exact C _ _ _ (BH _)
   | (refine EE _ _ _ _ _ ?_ ?_ <;> first | rfl | exact C _ _ _ (BV _))
   | (refine C _ _ _ ?_; (repeat' split) <;> first | rfl | (refine C _ _ _ ?_; exact BV _))
 have PA:∀(x:kM),EM x h kp=(EM x h yS).bind (nT kv kp):=by intro x; cases x <;> rfl
 unfold oJ
 cases ho:o.op with
 | panic x=>exact PA _
 | call c =>
  simp only []
  cases c.callee with
  | builtin b=>exact bu _ _ _
  | value f =>
   simp only []
   cases BG (v f) with
   | none=>rfl
   | some g=>exact BR _
  | invoke x name =>
   simp only []
   cases Rf cx.P name (v x) with
   | none=>rfl
   | some g=>exact BR _
 | assign x =>
  simp only []
  cases hn:DL x with
  | true=>rfl
  | false=>rfl
 | load t x =>
  simp only []
  split
  ·rename_i g n hg hn
   cases IV cx.tb g n h (v x) with
   | none=>rfl
   | some w =>
    simp only [af4]
    cases cx.rb && cx.frl with
    | false=>rfl
    | true=>exact BV _
  ·rfl
 | store t p x =>
  simp only []
  split
  ·cases cx.frz with
   | false=>exact BH _
   | true =>
    simp only [cond_true]
    cases rY h (v x) with
    | none=>rfl
    | some y=>exact BH _
  ·rfl
 | makeFunc b f c=>cases b <;> rfl
 | makeMap t r=>cases r <;> rfl
 | typeAssert x xt t ok =>
  cases ok with
  | false=>rfl
  | true =>
   simp only []
   repeat' split
   all_goals first
    | rfl
    | exact B _
 | slice t x lo hi mx =>
  cases mx with
  | some _=>rfl
  | none =>
   simp only []
   repeat' split
   all_goals first
    | rfl
    | exact B _
 | _ =>
  simp only []
  repeat' split
  all_goals first
   | rfl
   | exact B _
   | exact BV _
   | exact BH _
   | exact BB _ _
   | (refine C _ _ _ ?_; first | exact B _ | exact BV _ | (split <;> exact BV _))
   | exact D _ _ _ (B _)
   | exact D _ _ _ (BH _)
theorem Uc {f:R→Option R}{x:Option R}{h h':kP}:∀{ids:List Nat},(IE ids h h' x).bind f=IE ids h h' (x.bind f)
 | []=>rfl
 | id::r=>by
  unfold IE
  split
  ·exact Uc
  ·rfl
theorem Hs {r:R}{x:Option R}{h h':kP}:∀{ids:List Nat},IE ids h h' x=some r↔(∀id∈ids,∀b,h[id]?=some b→h'[id]?=some b)∧x=some r
 | []=>by simp [IE]
 | id::l=>by
  unfold IE
  split
  ·rename_i hc
   rw [Hs]
   constructor
   ·intro ⟨a,b⟩
    refine⟨fun i hi=>?_,b⟩
    rcases List.mem_cons.1 hi with rfl | hi
    ·exact hc
    ·exact a i hi
   ·intro ⟨a,b⟩
    exact⟨fun i hi=>a i (List.mem_cons_of_mem _ hi),b⟩
  ·rename_i hc
   constructor
   ·intro e; cases e
   ·intro ⟨a,b⟩
    exact absurd (a id (List.mem_cons_self ..)) hc
theorem aoV {ids:List Nat}{h:kP}{kv kp:kM→kP→Option R}(r:R) :
  nT (fun v h'=>IE ids h h' (kv v h')) kp r=(nT (fun v h'=>IE ids h h' (nM v h')) yS r).bind (nT kv kp):=by
 obtain⟨e,l,h⟩:=r
 cases e with
 | normal =>
  match l with
  | []=>rfl
  | [v]=>exact(Uc (x:=nM v h) (f:=nT kv kp)).symm
  | _::_::_=>rfl
 | _=>rfl
theorem MR:oE cx o ids ρ h kv kp=(oE cx o ids ρ h nM yS).bind (nT kv kp):=by
 unfold oE
 cases cx.ck with
 | true =>
  simp only [cond_true]
  rw [AO (kv:=fun v h'=>IE ids h h' (kv v h')),AO (kv:=fun v h'=>IE ids h h' (nM v h')),Option.bind_assoc]
  refine congrArg (Option.bind _) ?_
  funext r
  exact aoV r
 | false =>
 simp only [cond_false]
 rw [AO (kv:=fun v h'=>kv v (lP ids h h')),AO (kv:=fun v h'=>nM v (lP ids h h')),Option.bind_assoc]
 refine congrArg (Option.bind _) ?_
 funext r
 obtain⟨e,l,h⟩:=r
 cases e with
 | normal =>
  match l with
  | []=>rfl
  | [v]=>rfl
  | _::_::_=>rfl
 | _=>rfl
def B6 (cx:Cx) (ops:List Oper) (o:Oper) (ids:List Nat) (ρ:List kM) (h:kP) (kv:kM→kP→Option R) (kp:kM→kP→Option R):Option R :=
 match o.guard with
 | none=>oE cx o ids ρ h kv kp
 | some (j,want)=>match (ops[j]?).bind (·.dst) with
  | some d=>match ρ.getD d .junk with
   | .bool g=>bif want then(bif g then oE cx o ids ρ h kv kp else kv (.tuple []) h) else(bif g then kv (.tuple []) h else oE cx o ids ρ h kv kp)
   | .tuple []=>kv (.tuple []) h
   | _=>none
  | none=>none
theorem CX:vV cx ops o ids ρ h kv kp=B6 cx ops o ids ρ h kv kp:=by
 unfold vV B6
 cases o.guard with
 | none=>rfl
 | some jw =>
  obtain⟨j,want⟩:=jw
  simp only []
  cases (ops[j]?).bind (·.dst) with
  | none=>rfl
  | some d =>
   dsimp only
   generalize ρ.getD d .junk=x
   cases x with
   | bool g=>cases want <;> cases g <;> first | rfl | exact MR.symm
   | tuple vs=>cases vs <;> rfl
   | _=>rfl
end
end
section
open Go Go.RowKit
section
variable {cx:Cx}{o:Oper}{ρ ρ':List kM}{h h':kP}{kv kp:kM→kP→Option R}{r:R}{ids:List Nat}{ops:List Oper}
theorem Xb {t:Tmp}:t∈AU o↔Operand.tmp t∈o.op.operands:=by
 unfold AU
 simp only [List.mem_filterMap,Array.mem_toList_iff]
 constructor
 ·rintro⟨x,hx,he⟩
  cases x <;> simp at he
  subst he; exact hx
 ·intro hx; exact⟨_,hx,rfl⟩
theorem ME {A:CF}(hag:∀t∈AU o,ρ'.getD t .junk=ρ.getD t .junk) {x:Operand}(hx:x∈o.op.operands):tD A ρ' x=tD A ρ x:=by
 cases x with
 | tmp t=>exact hag t (Xb.2 hx)
 | _=>rfl
theorem D5 {rsv:Option Nat}(hag:∀t∈AU o,ρ'.getD t .junk=ρ.getD t .junk):evalOp cx o rsv ρ' h kv kp=evalOp cx o rsv ρ h kv kp:=by
 have ev:∀x∈o.op.operands,tD cx.A ρ' x=tD cx.A ρ x:=fun x hx=>ME hag hx
 unfold evalOp
 generalize tD cx.A ρ'=v' at *
 generalize tD cx.A ρ=v at *
 clear hag
 have mapP:∀(parts:Array (Nat×Operand)),(∀p∈parts,p.2∈o.op.operands)→(parts.toList.map fun p=>(p.1,v' p.2))=parts.toList.map fun p=>(p.1,v p.2):=by
  intro parts hp
  refine List.map_congr_left fun p hm=>?_
  rw [ev p.2 (hp p (by simpa using hm))]
 have mapA:∀(xs:Array Operand),(∀x∈xs,x∈o.op.operands)→xs.toList.map v'=xs.toList.map v:=by
  intro xs hp
  exact List.map_congr_left fun p hm=>ev p (hp p (by simpa using hm))
 unfold oJ
 cases ho:o.op with
 | call c =>
  simp only [ho,Op.operands,Call.operands] at ev mapA
  cases hc:c.callee with
  | builtin b=>simp only [hc] at ev mapA ⊢; rw [mapA c.args (by simp)]
  | value f=>simp only [hc] at ev mapA ⊢; rw [mapA c.args (by intro x hx; simp [hx]),ev f (by simp)]
  | invoke f name=>simp only [hc] at ev mapA ⊢; rw [mapA c.args (by intro x hx; simp [hx]),ev f (by simp)]
 | build t parts=>simp only [ho,Op.operands] at mapP ⊢; rw [mapP parts (by intro p hp; simp; exact⟨_,hp⟩)]
 | buildSlice t len parts=>simp only [ho,Op.operands] at mapP ⊢; rw [mapP parts (by intro p hp; simp; exact⟨_,hp⟩)]
 | slice t x lo hi mx =>
  have e1:=ev x (by simp [ho,Op.operands])
  have e2:lo.map v'=lo.map v:=by cases lo with | none=>rfl | some l=>simp [ev l (by simp [ho,Op.operands])]
  have e3:hi.map v'=hi.map v:=by cases hi with | none=>rfl | some l=>simp [ev l (by simp [ho,Op.operands])]
  cases mx with
  | none=>simp only [e1,e2,e3]
  | some m=>rfl
 | makeMap t hint=>cases hint <;> rfl
 | typeAssert x xt t ok =>
  cases ok with
  | false=>rfl
  | true=>simp only [ho,Op.operands] at ev ⊢; rw [ev x (by simp)]
 | makeFunc b first cap =>
  simp only [ho,Op.operands] at mapA
  cases b <;> first | rfl | simp only [mapA cap (by intro x hx; simp [hx]),mapA first (by intro x hx; simp [hx])]
 | _=>simp only [ho,Op.operands] at ev ⊢ <;> simp_all
def r_ (h:kP) (id:Nat):Prop:=(∃cs,h[id]?=some (.cells cs))∨(∃es,h[id]?=some (.map es))∨(∃tot sz cs,h[id]?=some (.vec tot sz cs))∨∃t cs,h[id]?=some (.tcells t cs)
def Av (cx:Cx) (o:Oper) (ρ:List kM):Option Nat:=(x_ o).bind fun x=>pK (tD cx.A ρ x)
theorem Mz {g:Bool}{n:Nat}{x v:kM}(hv:kT g n h x=some v) (h2:kP) (ha:∀id,pK x=some id→r_ h id→h2[id]?=h[id]?):kT g n h2 x=some v:=by
 cases x with
 | pptr cs=>exact hv
 | ptr id off =>
  simp only [kT] at hv ⊢
  have:mY h2 id=mY h id:=by
   unfold mY
   cases hb:h[id]? with
   | none=>simp [mY,hb] at hv
   | some bl=>cases bl with
    | cells cs=>rw [ha id rfl (.inl ⟨cs,hb⟩),hb]
    | _=>simp [mY,hb] at hv
  rw [this]; exact hv
 | vptr id tot off =>
  simp only [kT] at hv ⊢
  have:qC h2 id tot=qC h id tot:=by
   unfold qC
   cases hb:h[id]? with
   | none=>simp [qC,hb] at hv
   | some bl=>cases bl with
    | vec t s cs=>rw [ha id rfl (.inr (.inr (.inl ⟨t,s,cs,hb⟩))),hb]
    | _=>simp [qC,hb] at hv
  rw [this]; exact hv
 | _=>simp [kT] at hv
theorem aaP {tb g:Bool}{n:Nat}{x v:kM}(hv:IV tb g n h x=some v) (h2:kP) (ha:∀id,pK x=some id→r_ h id→h2[id]?=h[id]?):IV tb g n h2 x=some v:=by
 cases tb with
 | false=>exact Mz hv h2 ha
 | true =>
  simp only [IV,cond_true] at hv ⊢
  cases x with
  | ptr id off =>
   simp only [l_] at hv ⊢
   cases hg:BT h id with
   | some x0 =>
    have hb:h[id]?=some (.tcells x0.1 x0.2):=by
     unfold BT at hg
     split at hg <;> simp_all
     subst hg; exact⟨rfl,rfl⟩
    have:BT h2 id=BT h id:=by unfold BT; rw [ha id rfl (.inr (.inr (.inr ⟨_,_,hb⟩)))]
    rw [this,hg]
    rw [hg] at hv
    exact hv
   | none =>
    rw [hg] at hv
    simp only [] at hv
    have hbk:r_ h id:=by
     simp only [kT] at hv
     cases hgb:mY h id with
     | none=>simp [hgb] at hv
     | some cs =>
      unfold mY at hgb
      split at hgb
      ·rename_i cs' hc; exact .inl ⟨_,hc⟩
      ·cases hgb
    have:BT h2 id=none:=by
     unfold BT at hg ⊢
     rw [ha id rfl hbk]; exact hg
    rw [this]
    exact Mz hv h2 ha
  | _=>simp only [l_] at hv ⊢; exact Mz hv h2 ha
theorem UM (hrb:cx.rb=false) (he:rP o=false) (hb:evalOp cx o none ρ h kv kp=some r) :
  ∃v,kv v h=some r∧∀(h2:kP) (kv2 kp2:kM→kP→Option R),(∀id,Av cx o ρ=some id→r_ h id→h2[id]?=h[id]?)→evalOp cx o none ρ h2 kv2 kp2=kv2 v h2:=by
 have key:∀{e:Option kM},(e.bind fun w=>kv w h)=some r→(∀h2 kv2 kp2,evalOp cx o none ρ h2 kv2 kp2=e.bind fun w=>kv2 w h2) →
   ∃v,kv v h=some r∧∀(h2:kP) (kv2 kp2:kM→kP→Option R),(∀id,Av cx o ρ=some id→r_ h id→h2[id]?=h[id]?)→evalOp cx o none ρ h2 kv2 kp2=kv2 v h2:=by
  intro e h1 h2
  obtain⟨v,hv,hk⟩:=aa2.1 h1
  exact⟨v,hk,fun a b c _=>by rw [h2,hv]; rfl⟩
 have key0:∀{v:kM},kv v h=some r→(∀h2 kv2 kp2,evalOp cx o none ρ h2 kv2 kp2=kv2 v h2) →
   ∃v,kv v h=some r∧∀(h2:kP) (kv2 kp2:kM→kP→Option R),(∀id,Av cx o ρ=some id→r_ h id→h2[id]?=h[id]?)→evalOp cx o none ρ h2 kv2 kp2=kv2 v h2 :=
  fun h1 h2=>⟨_,h1,fun a b c _=>h2 a b c⟩
 unfold evalOp oJ at hb
 cases ho:o.op with
 | load t a =>
  simp only [ho] at hb
  split at hb
  ·rename_i g n hg hn
   obtain⟨v,hv,hk⟩:=aa2.1 hb
   rw [hrb,Bool.false_and,cond_false] at hk
   refine⟨v,hk,fun h2 kv2 kp2 ha=>?_⟩
   have:=aaP hv h2 fun id hid hblk=>ha id (by simp [Av,x_,ho,hid]) hblk
   simp only [evalOp,oJ,ho,hg,hn,this,af4,hrb,Bool.false_and,cond_false]
  ·cases hb
 | lookup t m k ok =>
  simp only [ho] at hb
  split at hb
  ·rename_i kt e hu
   split at hb
   ·rename_i d z hd hz
    cases hf:oL d (tD cx.A ρ k) with
    | false=>rw [hf] at hb; cases hb
    | true =>
     rw [hf] at hb
     obtain⟨v,hv,hk⟩:=aa2.1 hb
     refine⟨v,hk,fun h2 kv2 kp2 ha=>?_⟩
     have:q7 z ok h2 (tD cx.A ρ m) (tD cx.A ρ k)=some v:=by
      rw [←hv]
      unfold q7
      have hg:zC h2 (tD cx.A ρ m)=zC h (tD cx.A ρ m):=by
       generalize hm:tD cx.A ρ m=x at hv
       cases x with
       | map id =>
        simp only [zC]
        cases hb:h[id]? with
        | none=>simp [q7,zC,hb] at hv
        | some bl=>cases bl with
         | map es=>rw [ha id (by simp [Av,x_,ho,hm,pK]) (.inr (.inl ⟨es,hb⟩)),hb]
         | _=>simp [q7,zC,hb] at hv
       | _=>rfl
      rw [hg]
     simp only [evalOp,oJ,ho,hu,hd,hz,hf,cond_true,this,af4]
   ·cases hb
  ·cases hb
 | call c =>
  simp only [rP,ho] at he
  simp only [ho] at hb
  cases hc:c.callee with
  | builtin b =>
   simp only [hc] at hb he
   unfold tU at hb
   split at hb
   ·rename_i t x hT hA
    split at hb
    ·rename_i ht; exact key0 hb fun _ _ _=>by simp only [evalOp,oJ,ho,hc,tU,hT,hA,ht]
    ·rename_i ht; exact key hb fun _ _ _=>by simp only [evalOp,oJ,ho,hc,tU,hT,hA,ht]
    ·rename_i ht; exact key hb fun _ _ _=>by simp only [evalOp,oJ,ho,hc,tU,hT,hA,ht]
    ·cases hb
   ·rename_i hA; exact key hb fun _ _ _=>by simp only [evalOp,oJ,ho,hc,tU,hA]
   ·rename_i hA; exact key hb fun _ _ _=>by simp only [evalOp,oJ,ho,hc,tU,hA]
   ·rename_i hA; exact key hb fun _ _ _=>by simp only [evalOp,oJ,ho,hc,tU,hA]
   ·rename_i hA; exact key hb fun _ _ _=>by simp only [evalOp,oJ,ho,hc,tU,hA]
   ·simp at he
   ·simp at he
   ·simp at he
   ·simp at he
   ·cases hb
  | value f=>simp [hc] at he
  | _=>simp [hc] at he
 | binOp op t x y yt =>
  simp only [ho] at hb
  split at hb
  ·rename_i fs hu
   split at hb
   ·rename_i ks hks
    obtain⟨v,hv,hk⟩:=aa2.1 hb
    exact⟨_,hk,fun a b c _=>by simp [evalOp,oJ,ho,hu,hks,hv]⟩
   ·cases hb
  ·rename_i fs hu
   split at hb
   ·rename_i ks hks
    obtain⟨v,hv,hk⟩:=aa2.1 hb
    exact⟨_,hk,fun a b c _=>by simp [evalOp,oJ,ho,hu,hks,hv]⟩
   ·cases hb
  all_goals first
   | exact key hb fun _ _ _=>by simp [evalOp,oJ, *]
   | cases hb
 | assign x =>
  simp only [ho,rP] at he hb
  simp only [he,cond_false] at hb
  exact key0 hb fun _ _ _=>by simp only [evalOp,oJ,ho,he,cond_false]
 | makeInterface t x =>
  simp only [ho] at hb
  split at hb
  ·cases hb
  ·exact key0 hb fun _ _ _=>by simp [evalOp,oJ, *]
  ·cases hb
 | makeFunc b first cap =>
  cases b <;> simp only [ho] at hb <;> first
   | exact key0 hb fun _ _ _=>by simp only [evalOp,oJ,ho]
   | cases hb
 | slice t x lo hi mx =>
  cases mx with
  | some m=>simp only [ho] at hb; cases hb
  | none =>
   simp only [ho] at hb
   split at hb
   ·exact key hb fun _ _ _=>by simp [evalOp,oJ, *]
   ·split at hb
    ·exact key hb fun _ _ _=>by simp [evalOp,oJ, *]
    ·cases hb
   ·split at hb
    ·exact key hb fun _ _ _=>by simp [evalOp,oJ, *]
    ·cases hb
   ·cases hb
 | typeAssert x xt t ok =>
  cases ok with
  | false=>simp only [ho] at hb; cases hb
  | true =>
   simp only [ho] at hb
   split at hb
   ·cases hb
   ·split at hb
    ·exact key hb fun _ _ _=>by simp only [evalOp,oJ, *]
    ·cases hb
   ·cases hb
 | move x =>
  simp only [ho] at hb
  exact key0 hb fun _ _ _=>by simp only [evalOp,oJ,ho]
 | fieldAddr t x f =>
  simp only [ho] at hb
  split at hb
  ·split at hb
   ·split at hb
    ·exact key hb fun _ _ _=>by simp [evalOp,oJ, *]
    ·cases hb
   ·cases hb
  ·cases hb
 | field t x f =>
  simp only [ho] at hb
  split at hb
  ·split at hb
   ·split at hb
    ·exact key hb fun _ _ _=>by simp [evalOp,oJ, *]
    ·cases hb
   ·cases hb
  ·cases hb
 | indexAddr t x i =>
  simp only [ho] at hb
  split at hb
  ·split at hb
   ·exact key hb fun _ _ _=>by simp [evalOp,oJ, *]
   ·cases hb
  ·split at hb
   ·exact key hb fun _ _ _=>by simp [evalOp,oJ, *]
   ·cases hb
  ·cases hb
 | index t x i =>
  simp only [ho] at hb
  split at hb
  ·exact key hb fun _ _ _=>by simp [evalOp,oJ, *]
  ·split at hb
   ·exact key hb fun _ _ _=>by simp [evalOp,oJ, *]
   ·cases hb
  ·cases hb
 | convert t t' x =>
  simp only [ho] at hb
  split at hb
  ·exact key hb fun _ _ _=>by simp [evalOp,oJ, *]
  ·split at hb
   ·exact key hb fun _ _ _=>by simp [evalOp,oJ, *]
   ·cases hb
  ·cases hb
 | build t parts =>
  simp only [ho] at hb
  have kb:∀{j:Bool}{e:Option kM},(bif j then none else e.bind fun w=>kv w h)=some r→(∀h2 kv2 kp2,evalOp cx o none ρ h2 kv2 kp2=bif j then none else e.bind fun w=>kv2 w h2) →
    ∃v,kv v h=some r∧∀(h2:kP) (kv2 kp2:kM→kP→Option R),(∀id,Av cx o ρ=some id→r_ h id→h2[id]?=h[id]?)→evalOp cx o none ρ h2 kv2 kp2=kv2 v h2:=by
   intro j e h1 h2
   cases j with
   | true=>cases h1
   | false=>exact key h1 h2
  split at hb
  ·split at hb
   ·exact kb hb fun _ _ _=>by simp only [evalOp,oJ, *]
   ·cases hb
  ·split at hb
   ·exact kb hb fun _ _ _=>by simp only [evalOp,oJ, *]
   ·cases hb
  ·cases hb
 | _ =>
  simp only [ho,rP] at he
  simp only [ho] at hb
  first
   | exact key hb fun _ _ _=>by simp only [evalOp,oJ,ho]
   | cases hb
   | (simp at he; done)
theorem Cn {t:Tmp}:t∈Dj ops o↔t∈AU o∨azR ops o=some t:=by simp [Dj,eq_comm]
theorem Dz (hag:∀t∈AU o,ρ'.getD t .junk=ρ.getD t .junk):oE cx o ids ρ' h kv kp=oE cx o ids ρ h kv kp:=by
 unfold oE
 cases cx.ck with
 | true=>exact D5 hag
 | false=>exact D5 hag
theorem MP (hag:∀t∈Dj ops o,ρ'.getD t .junk=ρ.getD t .junk):vV cx ops o ids ρ' h kv kp=vV cx ops o ids ρ h kv kp:=by
 have h1:oE cx o ids ρ' h kv kp=oE cx o ids ρ h kv kp:=Dz fun t ht=>hag t (Cn.2 (.inl ht))
 simp only [CX]
 unfold B6
 cases hg:o.guard with
 | none=>exact h1
 | some jw =>
  obtain⟨j,want⟩:=jw
  simp only []
  cases hd:(ops[j]?).bind (·.dst) with
  | none=>rfl
  | some d =>
   simp only []
   rw [hag d (Cn.2 (.inr (by simp [azR,hg,hd]))),h1]
theorem GH (hrb:cx.rb=false) (he:rP o=false) (hb:vV cx ops o [] ρ h kv kp=some r) :
  ∃v,kv v h=some r∧∀(h2:kP) (kv2 kp2:kM→kP→Option R),(∀id,Av cx o ρ=some id→r_ h id→h2[id]?=h[id]?)→vV cx ops o [] ρ h2 kv2 kp2=kv2 v h2:=by
 have key:∀(hb:oE cx o [] ρ h kv kp=some r),
   ∃v,kv v h=some r∧∀(h2:kP) (kv2 kp2:kM→kP→Option R),(∀id,Av cx o ρ=some id→r_ h id→h2[id]?=h[id]?)→oE cx o [] ρ h2 kv2 kp2=kv2 v h2:=by
  intro hb
  unfold oE at hb ⊢
  cases hc:cx.ck with
  | true =>
   rw [hc] at hb
   obtain⟨v,h1,h2⟩:=UM hrb he hb
   exact⟨v,h1,fun h3 kv2 kp2 ha=>h2 h3 _ _ ha⟩
  | false =>
   rw [hc] at hb
   obtain⟨v,h1,h2⟩:=UM hrb he hb
   exact⟨v,h1,fun h3 kv2 kp2 ha=>h2 h3 _ _ ha⟩
 simp only [CX] at hb ⊢
 unfold B6 at hb ⊢
 cases hg:o.guard with
 | none=>simp only [hg] at hb ⊢; exact key hb
 | some jw =>
  obtain⟨j,want⟩:=jw
  simp only [hg] at hb ⊢
  cases hd:(ops[j]?).bind (·.dst) with
  | none=>simp only [hd] at hb; cases hb
  | some d =>
   simp only [hd] at hb ⊢
   generalize ρ.getD d .junk=x at hb ⊢
   split at hb
   ·rename_i g
    cases want <;> cases g <;> simp only [cond_true,cond_false] at hb ⊢
    ·exact key hb
    ·exact⟨_,hb,fun _ _ _ _=>rfl⟩
    ·exact⟨_,hb,fun _ _ _ _=>rfl⟩
    ·exact key hb
   ·exact⟨_,hb,fun _ _ _ _=>rfl⟩
   ·cases hb
theorem HF {dst:Option Tmp}{v:kM}{t:Tmp}(hne:∀d,dst=some d→d≠t):(sH ρ dst v).getD t .junk=ρ.getD t .junk:=by
 cases dst with
 | none=>rfl
 | some d=>simp [sH,af6,List.getElem?_set,hne d rfl]
theorem SE {x y:Option Tmp}{u v:kM}(hne:∀d,x=some d→y≠some d):sH (sH ρ x u) y v=sH (sH ρ y v) x u:=by
 cases x with
 | none=>rfl
 | some d=>cases y with
  | none=>rfl
  | some e=>exact List.set_comm _ _ (fun he=>hne d rfl (by rw [he]))
theorem Jq {d:Option Tmp}{ts:List Tmp}(hd:ajG d ts=true):∀t∈ts,∀e,d=some e→e≠t:=by
 rintro t ht e rfl rfl
 simp [ajG] at hd
 exact hd ht
theorem T1 {x y:Oper}(ha:Rl ops x y=true) :
  (∀t∈Dj ops y,∀d,x.dst=some d→d≠t)∧(∀t∈Dj ops x,∀d,y.dst=some d→d≠t)∧(∀d,x.dst=some d→y.dst≠some d):=by
 simp only [Rl,ad2] at ha
 refine⟨Jq ha.1.1,Jq ha.1.2,fun d hd he=>?_⟩
 exact Jq ha.2 d (by simp [he]) d hd rfl
theorem aaU {id n:Nat}{v:kM}{x:kM×kP}(hx:vS id n h v=some x):∃b,h[id]?=some .free∧x=(.ptr id 0,h.set id b)∧∀h2:kP,h2[id]?=some .free→vS id n h2 v=some (.ptr id 0,h2.set id b):=by
 unfold vS at hx
 simp only [] at hx
 split at hx
 ·rename_i hf
  split at hx
  ·rename_i hc
   cases hx
   refine⟨_,hf,rfl,fun h2 h3=>?_⟩
   unfold vS
   simp only [h3]
   rw [if_pos hc]
  ·cases hx
 ·cases hx
theorem IQ {id len sz:Nat}{zero:List kM}{parts:List (Nat×kM)}{x:kM×kP}(hx:qW id len sz zero parts h=some x) :
  ∃b,h[id]?=some .free∧x=(x.1,h.set id b)∧∀h2:kP,h2[id]?=some .free→qW id len sz zero parts h2=some (x.1,h2.set id b):=by
 unfold qW at hx
 split at hx
 ·rename_i rows hf hr
  cases hx
  refine⟨_,hf,rfl,fun h2 h3=>?_⟩
  unfold qW
  simp only [h3,hr]
 ·cases hx
theorem MW {id:Nat}(he:u4 o=true) (hb:evalOp cx o (some id) ρ h kv kp=some r) :
  ∃v b,h[id]?=some .free∧kv v (h.set id b)=some r∧∀(h2:kP) (kv2 kp2:kM→kP→Option R),h2[id]?=some .free→evalOp cx o (some id) ρ h2 kv2 kp2=kv2 v (h2.set id b):=by
 have K1:∀{n:Nat}{v:kM},kQ (vS id n h v) kv=some r→∃u b,h[id]?=some .free∧kv u (h.set id b)=some r∧∀(h2:kP) (kv2:kM→kP→Option R),h2[id]?=some .free→kQ (vS id n h2 v) kv2=kv2 u (h2.set id b):=by
  intro n v hv
  unfold kQ at hv
  obtain⟨x,hx,hk⟩:=aa2.1 hv
  obtain⟨b,h1,rfl,h3⟩:=aaU hx
  exact⟨_,b,h1,hk,fun h2 kv2 hf=>by rw [h3 h2 hf]; rfl⟩
 have K2:∀{len sz:Nat}{zero:List kM}{parts:List (Nat×kM)},kQ (qW id len sz zero parts h) kv=some r →
   ∃u b,h[id]?=some .free∧kv u (h.set id b)=some r∧∀(h2:kP) (kv2:kM→kP→Option R),h2[id]?=some .free→kQ (qW id len sz zero parts h2) kv2=kv2 u (h2.set id b):=by
  intro len sz zero parts hv
  unfold kQ at hv
  obtain⟨x,hx,hk⟩:=aa2.1 hv
  obtain⟨b,h1,h2,h3⟩:=IQ hx
  refine⟨x.1,b,h1,?_,fun h2 kv2 hf=>by rw [h3 h2 hf]; rfl⟩
  rw [h2] at hk; exact hk
 unfold u4 at he
 simp only [ad2] at he
 have he:=he.2
 unfold evalOp oJ at hb ⊢
 split at he
 ·rename_i t ho
  simp only [ho] at hb ⊢
  split at hb
  ·rename_i n z hn hz
   obtain⟨u,b,e1,e2,e3⟩:=K1 hb
   refine⟨u,b,e1,e2,fun h2 kv2 kp2 hf=>?_⟩
   exact e3 h2 kv2 hf
  ·cases hb
 ·rename_i t x ho
  simp only [ho] at hb ⊢
  split at hb
  ·rename_i n hn
   obtain⟨u,b,e1,e2,e3⟩:=K1 hb
   refine⟨u,b,e1,e2,fun h2 kv2 kp2 hf=>?_⟩
   exact e3 h2 kv2 hf
  ·cases hb
 ·rename_i t len parts ho
  simp only [ho] at hb ⊢
  split at hb
  ·rename_i e hel
   split at hb
   ·rename_i n z hn hz
    cases hj:(n == 0 || z.pL || decide (len * n > 16777216)) with
    | true=>rw [hj] at hb; cases hb
    | false =>
     rw [hj] at hb
     obtain⟨u,b,e1,e2,e3⟩:=K2 hb
     refine⟨u,b,e1,e2,fun h2 kv2 kp2 hf=>?_⟩
     exact e3 h2 kv2 hf
   ·cases hb
  ·cases hb
 ·cases he
theorem Qa (he:u4 o=true):rP o=true:=by
 unfold u4 at he
 simp only [ad2] at he
 have he:=he.2
 split at he
 ·rename_i ho; simp [rP,ho]
 ·rename_i ho; simp [rP,ho]
 ·rename_i ho; simp [rP,ho]
 ·cases he
theorem T_ (he:Ap o=true):rP o=true:=by
 unfold Ap at he
 simp only [ad2] at he
 have he:=he.2
 split at he
 ·rename_i c ho
  simp only [rP,ho]
  cases hc:c.callee with
  | value f=>rfl
  | _=>simp [hc] at he
 ·cases he
theorem WK {m:Nat}(hb:A5 cx o m ids ρ h kv=some r) :
  ∃v t,t.length=m∧kv v (t++h.drop m)=some r∧∀(h2:kP) (kv2:kM→kP→Option R),h2.take m=h.take m→A5 cx o m ids ρ h2 kv2=kv2 v (t++h2.drop m):=by
 unfold A5 at hb ⊢
 cases hs:(h.take m).all (sS m) with
 | false=>rw [hs] at hb; cases hb
 | true =>
  rw [hs] at hb
  simp only [cond_true] at hb
  obtain⟨r0,h1,h2⟩:=aa2.1 hb
  unfold EY at h2
  split at h2
  ·rename_i v t
   cases hl:t.length == m with
   | false=>rw [hl] at h2; cases h2
   | true =>
    rw [hl] at h2
    refine⟨v,t,by simpa using hl,h2,fun h3 kv2 he=>?_⟩
    rw [he,hs,h1]
    simp only [cond_true,af4,EY,hl]
  ·cases h2
theorem y7 {m:Nat}{it:Item}(hag:∀t∈Dj ops it.o,ρ'.getD t .junk=ρ.getD t .junk):pH cx ops m it ids ρ' h kv kp=pH cx ops m it ids ρ h kv kp:=by
 have hop:∀t∈AU it.o,ρ'.getD t .junk=ρ.getD t .junk:=fun t ht=>hag t (Cn.2 (.inl ht))
 have hsh:∀t∈AU it.o,(ρ'.map (vL m)).getD t .junk=(ρ.map (vL m)).getD t .junk:=by
  intro t ht
  have h0:∀l:List kM,(l.map (vL m)).getD t .junk=vL m (l.getD t .junk):=by
   intro l
   rw [af6,af6,ai1]
   cases l[t]? <;> rfl
  rw [h0,h0,hop t ht]
 unfold pH
 cases it.rsv with
 | some j=>simp only []; rw [D5 hop]
 | none =>
  simp only []
  rw [MP hag]
  cases it.hid with
  | false=>rfl
  | true =>
   simp only [cond_true,A5]
   rw [Dz hsh]
def aeD (it:Item) (m:Nat) (ids:List Nat) (h h':kP):Prop :=
 (rP it.o=false→h'=h)∧(∀id∈ids,r_ h id→h'[id]?=h[id]?) ∧
 (∀j,it.rsv=some j→∃b,h[m+j]?=some .free∧h'=h.set (m+j) b) ∧
 (it.rsv=none→it.hid=true→∃t,t.length=m∧h'=t++h.drop m)
theorem En (hag:∀t∈AU o,ρ'.getD t .junk=ρ.getD t .junk):seenAt cx.A o ρ'=seenAt cx.A o ρ:=by
 unfold seenAt
 cases hr:x_ o with
 | none=>rfl
 | some x =>
  refine ME hag ?_
  unfold x_ at hr
  split at hr
  ·rename_i ho; cases hr; simp [ho,Op.operands]
  ·rename_i ho; cases hr; simp [ho,Op.operands]
  ·cases hr
theorem Xh {id:Nat}(hf:h[id]?=some .free):¬r_ h id:=by
 rintro(⟨_,h1⟩ | ⟨_,h1⟩ | ⟨_,_,_,h1⟩ | ⟨_,_,h1⟩) <;> rw [hf] at h1 <;> cases h1
theorem U1 (hrb:cx.rb=false) (he:rP o=false) (hr:x_ o=none) (hb:vV cx ops o [] ρ h kv kp=some r) :
  ∃v,kv v h=some r∧∀(h2:kP) (kv2 kp2:kM→kP→Option R),vV cx ops o [] ρ h2 kv2 kp2=kv2 v h2:=by
 obtain⟨v,h1,h2⟩:=GH hrb he hb
 exact⟨v,h1,fun h3 kv2 kp2=>h2 h3 kv2 kp2 fun id hid=>by simp [Av,hr] at hid⟩
theorem ak6 (hrb:cx.rb=false) {m:Nat}{it:Item}{T:kP→kP}
  (hT:(it.rsv≠none)∨(it.rsv=none∧it.hid=true∧(T h).take m=h.take m∧∀t:kP,t.length=m→T (t++h.drop m)=t++(T h).drop m)∨(it.rsv=none∧it.hid=false∧rP it.o=false∧x_ it.o=none))
  (hlocks:rP it.o=false→ids=[])
  (hset:∀j,it.rsv=some j→(T h)[m+j]?=h[m+j]?∧∀b,T (h.set (m+j) b)=(T h).set (m+j) b)
  (hb:pH cx ops m it ids ρ (T h) kv kp=some r):pH cx ops m it ids ρ h (fun v h'=>kv v (T h')) kp=some r:=by
 unfold pH at hb ⊢
 cases hr:it.rsv with
 | some j =>
  simp only [hr] at hb ⊢
  cases hf:u4 it.o with
  | false=>rw [hf] at hb; cases hb
  | true =>
   rw [hf] at hb
   simp only [cond_true] at hb ⊢
   obtain⟨v,b,h1,h2,h3⟩:=MW hf hb
   obtain⟨h4,h5⟩:=hset j hr
   rw [h3 h _ _ (h4 ▸ h1),h5]
   exact h2
 | none =>
  simp only [hr] at hb ⊢
  rcases hT with hT | ⟨_,hh,ht,hd⟩ | ⟨_,hh,he,hrd⟩
  ·exact absurd hr hT
  ·rw [hh] at hb ⊢
   simp only [cond_true] at hb ⊢
   cases hf:Ap it.o with
   | false=>rw [hf] at hb; cases hb
   | true =>
    rw [hf] at hb
    simp only [cond_true] at hb ⊢
    obtain⟨v,t,h1,h2,h3⟩:=WK hb
    rw [h3 h _ ht.symm,hd t h1]
    exact h2
  ·rw [hh] at hb ⊢
   simp only [cond_false] at hb ⊢
   rw [hlocks he] at hb ⊢
   obtain⟨v,h1,h2⟩:=U1 hrb he hrd hb
   rw [h2]
   exact h1
theorem move (hrb:cx.rb=false) {m:Nat}{k:List kM→kP→Option R}(it:Item) (post:List Item) (hil:rP it.o=false→it.locks=[]) (hie:it.rsv≠none∨it.hid=true→rP it.o=true):∀(pre:List Item) (seen ρ:List kM) (h:kP),
  (∀p∈pre,indep ops p it=true∧p.i≠it.i∧p.i < seen.length)→(pre.map (·.i)).Nodup →
  pP cx ops m (pre++it::post) seen ρ h k kp=some r →
  ∃ids kv,pH cx ops m it ids ρ h kv kp=some r∧(∀j∈it.locks,(∀p∈pre,p.i≠j)→∀id,pK (seen.getD j .junk)=some id→id∈ids)∧(rP it.o=false→ids=[]) ∧
   ∀v h',aeD it m ids h h'→kv v h'=some r→pP cx ops m (pre++post) (seen.set it.i (seenAt cx.A it.o ρ)) (sH ρ it.o.dst v) h' k kp=some r:=by
 intro pre
 induction pre with
 | nil =>
  intro seen ρ h _ _ hb
  simp only [List.nil_append,pP,AP] at hb
  refine⟨_,_,hb,fun j hj _ id hid=>?_,fun he=>by simp [kY,hil he],fun v h' _ hk=>hk⟩
  exact List.mem_filterMap.2 ⟨j,hj,hid⟩
 | cons p pre ih =>
  intro seen ρ h hpre hnd hb
  obtain⟨hind,hne,hlt⟩:=hpre p (by simp)
  have hpl:p.rsv≠none∨p.locks=[]:=by
   cases hr:p.rsv with
   | some j=>exact .inl (by simp)
   | none =>
    refine .inr ?_
    cases hir:it.rsv <;> cases hh:p.hid <;> simp [indep,hr,hir,hh] at hind
    ·exact hind.2.1.2
    ·exact hind.2.1
    ·exact hind.2.2
    ·exact hind.2
  have hap:Rl ops p.o it.o=true:=by simp only [indep,ad2] at hind; exact hind.1
  have hind2:=hind
  simp only [indep,hap,Bool.true_and] at hind2
  obtain⟨ha1,ha2,ha3⟩:=T1 hap
  simp only [aj2,List.nodup_cons] at hnd
  have agI:∀(vp:kM),∀t∈Dj ops it.o,(sH ρ p.o.dst vp).getD t .junk=ρ.getD t .junk:=fun vp t ht=>HF (ha1 t ht)
  have agO:∀(vp:kM),∀t∈AU it.o,(sH ρ p.o.dst vp).getD t .junk=ρ.getD t .junk:=fun vp t ht=>agI vp t (Cn.2 (.inl ht))
  have agP:∀(v:kM),∀t∈Dj ops p.o,(sH ρ it.o.dst v).getD t .junk=ρ.getD t .junk:=fun v t ht=>HF (ha2 t ht)
  have agPO:∀(v:kM),∀t∈AU p.o,(sH ρ it.o.dst v).getD t .junk=ρ.getD t .junk:=fun v t ht=>agP v t (Cn.2 (.inl ht))
  have main:∀(idsP:List Nat) (vp:kM) (T:kP→kP),(p.rsv≠none∨(p.locks=[]∧idsP=[])) →
    pP cx ops m (pre++it::post) (seen.set p.i (seenAt cx.A p.o ρ)) (sH ρ p.o.dst vp) (T h) k kp=some r →
    (∀ids kv,(rP it.o=false→ids=[])→(∀j∈it.locks,(∀q∈pre,q.i≠j)→∀id,pK ((seen.set p.i (seenAt cx.A p.o ρ)).getD j .junk)=some id→id∈ids) →
     pH cx ops m it ids ρ (T h) kv kp=some r→pH cx ops m it ids ρ h (fun v h'=>kv v (T h')) kp=some r ∧
     ∀v h',aeD it m ids h h'→aeD it m ids (T h) (T h')∧∀kv2,pH cx ops m p (kY p.locks (seen.set it.i (seenAt cx.A it.o ρ))) (sH ρ it.o.dst v) h' kv2 kp=kv2 vp (T h')) →
    ∃ids kv,pH cx ops m it ids ρ h kv kp=some r∧(∀j∈it.locks,(∀q∈p::pre,q.i≠j)→∀id,pK (seen.getD j .junk)=some id→id∈ids)∧(rP it.o=false→ids=[]) ∧
     ∀v h',aeD it m ids h h'→kv v h'=some r→pP cx ops m (p::pre++post) (seen.set it.i (seenAt cx.A it.o ρ)) (sH ρ it.o.dst v) h' k kp=some r:=by
   intro idsP vp T _ hnext hrun
   obtain⟨ids,kv,e1,e2,e3,e4⟩:=ih _ _ _ (fun q hq=>by
    have:=hpre q (by simp [hq])
    exact⟨this.1,this.2.1,by simpa using this.2.2⟩) hnd.2 hnext
   rw [y7 (agI vp)] at e1
   obtain⟨r1,r2⟩:=hrun ids kv e3 e2 e1
   refine⟨ids,_,r1,fun j hj hno id hid=>?_,e3,fun v h' hkeep hk=>?_⟩
   ·refine e2 j hj (fun q hq=>hno q (by simp [hq])) id ?_
    have:p.i≠j:=hno p (by simp)
    simpa [af6,List.getElem?_set,this] using hid
   ·obtain⟨k1,k2⟩:=r2 v h' hkeep
    have e5:=e4 v (T h') k1 hk
    simp only [af2,pP,AP]
    rw [k2]
    rw [En (agPO v),SE (ρ:=ρ) (x:=it.o.dst) (y:=p.o.dst) (fun d h1 h2=>ha3 d h2 h1),List.set_comm _ _ (Ne.symm hne),←En (agO vp)]
    exact e5
  simp only [af2,pP,AP] at hb
  cases hpr:p.rsv with
  | some a =>
   have hb':=hb
   unfold pH at hb'
   simp only [hpr] at hb'
   cases hf:u4 p.o with
   | false=>rw [hf] at hb'; cases hb'
   | true =>
    rw [hf] at hb'
    simp only [cond_true] at hb'
    obtain⟨vp,b,f1,f2,f3⟩:=MW hf hb'
    have hlen:m+a < h.length:=(ab1.1 f1).1
    have tk:∀x:kP,(x.set (m+a) b).take m=x.take m:=fun x=>List.take_set_of_le (by omega)
    have ts:∀t x:kP,t.length=m→(t++x.drop m).set (m+a) b=t++(x.set (m+a) b).drop m:=by
     intro t x ht
     rw [List.set_append_right _ _ (by omega),List.drop_set,if_neg (by omega),ht]
    refine main [] vp (fun x=>x.set (m+a) b) (.inl (by simp [hpr])) f2 fun ids kv he hl hrun=>⟨?_,fun v h' hk=>⟨?_,fun kv2=>?_⟩⟩
    ·refine ak6 hrb ?_ he (fun j hj=>?_) hrun
     ·cases hir:it.rsv with
      | some j=>exact .inl (by simp)
      | none =>
       refine .inr ?_
       simp only [hpr,hir] at hind2
       cases hh:it.hid with
       | true=>exact .inl ⟨rfl,rfl,tk h,fun t ht=>ts t h ht⟩
       | false =>
        simp [hh] at hind2
        exact .inr ⟨rfl,rfl,hind2.1,hind2.2⟩
     ·simp only [hpr,hj,bne_iff_ne,ne_eq] at hind2
      exact⟨List.getElem?_set_ne (by omega),fun b'=>List.set_comm _ _ (by omega)⟩
    ·obtain⟨k1,k2,k3,k4⟩:=hk
     refine⟨fun he=>by rw [k1 he],fun id hid hbl=>?_,fun j hj=>?_,fun hr hh=>?_⟩
     ·by_cases hia:m+a=id
      ·subst hia
       by_cases h2:m+a < h'.length
       ·simp [List.getElem?_set,hlen,h2]
       ·exfalso
        cases hir:it.rsv with
        | some j=>obtain⟨b',_,rfl⟩:=k3 j hir; simp at h2; omega
        | none =>
         cases hh:it.hid with
         | true=>obtain⟨t,ht,rfl⟩:=k4 hir hh; simp at h2; omega
         | false =>
          simp only [hpr,hir,hh] at hind2
          simp at hind2
          rw [k1 hind2.1] at h2; exact h2 hlen
      ·rw [List.getElem?_set_ne hia,List.getElem?_set_ne hia]
       refine k2 id hid ?_
       unfold r_ at hbl ⊢
       rwa [List.getElem?_set_ne hia] at hbl
     ·obtain⟨b',f4,rfl⟩:=k3 j hj
      simp only [hpr,hj,bne_iff_ne,ne_eq] at hind2
      exact⟨b',by rw [List.getElem?_set_ne (by omega)]; exact f4,List.set_comm _ _ (by omega)⟩
     ·obtain⟨t,ht,rfl⟩:=k4 hr hh
      exact⟨t,ht,ts t h ht⟩
    ·have hfree:h'[m+a]?=some .free:=by
      obtain⟨k1,k2,k3,k4⟩:=hk
      cases hir:it.rsv with
      | some j =>
       obtain⟨b',f4,rfl⟩:=k3 j hir
       simp only [hpr,hir,bne_iff_ne,ne_eq] at hind2
       rw [List.getElem?_set_ne (by omega)]; exact f1
      | none =>
       cases hh:it.hid with
       | true =>
        obtain⟨t,ht,rfl⟩:=k4 hir hh
        rw [ac9 (by omega),ah5,ht]
        rw [show m+(m+a - m)=m+a by omega]; exact f1
       | false =>
        simp only [hpr,hir,hh] at hind2
        simp at hind2
        rw [k1 hind2.1]; exact f1
     rw [y7 (agP v)]
     unfold pH
     simp only [hpr,hf,cond_true]
     exact f3 h' _ _ hfree
  | none =>
   have hlk:p.locks=[]:=hpl.resolve_left (by simp [hpr])
   cases hph:p.hid with
   | true =>
    have hb':=hb
    unfold pH at hb'
    simp only [hpr,hph,cond_true] at hb'
    cases hf:Ap p.o with
    | false=>rw [hf] at hb'; cases hb'
    | true =>
     rw [hf] at hb'
     simp only [cond_true,hlk,kY,List.filterMap_nil] at hb'
     obtain⟨vp,t,f1,f2,f3⟩:=WK hb'
     have hkind:(∃j,it.rsv=some j)∨(it.rsv=none∧it.hid=false∧rP it.o=false∧x_ it.o=none):=by
      cases hir:it.rsv with
      | some j=>exact .inl ⟨j,rfl⟩
      | none =>
       simp only [hpr,hir,hph] at hind2
       simp at hind2
       exact .inr ⟨rfl,hind2.2.1,hind2.2.2.1,hind2.2.2.2⟩
     refine main [] vp (fun x=>t++x.drop m) (.inr ⟨hlk,rfl⟩) f2 fun ids kv he hl hrun=>⟨?_,fun v h' hk=>⟨?_,fun kv2=>?_⟩⟩
     ·refine ak6 hrb ?_ he (fun j hj=>⟨?_,fun b'=>?_⟩) hrun
      ·rcases hkind with ⟨j,hj⟩ | hk
       ·exact .inl (by simp [hj])
       ·exact .inr (.inr hk)
      ·rw [ac9 (by omega),ah5,f1,show m+(m+j - m)=m+j by omega]
      ·rw [List.set_append_right _ _ (by omega),List.drop_set,if_neg (by omega),f1]
     ·obtain⟨k1,k2,k3,k4⟩:=hk
      rcases hkind with ⟨j,hj⟩ | ⟨g1,g2,g3,g4⟩
      ·obtain⟨b',f4,rfl⟩:=k3 j hj
       have hie':=hie (.inl (by simp [hj]))
       have hlen:m+j < h.length:=(ab1.1 f4).1
       have e1:t++(h.set (m+j) b').drop m=(t++h.drop m).set (m+j) b':=by
        rw [List.set_append_right _ _ (by omega),List.drop_set,if_neg (by omega),f1]
       refine⟨fun he=>(by rw [hie'] at he; cases he),fun id hid hbl=>?_,fun j' hj'=>?_,fun hr=>(by rw [hj] at hr; cases hr)⟩
       ·rw [e1]
        refine List.getElem?_set_ne fun hji=>?_
        subst hji
        refine Xh ?_ hbl
        rw [ac9 (by omega),ah5,f1,show m+(m+j - m)=m+j by omega]
        exact f4
       ·rw [hj] at hj'; cases hj'
        refine⟨b',?_,e1⟩
        rw [ac9 (by omega),ah5,f1,show m+(m+j - m)=m+j by omega]
        exact f4
      ·have:=k1 g3
       subst this
       exact⟨fun _=>rfl,fun _ _ _=>rfl,fun j hj=>(by rw [g1] at hj; cases hj),fun _ hh=>(by rw [g2] at hh; cases hh)⟩
     ·have htake:h'.take m=h.take m:=by
       obtain⟨k1,k2,k3,k4⟩:=hk
       rcases hkind with ⟨j,hj⟩ | ⟨g1,g2,g3,g4⟩
       ·obtain⟨b',f4,rfl⟩:=k3 j hj
        exact List.take_set_of_le (by omega)
       ·rw [k1 g3]
      rw [y7 (agP v)]
      unfold pH
      simp only [hpr,hph,hf,cond_true,hlk,kY,List.filterMap_nil]
      exact f3 h' _ htake
   | false =>
    have hpe:rP p.o=false:=by
     cases hir:it.rsv <;> simp [hpr,hir,hph] at hind2
     ·exact hind2.1.1
     ·exact hind2.1
    have hb':=hb
    unfold pH at hb'
    simp only [hpr,hph,cond_false,hlk,kY,List.filterMap_nil] at hb'
    obtain⟨vp,hnext,hlight⟩:=GH hrb hpe hb'
    refine main [] vp id (.inr ⟨hlk,rfl⟩) hnext fun ids kv he hl hrun=>⟨hrun,fun v h' hk=>⟨hk,fun kv2=>?_⟩⟩
    rw [y7 (agP v)]
    unfold pH
    simp only [hpr,hph,cond_false,hlk,kY,List.filterMap_nil]
    refine hlight h' _ _ fun id hid hblk=>?_
    obtain⟨k1,k2,k3,k4⟩:=hk
    cases hir:it.rsv with
    | some j =>
     obtain⟨b',f4,rfl⟩:=k3 j hir
     refine List.getElem?_set_ne fun hji=>?_
     subst hji
     exact Xh f4 hblk
    | none =>
     cases hie2:rP it.o with
     | false=>rw [k1 hie2]
     | true =>
      refine k2 id ?_ hblk
      have hrd:(x_ p.o).isSome=true:=by
       unfold Av at hid
       cases hr:x_ p.o with
       | none=>simp [hr] at hid
       | some x=>rfl
      simp only [hpr,hir,hph,cond_false,ad2,Bool.or_eq_true] at hind2
      have hmem:p.i∈it.locks:=by
       rcases hind2.2 with (h1 | h1) | h1
       ·simp [hrd] at h1
       ·simp [hie2] at h1
       ·simpa using h1
      refine hl p.i hmem (fun q hq he=>hnd.1 (List.mem_map.2 ⟨q,hq,he⟩)) id ?_
      have:(seen.set p.i (seenAt cx.A p.o ρ)).getD p.i .junk=seenAt cx.A p.o ρ:=by simp [af6,hlt]
      rw [this]
      unfold Av at hid
      unfold seenAt
      cases hr:x_ p.o with
      | none=>simp [hr] at hid
      | some x=>simpa [hr] using hid
end
end
section
open Go Go.RowKit
structure Sub (h h':kP):Prop where
 live:∀id,Hk.live h id→Hk.live h' id
 front:∀(id n sz t:Nat),h[id]?=some (.front n sz t)→h'[id]?=some (.front n sz t)
 nf:∀id,At h id→At h' id
theorem lM.sub {G:Gh}{h h':kP}(s:Sub h h') {v:kM}{V:Value}(r:lM G h v V):lM G h' v V:=by
 induction r with
 | p v V hp=>exact .p v V hp
 | agg cs C hl _ ih=>exact .agg cs C hl ih
 | tuple cs C hl _ ih=>exact .tuple cs C hl ih
 | nil=>exact .nil
 | own rows id n sz V hp hf hn hr hc=>exact .own rows id n sz V hp (s.front _ _ _ _ hf) hn hr hc
 | ownv id V hp hb=>exact .ownv id V hp (s.nf _ hb)
 | vslice id tot off len sz b cap hl ht hc hv=>exact .vslice id tot off len sz b cap (s.nf _ hl) ht hc hv
 | vptr id tot off b hl ht hv=>exact .vptr id tot off b (s.nf _ hl) ht hv
 | ptr id off hl=>exact .ptr id off (s.live _ hl)
 | mslice id off len sz cap hl hc=>exact .mslice id off len sz cap (s.live _ hl) hc
 | mslice0 id off sz cap a=>exact .mslice0 id off sz cap a
 | map id hl=>exact .map id (s.live _ hl)
 | func f first cap F C hlf hlc _ _ ihf ihc=>exact .func f first cap F C hlf hlc ihf ihc
 | iface t v V _ ih=>exact .iface t v V ih
theorem r_.nf {h:kP}{id:Nat}(hb:r_ h id):∃b,h[id]?=some b∧b≠.free∧∀n sz t,b≠.front n sz t:=by
 rcases hb with ⟨cs,hc⟩ | ⟨es,hc⟩ | ⟨t,s,cs,hc⟩ | ⟨t,cs,hc⟩ <;> exact⟨_,hc,by simp,by simp⟩
theorem abJ (h:kP) (a id:Nat):(r_ h a∧a=id∧(oB h a)[id]?=some .gone)∨(¬(r_ h a∧a=id)∧(oB h a)[id]?=h[id]?):=by
 unfold oB
 cases hb:h[a]? with
 | none=>exact .inr ⟨fun hh=>(by obtain⟨⟨_,h1⟩ | ⟨_,h1⟩ | ⟨_,_,_,h1⟩ | ⟨_,_,h1⟩,_⟩:=hh <;> rw [hb] at h1 <;> cases h1),rfl⟩
 | some b =>
  have hlt:a < h.length:=(ab1.1 hb).1
  cases b with
  | cells cs =>
   by_cases ha:a=id
   ·subst ha; exact .inl ⟨.inl ⟨_,hb⟩,rfl,by simp [hlt]⟩
   ·exact .inr ⟨fun h=>ha h.2,by simp [List.getElem?_set,ha]⟩
  | map es =>
   by_cases ha:a=id
   ·subst ha; exact .inl ⟨.inr (.inl ⟨_,hb⟩),rfl,by simp [hlt]⟩
   ·exact .inr ⟨fun h=>ha h.2,by simp [List.getElem?_set,ha]⟩
  | vec t s cs =>
   by_cases ha:a=id
   ·subst ha; exact .inl ⟨.inr (.inr (.inl ⟨_,_,_,hb⟩)),rfl,by simp [hlt]⟩
   ·exact .inr ⟨fun h=>ha h.2,by simp [List.getElem?_set,ha]⟩
  | tcells t cs =>
   by_cases ha:a=id
   ·subst ha; exact .inl ⟨.inr (.inr (.inr ⟨_,_,hb⟩)),rfl,by simp [hlt]⟩
   ·exact .inr ⟨fun h=>ha h.2,by simp [List.getElem?_set,ha]⟩
  | _=>exact .inr ⟨fun hh=>(by obtain⟨⟨_,h1⟩ | ⟨_,h1⟩ | ⟨_,_,_,h1⟩ | ⟨_,_,h1⟩,_⟩:=hh <;> rw [hb] at h1 <;> cases h1),rfl⟩
theorem Cl (ids:List Nat):∀(h:kP) (id:Nat),(id∈ids∧r_ h id∧(nL ids h)[id]?=some .gone)∨(¬(id∈ids∧r_ h id)∧(nL ids h)[id]?=h[id]?):=by
 induction ids with
 | nil=>intro h id; exact .inr ⟨by simp,rfl⟩
 | cons a ids ih =>
  intro h id
  have hc:(nL (a::ids) h)=nL ids (oB h a):=rfl
  rw [hc]
  rcases abJ h a id with ⟨h1,rfl,h3⟩ | ⟨h1,h2⟩
  ·rcases ih (oB h a) a with ⟨h4,h5,h6⟩ | ⟨h4,h5⟩
   ·exact .inl ⟨by simp,h1,h6⟩
   ·exact .inl ⟨by simp,h1,h5.trans h3⟩
  ·have hb:r_ (oB h a) id↔r_ h id:=by unfold r_; rw [h2]
   rcases ih (oB h a) id with ⟨h4,h5,h6⟩ | ⟨h4,h5⟩
   ·exact .inl ⟨by simp [h4],hb.1 h5,h6⟩
   ·refine .inr ⟨fun hh=>?_,h5.trans h2⟩
    rcases List.mem_cons.1 hh.1 with he | he
    ·exact h1 ⟨he ▸ hh.2,he.symm⟩
    ·exact h4 ⟨he,hb.2 hh.2⟩
theorem VM (h r:kP) (a id:Nat) (hlt:r_ h a→a < r.length):(r_ h a∧a=id∧(mL h r a)[id]?=h[id]?)∨(¬(r_ h a∧a=id)∧(mL h r a)[id]?=r[id]?):=by
 unfold mL
 cases hb:h[a]? with
 | none=>exact .inr ⟨fun hh=>(by obtain⟨⟨_,h1⟩ | ⟨_,h1⟩ | ⟨_,_,_,h1⟩ | ⟨_,_,h1⟩,_⟩:=hh <;> rw [hb] at h1 <;> cases h1),rfl⟩
 | some b =>
  cases b with
  | cells cs =>
   have:=hlt (.inl ⟨_,hb⟩)
   by_cases ha:a=id
   ·subst ha; exact .inl ⟨.inl ⟨_,hb⟩,rfl,by simp [this,hb]⟩
   ·exact .inr ⟨fun h=>ha h.2,by simp [List.getElem?_set,ha]⟩
  | map es =>
   have:=hlt (.inr (.inl ⟨_,hb⟩))
   by_cases ha:a=id
   ·subst ha; exact .inl ⟨.inr (.inl ⟨_,hb⟩),rfl,by simp [this,hb]⟩
   ·exact .inr ⟨fun h=>ha h.2,by simp [List.getElem?_set,ha]⟩
  | vec t s cs =>
   have:=hlt (.inr (.inr (.inl ⟨_,_,_,hb⟩)))
   by_cases ha:a=id
   ·subst ha; exact .inl ⟨.inr (.inr (.inl ⟨_,_,_,hb⟩)),rfl,by simp [this,hb]⟩
   ·exact .inr ⟨fun h=>ha h.2,by simp [List.getElem?_set,ha]⟩
  | tcells t cs =>
   have:=hlt (.inr (.inr (.inr ⟨_,_,hb⟩)))
   by_cases ha:a=id
   ·subst ha; exact .inl ⟨.inr (.inr (.inr ⟨_,_,hb⟩)),rfl,by simp [this,hb]⟩
   ·exact .inr ⟨fun h=>ha h.2,by simp [List.getElem?_set,ha]⟩
  | _=>exact .inr ⟨fun hh=>(by obtain⟨⟨_,h1⟩ | ⟨_,h1⟩ | ⟨_,_,_,h1⟩ | ⟨_,_,h1⟩,_⟩:=hh <;> rw [hb] at h1 <;> cases h1),rfl⟩
theorem OL (h r:kP) (a:Nat):(mL h r a).length=r.length:=by
 unfold mL; split <;> simp
theorem XQ (h:kP) (ids:List Nat):∀(r:kP) (id:Nat),(∀a∈ids,r_ h a→a < r.length) →
  (id∈ids∧r_ h id∧(lP ids h r)[id]?=h[id]?)∨(¬(id∈ids∧r_ h id)∧(lP ids h r)[id]?=r[id]?):=by
 induction ids with
 | nil=>intro r id _; exact .inr ⟨by simp,rfl⟩
 | cons a ids ih =>
  intro r id hlt
  have hc:lP (a::ids) h r=lP ids h (mL h r a):=rfl
  rw [hc]
  have ih':=ih (mL h r a) id fun b hb hbl=>by rw [OL]; exact hlt b (by simp [hb]) hbl
  rcases VM h r a id (hlt a (by simp)) with ⟨h1,rfl,h3⟩ | ⟨h1,h2⟩
  ·rcases ih' with ⟨h4,h5,h6⟩ | ⟨h4,h5⟩
   ·exact .inl ⟨by simp,h1,h6⟩
   ·exact .inl ⟨by simp,h1,h5.trans h3⟩
  ·rcases ih' with ⟨h4,h5,h6⟩ | ⟨h4,h5⟩
   ·exact .inl ⟨by simp [h4],h5,h6⟩
   ·refine .inr ⟨fun hh=>?_,h5.trans h2⟩
    rcases List.mem_cons.1 hh.1 with he | he
    ·exact h1 ⟨he ▸ hh.2,he.symm⟩
    ·exact h4 ⟨he,hh.2⟩
theorem Uw (ids:List Nat) (h:kP):Sub h (nL ids h) where
 live:=fun id ⟨b,h1,h2⟩=>by
  rcases Cl ids h id with ⟨_,_,h5⟩ | ⟨_,h5⟩
  ·exact⟨_,h5,by simp⟩
  ·exact⟨b,h5.trans h1,h2⟩
 front:=fun id n sz t hf=>by
  rcases Cl ids h id with ⟨_,h4,_⟩ | ⟨_,h5⟩
  ·obtain⟨b,h6,_,h7⟩:=h4.nf; rw [hf] at h6; cases h6; exact absurd rfl (h7 _ _ _)
  ·exact h5.trans hf
 nf:=fun id ⟨b,h1,h2,h3⟩=>by
  rcases Cl ids h id with ⟨_,_,h5⟩ | ⟨_,h5⟩
  ·exact⟨_,h5,by simp,by simp⟩
  ·exact⟨b,h5.trans h1,h2,h3⟩
theorem x8 {G:Gh}{ids:List Nat}{h:kP}{id b:Nat}(ho:owner G (nL ids h) id=some b):owner G h id=some b∧¬(id∈ids∧r_ h id):=by
 rcases Cl ids h id with ⟨_,_,h5⟩ | ⟨h4,h5⟩
 ·simp [owner,h5] at ho
 ·refine⟨?_,h4⟩
  unfold owner at *; rw [h5] at ho; exact ho
theorem ED.sub {G:Gh}{h h':kP}{w:World}{id:Nat}{bl:lE}(s:Sub h h') (b:ED G h w id bl):ED G h' w id bl:=by
 cases bl with
 | cells cs =>
  obtain⟨C,e,h1,h2,h3,h4⟩:=b
  exact⟨C,e,h1,h2,h3,fun i v hv=>⟨(h4 i v hv).1,(h4 i v hv).2.sub s⟩⟩
 | tcells t cs =>
  obtain⟨C,h1,h2,h3,h4⟩:=b
  exact⟨C,h1,h2,h3,fun i v hv=>⟨(h4 i v hv).1,(h4 i v hv).2.sub s⟩⟩
 | map es =>
  obtain⟨E,c,h1,h2,h3,h4,hst⟩:=b
  refine⟨E,c,h1,h2,h3,fun i kv hkv=>?_,hst⟩
  obtain⟨m,h5,h6,h7,h8⟩:=h4 i kv hkv
  exact⟨m,h5,h6,h7,h8.sub s⟩
 | vec t sz cs =>
  obtain⟨b',cap,C,e,g1,g2,g3,g4,g5,g6,g7,g8,g9⟩:=b
  exact⟨b',cap,C,e,g1,g2,g3,g4,g5,g6,g7,g8,fun i v hv=>⟨(g9 i v hv).1,(g9 i v hv).2.sub s⟩⟩
 | _=>exact b
theorem Inv.nL {G:Gh}{h:kP}{w:World}(i:Inv G h w) (ids:List Nat):Inv G (nL ids h) w where
 ok:=i.ok
 oP:=fun id bl hb=>by
  rcases Cl ids h id with ⟨_,_,h5⟩ | ⟨h4,h5⟩
  ·rw [h5] at hb; cases hb; trivial
  ·exact(i.oP id bl (h5.symm.trans hb)).sub (Uw ids h)
 inj:=fun a b c h1 h2=>i.inj a b c (x8 h1).1 (x8 h2).1
theorem QX {G G':Gh}{h h':kP}{w w':World}{ids:List Nat}(i:Inv G h w) (x:Ext G (Hk.nL ids h) w G' h' w') (i':Inv G' h' w') :
  Ext G h w G' (lP ids h h') w'∧Inv G' (lP ids h h') w'∧Sub h' (lP ids h h')∧∀id∈ids,r_ h id→(lP ids h h')[id]?=h[id]?:=by
 have gone:∀id,id∈ids→r_ h id→h'[id]?=some .gone∧G'.oP id=G.oP id∧G'.cur id=G.cur id:=by
  intro id h1 h2
  rcases Cl ids h id with ⟨_,_,h5⟩ | ⟨h4,_⟩
  ·obtain⟨bl,h6,h7⟩:=x.kinds id _ h5
   cases bl <;> simp_all [Kind]
  ·exact absurd ⟨h1,h2⟩ h4
 have get:=fun id=>XQ h ids h' id fun a ha hb=>(ab1.1 (gone a ha hb).1).1
 have sub:Sub h' (lP ids h h'):=by
  refine⟨fun id ⟨b,h1,h2⟩=>?_,fun id n sz t hf=>?_,fun id ⟨b,h1,h2,h3⟩=>?_⟩
  ·rcases get id with ⟨_,h4,h5⟩ | ⟨_,h5⟩
   ·obtain⟨b',h6,h7,_⟩:=h4.nf
    exact⟨b',h5.trans h6,h7⟩
   ·exact⟨b,h5.trans h1,h2⟩
  ·rcases get id with ⟨h3,h4,_⟩ | ⟨_,h5⟩
   ·rw [(gone id h3 h4).1] at hf; cases hf
   ·exact h5.trans hf
  ·rcases get id with ⟨_,h4,h5⟩ | ⟨_,h5⟩
   ·obtain⟨b',h6,h7,h8⟩:=h4.nf
    exact⟨b',h5.trans h6,h7,h8⟩
   ·exact⟨b,h5.trans h1,h2,h3⟩
 have own:∀id b,owner G' (lP ids h h') id=some b→(id∈ids∧r_ h id∧owner G h id=some b)∨(¬(id∈ids∧r_ h id)∧owner G' h' id=some b):=by
  intro id b ho
  rcases get id with ⟨h3,h4,h5⟩ | ⟨h4,h5⟩
  ·obtain⟨_,e1,e2⟩:=gone id h3 h4
   refine .inl ⟨h3,h4,?_⟩
   unfold owner at ho ⊢
   rwa [h5,e1,e2] at ho
  ·refine .inr ⟨h4,?_⟩
   unfold owner at *; rw [h5] at ho; exact ho
 have ext:Ext G h w G' (lP ids h h') w':=by
  refine⟨x.os,x.tape,x.output,x.size,fun b hb hn=>x.frame b hb fun id ho=>hn id (x8 ho).1,x.hmono,fun id b ho hlt=>?_,fun id bl hb=>?_⟩
  ·rcases own id b ho with ⟨_,_,h2⟩ | ⟨_,h2⟩
   ·exact h2
   ·exact(x8 (x.own id b h2 hlt)).1
  ·rcases get id with ⟨h3,h4,h5⟩ | ⟨h4,h5⟩
   ·refine⟨bl,h5.trans hb,?_⟩
    obtain⟨_,e1,e2⟩:=gone id h3 h4
    cases bl <;> simp [Kind,e1,e2]
   ·rcases Cl ids h id with ⟨h6,h7,_⟩ | ⟨_,h7⟩
    ·exact absurd ⟨h6,h7⟩ h4
    ·obtain⟨bl',h8,h9⟩:=x.kinds id bl (h7.trans hb)
     exact⟨bl',h5.trans h8,h9⟩
 refine⟨ext,⟨i'.ok,fun id bl hb=>?_,fun a b c h1 h2=>?_⟩,sub,fun id h1 h2=>?_⟩
 ·rcases get id with ⟨h3,h4,h5⟩ | ⟨h4,h5⟩
  ·have hb':h[id]?=some bl:=h5.symm.trans hb
   obtain⟨_,e1,e2⟩:=gone id h3 h4
   refine(i.oP id bl hb').abT ext.toMono e1 e2 fun b ho=>?_
   refine x.frame b (i.lt (by rw [pR hb']; exact ho)) fun j hj=>?_
   obtain⟨h6,h7⟩:=x8 hj
   have:=i.inj j id _ h6 (by rw [pR hb']; exact ho)
   subst this
   exact h7 ⟨h3,h4⟩
  ·exact(i'.oP id bl (h5.symm.trans hb)).sub sub
 ·rcases own a c h1 with ⟨_,a2,a3⟩ | ⟨a1,a2⟩ <;> rcases own b _ h2 with ⟨_,b2,b3⟩ | ⟨b1,b2⟩
  ·exact i.inj a b _ a3 b3
  ·exact i.inj a b _ a3 (x8 (x.own b _ b2 (i.lt a3))).1
  ·exact i.inj a b _ (x8 (x.own a _ a2 (i.lt b3))).1 b3
  ·exact i'.inj a b c a2 b2
 ·rcases get id with ⟨_,_,h5⟩ | ⟨h4,_⟩
  ·exact h5
  ·exact absurd ⟨h1,h2⟩ h4
section
variable {G G':Gh}{h h':kP}{w:World}{m:Nat}
structure Left (G:Gh) (h:kP) (G':Gh) (h':kP) (m:Nat):Prop where
 hmono:∀b k v,G.H b k=some v→G'.H b k=some v
 oP:G'.oP=G.oP
 cur:G'.cur=G.cur
 live:∀id,id < m→Hk.live h id→Hk.live h' id
 front:∀(id n sz t:Nat),id < m→h[id]?=some (.front n sz t)→h'[id]?=some (.front n sz t)
 nf:∀id,id < m→At h id→At h' id
theorem xK (l:Left G h G' h' m) {v:kM}{V:Value}(hs:v.pE m=true) (r:lM G h v V):lM G' h' v V:=by
 cases r with
 | p v V hp=>exact .p v V (hp.mono l.hmono)
 | agg cs C hl hh=>simp [kM.pE] at hs
 | tuple cs C hl hh=>simp [kM.pE] at hs
 | nil=>exact .nil
 | own rows id n sz V hp hf hn hr hc =>
  have hid:id < m:=by simpa [kM.pE,qA] using hs
  exact .own rows id n sz V (hp.mono l.hmono) (l.front _ _ _ _ hid hf) hn hr (by rw [l.cur]; exact hc)
 | ownv id V hp hb =>
  have hid:id < m:=by simpa [kM.pE,qA] using hs
  exact .ownv id V (hp.mono l.hmono) (l.nf _ hid hb)
 | vslice id tot off len sz b cap hl ht hc hv =>
  have hid:id < m:=by simpa [kM.pE,qA] using hs
  exact .vslice id tot off len sz b cap (l.nf _ hid hl) (by rw [l.cur]; exact ht) hc (by rw [l.cur]; exact hv)
 | vptr id tot off b hl ht hv =>
  have hid:id < m:=by simpa [kM.pE,qA] using hs
  exact .vptr id tot off b (l.nf _ hid hl) (by rw [l.cur]; exact ht) (by rw [l.cur]; exact hv)
 | ptr id off hl =>
  have hid:id < m:=by simpa [kM.pE,qA] using hs
  rw [←l.oP]; exact .ptr id off (l.live _ hid hl)
 | mslice id off len sz cap hl hc =>
  have hid:id < m:=by simpa [kM.pE,qA] using hs
  rw [←l.oP]; exact .mslice id off len sz cap (l.live _ hid hl) hc
 | mslice0 id off sz cap a=>exact .mslice0 id off sz cap a
 | map id hl =>
  have hid:id < m:=by simpa [kM.pE,qA] using hs
  rw [←l.oP]; exact .map id (l.live _ hid hl)
 | func f first cap F C hlf hlc hf hc =>
  simp only [kM.pE,ad2,List.isEmpty_iff] at hs
  obtain⟨rfl,rfl⟩:=hs
  exact .func f [] [] F C hlf hlc (by simp) (by simp)
 | iface t v V hh=>simp [kM.pE] at hs
theorem zW (l:Left G h G' h' m) {v:kM}{V:Value}(hs:v.nP m=true) (r:lM G h v V):lM G' h' v V:=by
 cases v with
 | agg cs =>
  obtain⟨C,rfl,hl,hr⟩:=r.Ac
  simp only [kM.nP,ah1] at hs
  exact .agg cs C hl fun i u hu=>xK l (hs u (af1 hu)) (hr i u hu)
 | iface t v =>
  obtain⟨W,rfl,hr⟩:=r.DC
  exact .iface t v W (xK l hs hr)
 | func f first cap =>
  obtain⟨F,C,rfl,hlf,hlc,hf,hc⟩:=r.Hz
  simp only [kM.nP,ad2,ah1] at hs
  exact .func f first cap F C hlf hlc (fun i u hu=>xK l (hs.1 u (af1 hu)) (hf i u hu)) (fun i u hu=>xK l (hs.2 u (af1 hu)) (hc i u hu))
 | _=>exact xK l hs r
theorem VD {id:Nat}{b:lE}(hb:(h.take m)[id]?=some b):id < m∧h[id]?=some b:=by
 rw [ah3] at hb
 split at hb
 ·rename_i hlt; exact⟨hlt,hb⟩
 ·cases hb
theorem zH {id b:Nat}(ho:owner G (h.take m) id=some b):id < m∧owner G h id=some b:=by
 obtain⟨bl,h1,h2⟩:=AV ho
 obtain⟨h3,h4⟩:=VD h1
 exact⟨h3,by rw [pR h4]; exact h2⟩
theorem DG:Left G h G (h.take m) m where
 hmono:=fun _ _ _ h=>h
 oP:=rfl
 cur:=rfl
 live:=fun id hid ⟨b,h1,h2⟩=>⟨b,by rw [ah3,if_pos hid]; exact h1,h2⟩
 front:=fun id n sz t hid hf=>by rw [ah3,if_pos hid]; exact hf
 nf:=fun id hid ⟨b,h1,h2⟩=>⟨b,by rw [ah3,if_pos hid]; exact h1,h2⟩
theorem Inv.take (i:Inv G h w) (hs:(h.take m).all (sS m)=true):Inv G (h.take m) w where
 ok:=i.ok
 oP:=fun id bl hb=>by
  obtain⟨h1,h2⟩:=VD hb
  have h3:sS m bl=true:=ah1.1 hs bl (af1 hb)
  have h4:=i.oP id bl h2
  cases bl with
  | cells cs =>
   simp only [sS,ah1] at h3
   obtain⟨C,e,g1,g2,g3,g4⟩:=h4
   exact⟨C,e,g1,g2,g3,fun j v hv=>⟨(g4 j v hv).1,zW DG (h3 v (af1 hv)) (g4 j v hv).2⟩⟩
  | tcells t cs =>
   simp only [sS,ah1] at h3
   obtain⟨C,g1,g2,g3,g4⟩:=h4
   exact⟨C,g1,g2,g3,fun j v hv=>⟨(g4 j v hv).1,zW DG (h3 v (af1 hv)) (g4 j v hv).2⟩⟩
  | map es =>
   simp only [sS,ah1] at h3
   obtain⟨C,e,g1,g2,g3,g4,hst⟩:=h4
   refine⟨C,e,g1,g2,g3,fun j kv hv=>?_,hst⟩
   obtain⟨mm,g5,g6,g7,g8⟩:=g4 j kv hv
   exact⟨mm,g5,g6,g7,zW DG (h3 kv (af1 hv)) g8⟩
  | vec t sz cs =>
   simp only [sS,ah1] at h3
   obtain⟨b',cap,C,e,g1,g2,g3,g4,g5,g6,g7,g8,g9⟩:=h4
   exact⟨b',cap,C,e,g1,g2,g3,g4,g5,g6,g7,g8,fun j v hv=>⟨(g9 j v hv).1,zW DG (h3 v (af1 hv)) (g9 j v hv).2⟩⟩
  | _=>exact h4
 inj:=fun a b c h1 h2=>i.inj a b c (zH h1).2 (zH h2).2
theorem aCp {t:kP}{w':World}(i:Inv G h w) (x:Ext G (h.take m) w G' t w') (i':Inv G' t w') (ht:t.length=m) :
  ∃G2,Ext G h w G2 (t++h.drop m) w'∧Inv G2 (t++h.drop m) w'∧EG G' t G2 (t++h.drop m):=by
 let G2:Gh:={ H:=G'.H,oP:=fun id=>if id < m then G'.oP id else G.oP id,cur:=fun id=>if id < m then G'.cur id else G.cur id }
 have b1:∀id,id < m→G2.oP id=G'.oP id:=fun id hid=>if_pos hid
 have c1:∀id,id < m→G2.cur id=G'.cur id:=fun id hid=>if_pos hid
 have b2:∀id,¬id < m→G2.oP id=G.oP id:=fun id hid=>if_neg hid
 have c2:∀id,¬id < m→G2.cur id=G.cur id:=fun id hid=>if_neg hid
 have g1:∀id,id < m→(t++h.drop m)[id]?=t[id]?:=fun id hid=>af7 (by omega)
 have g2:∀id,¬id < m→(t++h.drop m)[id]?=h[id]?:=fun id hid=>by
  rw [ac9 (by omega),ah5,ht,show m+(id - m)=id by omega]
 have kn:∀{A B C D:Gh}{id:Nat}{x y:lE},C.oP id=A.oP id→C.cur id=A.cur id→D.oP id=B.oP id→D.cur id=B.cur id→Kind A B id x y→Kind C D id x y:=by
  intro A B C D id x y e1 e2 e3 e4 hk
  cases x <;> cases y <;> simp_all [Kind]
 have own:∀id b,owner G2 (t++h.drop m) id=some b→(id < m∧owner G' t id=some b)∨(¬id < m∧owner G h id=some b):=by
  intro id b ho
  by_cases hid:id < m
  ·refine .inl ⟨hid,?_⟩
   unfold owner at ho ⊢
   rwa [g1 id hid,b1 id hid,c1 id hid] at ho
  ·refine .inr ⟨hid,?_⟩
   unfold owner at ho ⊢
   rwa [g2 id hid,b2 id hid,c2 id hid] at ho
 have ext:Ext G h w G2 (t++h.drop m) w':=by
  refine⟨x.os,x.tape,x.output,x.size,fun b hb hn=>x.frame b hb fun id ho=>hn id (zH ho).2,x.hmono,fun id b ho hlt=>?_,fun id bl hb=>?_⟩
  ·rcases own id b ho with ⟨_,h2⟩ | ⟨_,h2⟩
   ·exact(zH (x.own id b h2 hlt)).2
   ·exact h2
  ·by_cases hid:id < m
   ·obtain⟨bl',h1,h2⟩:=x.kinds id bl (by rw [ah3,if_pos hid]; exact hb)
    exact⟨bl',by rw [g1 id hid]; exact h1,kn rfl rfl (b1 id hid) (c1 id hid) h2⟩
   ·exact⟨bl,by rw [g2 id hid]; exact hb,kn rfl rfl (b2 id hid) (c2 id hid) (Kind.refl G id bl)⟩
 have mono:EG G' t G2 (t++h.drop m):=⟨fun _ _ _ h=>h,fun id bl hb=>by
  have hid:id < m:=by rw [←ht]; exact(ab1.1 hb).1
  exact⟨bl,by rw [g1 id hid]; exact hb,kn rfl rfl (b1 id hid) (c1 id hid) (Kind.refl G' id bl)⟩⟩
 refine⟨G2,ext,⟨i'.ok,fun id bl hb=>?_,fun a b c ha hb=>?_⟩,mono⟩
 ·by_cases hid:id < m
  ·rw [g1 id hid] at hb
   exact(i'.oP id bl hb).abT mono (b1 id hid) (c1 id hid) fun b _=>⟨rfl,fun _=>rfl⟩
  ·rw [g2 id hid] at hb
   refine(i.oP id bl hb).abT ext.toMono (b2 id hid) (c2 id hid) fun b ho=>?_
   refine x.frame b ((i.oP id bl hb).lt ho) fun j hj=>?_
   obtain⟨j1,j2⟩:=zH hj
   have:=i.inj j id b j2 (by rw [pR hb]; exact ho)
   omega
 ·rcases own a c ha with ⟨a1,a2⟩ | ⟨a1,a2⟩ <;> rcases own b c hb with ⟨b1,b2⟩ | ⟨b1,b2⟩
  ·exact i'.inj a b c a2 b2
  ·have:=i.inj a b c (zH (x.own a c a2 (i.lt b2))).2 b2
   omega
  ·have:=i.inj a b c a2 (zH (x.own b c b2 (i.lt a2))).2
   omega
  ·exact i.inj a b c a2 b2
end
end
section
open Go Go.RowKit
section
variable {J:Act→Prop}{cx:Cx}{o:Oper}{ρ:List kM}{h:kP}{kv kp:kM→kP→Option R}{r:R}{ids:List Nat}{ops:Array Oper}{G:Gh}{w:World}{a:Act}{Q:Exit→Act→World→Prop}{K:Act→World→Prop}
theorem DA (hX:yT cx.P cx.A) (hK:vH cx.P cx.A cx.K) (hb:oE cx o ids ρ h kv kp=some r) (i:Inv G h w) (gl:tM cx.A G h w) (s:p_ J G h ρ a)
  (hkv:∀v h' G' w' V,kv v h'=some r→Ext G h w G' h' w'→Inv G' h' w'→lM G' h' v V→(∀id∈ids,r_ h id→h'[id]?=h[id]?)→K (a.put o.dst V) w')
  (hkp:aeE kp r G h w a Q):o.wp cx.P a w K Q:=by
 unfold oE at hb
 cases hc:cx.ck with
 | true =>
  rw [hc] at hb
  refine D6 hX hK none hb i gl s (fun v h' G' w' V hk x i' rv=>?_) hkp
  obtain⟨h1,h2⟩:=Hs.1 hk
  exact hkv v h' G' w' V h2 x i' rv fun id hid hb=>by
   obtain⟨b,hb,_⟩:=hb.nf
   rw [h1 id hid b hb,hb]
 | false =>
 rw [hc] at hb
 simp only [cond_false] at hb
 refine D6 hX hK none hb (i.nL ids) (gl.sub rfl fun id b ho=>⟨id,(x8 ho).1⟩) ⟨s.len,fun j v hv=>(s.rel j v hv).sub (Uw ids h),s.df⟩ ?_ ?_
 ·intro v h' G' w' V hk x i' rv
  obtain⟨x2,i2,sb,kp2⟩:=QX i x i'
  exact hkv v _ G' w' V hk x2 i2 (rv.sub sb) kp2
 ·intro v h' G' w' V hk x i' rv
  obtain⟨x2,i2,sb,kp2⟩:=QX i x i'
  exact hkp v _ G' w' V hk x2 i2 (rv.sub sb)
theorem Te {j d:Nat}{g:Bool}(hd:(ops.toList[j]?).bind (·.dst)=some d) (s:p_ J G h ρ a) (hg:ρ.getD d .junk=.bool g):yielded ops a.tmps j=some g:=by
 have h1:=s.get d
 rw [hg] at h1
 have h2:=h1.Ag
 have h3:a.tmps[d]?=some (.bool g):=by
  rw [ab2] at h2
  cases h4:a.tmps[d]? with
  | none=>rw [h4] at h2; cases h2
  | some v=>rw [h4] at h2; simp at h2; rw [h2]
 rw [ad3] at hd
 simp [yielded,hd,h3]
theorem Tf {j d:Nat}(hd:(ops.toList[j]?).bind (·.dst)=some d) (s:p_ J G h ρ a) (hg:ρ.getD d .junk=.tuple []):yielded ops a.tmps j=none:=by
 have h1:=s.get d
 rw [hg] at h1
 have h2:=h1.XM
 rw [ad3] at hd
 unfold yielded
 rw [hd]
 simp only [af4]
 rw [ab2] at h2
 cases h4:a.tmps[d]? with
 | none=>rfl
 | some v=>rw [h4] at h2; simp at h2; rw [h2]; rfl
theorem Bs {n:Nat}(hX:yT cx.P cx.A) (hK:vH cx.P cx.A cx.K) (hn:ops[n]?=some o) (hb:vV cx ops.toList o ids ρ h kv kp=some r) (i:Inv G h w) (gl:tM cx.A G h w) (s:p_ J G h ρ a)
  (hkv:∀v h' G' w' V,kv v h'=some r→Ext G h w G' h' w'→Inv G' h' w'→lM G' h' v V→(∀id∈ids,r_ h id→h'[id]?=h[id]?)→K (a.put o.dst V) w')
  (hkp:aeE kp r G h w a Q):wpOp cx.P ops Q n K a w:=by
 unfold wpOp
 simp only [hn]
 have skip:kv (.tuple []) h=some r→K (a.put o.dst undef) w:=fun hk =>
  hkv _ h G w _ hk (Ext.refl G h w) i (.p _ _ (.tuple [] #[] rfl (by simp))) fun _ _ _=>rfl
 have run:oE cx o ids ρ h kv kp=some r→o.wp cx.P a w K Q:=fun hb=>DA hX hK hb i gl s hkv hkp
 rw [CX] at hb
 unfold B6 at hb
 cases hg:o.guard with
 | none =>
  simp only [hg] at hb
  rw [if_pos (by simp [Region.wanted,hg])]
  exact .inl (run hb)
 | some jw =>
  obtain⟨j,want⟩:=jw
  simp only [hg] at hb
  cases hd:(ops.toList[j]?).bind (·.dst) with
  | none=>simp only [hd] at hb; cases hb
  | some d =>
   simp only [hd] at hb
   split at hb
   ·rename_i g hgv
    have hy:=Te hd s hgv
    cases want <;> cases g <;> simp only [cond_true,cond_false] at hb
    ·rw [if_pos (by simp [Region.wanted,hg,hy])]; exact .inl (run hb)
    ·rw [if_neg (by simp [Region.wanted,hg,hy])]; exact skip hb
    ·rw [if_neg (by simp [Region.wanted,hg,hy])]; exact skip hb
    ·rw [if_pos (by simp [Region.wanted,hg,hy])]; exact .inl (run hb)
   ·rename_i hgv
    have hy:=Tf hd s hgv
    rw [if_neg (by simp [Region.wanted,hg,hy])]; exact skip hb
   ·cases hb
open Classical in
theorem MQ (hrb:cx.rb=false) {n:Nat}(hX:yT cx.P cx.A) (hK:vH cx.P cx.A cx.K) (hn:ops[n]?=some o) (hb:vV cx ops.toList o ids ρ h kv kp=some r) (hids:rP o=false→ids=[]) (i:Inv G h w) (gl:tM cx.A G h w) (s:p_ J G h ρ a)
  (hkv:∀v h' G' w' V,kv v h'=some r→Ext G h w G' h' w'→Inv G' h' w'→lM G' h' v V→((rP o=false→h'=h)∧∀id∈ids,r_ h id→h'[id]?=h[id]?)→K (a.put o.dst V) w')
  (hkp:aeE kp r G h w a Q):wpOp cx.P ops Q n K a w:=by
 cases he:rP o with
 | true=>exact Bs hX hK hn hb i gl s (fun v h' G' w' V h1 h2 h3 h4 h5=>hkv v h' G' w' V h1 h2 h3 h4 ⟨fun h=>(by rw [he] at h; cases h),h5⟩) hkp
 | false =>
  cases hids he
  obtain⟨v0,h1,h2⟩:=GH hrb he hb
  have h3:=h2 h (fun v h'=>if v=v0∧h'=h then some r else none) (fun _ _=>none) fun _ _ _=>rfl
  simp only [and_self,if_true] at h3
  refine Bs hX hK hn h3 i gl s (fun v h' G' w' V h4 h5 h6 h7 h8=>?_) (fun v h' G' w' V h4=>by cases h4)
  split at h4
  ·rename_i hvh
   obtain⟨rfl,rfl⟩:=hvh
   exact hkv _ _ G' w' V h1 h5 h6 h7 ⟨fun _=>rfl,h8⟩
  ·cases h4
theorem Po {m:Nat}(hX:yT cx.P cx.A) (hK:vH cx.P cx.A cx.K) (hb:A5 cx o m ids ρ h kv=some r) (i:Inv G h w) (gl:tM cx.A G h w) (s:p_ J G h ρ a)
  (hkv:∀v h' G' w' V,kv v h'=some r→Ext G h w G' h' w'→Inv G' h' w'→lM G' h' v V→(∀id∈ids,r_ h id→h'[id]?=h[id]?)→K (a.put o.dst V) w'):o.wp cx.P a w K Q:=by
 unfold A5 at hb
 cases hs:(h.take m).all (sS m) with
 | false=>rw [hs] at hb; cases hb
 | true =>
  rw [hs] at hb
  simp only [cond_true] at hb
  obtain⟨r0,h1,h2⟩:=aa2.1 hb
  unfold EY at h2
  split at h2
  ·rename_i v t
   cases hl:t.length == m with
   | false=>rw [hl] at h2; cases h2
   | true =>
    rw [hl] at h2
    simp only [cond_true] at h2
    have hl:t.length=m:=by simpa using hl
    have s2:p_ J G (h.take m) (ρ.map (vL m)) a:=⟨by rw [al0]; exact s.len,fun j u hu=>by
     rw [ai1] at hu
     cases hj:ρ[j]? with
     | none=>rw [hj] at hu; cases hu
     | some u0 =>
      rw [hj] at hu
      simp only [Option.map_some,ab0] at hu
      subst hu
      unfold vL
      cases hsh:u0.nP m with
      | true=>exact zW DG hsh (s.rel j u0 hj)
      | false=>exact .p _ _ (.junk _),s.df⟩
    refine DA hX hK h1 (i.take hs) (gl.sub rfl fun id b ho=>by
     obtain⟨bl,h1',h2'⟩:=AV ho
     have h3':h[id]?=some bl:=by
      rw [ah3] at h1'
      split at h1'
      ·exact h1'
      ·cases h1'
     exact⟨id,by rw [pR h3']; exact h2'⟩) s2 (fun v' h' G' w' V e1 e2 e3 e4 e5=>?_) (fun v' h' G' w' V e1=>by simp [yS] at e1)
    simp only [nM,ab0,af8,List.cons.injEq,and_true,true_and] at e1
    obtain⟨rfl,rfl⟩:=e1
    obtain⟨G2,x2,i2,m2⟩:=aCp i e2 e3 hl
    refine hkv _ _ G2 w' V h2 x2 i2 (e4.mono m2) fun id hid hblk=>?_
    by_cases hlt:id < m
    ·rw [af7 (by omega)]
     have:(h.take m)[id]?=h[id]?:=by rw [ah3,if_pos hlt]
     rw [e5 id hid (by unfold r_ at hblk ⊢; rwa [this]),this]
    ·rw [ac9 (by omega),ah5,hl,show m+(id - m)=id by omega]
  ·cases h2
open Classical in
theorem K_ (hrb:cx.rb=false) {n m:Nat}{it:Item}(hX:yT cx.P cx.A) (hK:vH cx.P cx.A cx.K) (hn:ops[n]?=some it.o) (hb:pH cx ops.toList m it ids ρ h kv kp=some r) (hids:rP it.o=false→ids=[]) (i:Inv G h w) (gl:tM cx.A G h w) (s:p_ J G h ρ a)
  (hkv:∀v h' G' w' V,kv v h'=some r→Ext G h w G' h' w'→Inv G' h' w'→lM G' h' v V→aeD it m ids h h'→K (a.put it.o.dst V) w')
  (hkp:aeE kp r G h w a Q):wpOp cx.P ops Q n K a w:=by
 have hf0:=hb
 unfold pH at hb
 cases hr:it.rsv with
 | some j =>
  simp only [hr] at hb
  cases hf:u4 it.o with
  | false=>rw [hf] at hb; cases hb
  | true =>
   rw [hf] at hb
   simp only [cond_true] at hb
   obtain⟨v0,b,f1,f2,f3⟩:=MW hf hb
   have f4:=f3 h (fun v h'=>if v=v0∧h'=h.set (m+j) b then some r else none) (fun _ _=>none) f1
   simp only [and_self,if_true] at f4
   have hg:it.o.guard=none:=by
    unfold u4 at hf
    simp only [ad2,Option.isNone_iff_eq_none] at hf
    exact hf.1
   unfold wpOp
   simp only [hn]
   rw [if_pos (by simp [Region.wanted,hg])]
   refine .inl (D6 hX hK _ f4 i gl s (fun v h' G' w' V e1 e2 e3 e4=>?_) (fun v h' G' w' V e1=>by cases e1))
   split at e1
   ·rename_i hvh
    obtain⟨rfl,rfl⟩:=hvh
    refine hkv _ _ G' w' V f2 e2 e3 e4 ⟨fun he=>(by rw [Qa hf] at he; cases he),fun id _ hbl=>?_,fun j' hj'=>?_,fun hn=>(by rw [hr] at hn; cases hn)⟩
    ·refine List.getElem?_set_ne fun hji=>?_
     subst hji
     exact Xh f1 hbl
    ·rw [hr] at hj'; cases hj'
     exact⟨b,f1,rfl⟩
   ·cases e1
 | none =>
  simp only [hr] at hb
  cases hh:it.hid with
  | true =>
   rw [hh] at hb
   simp only [cond_true] at hb
   cases hf:Ap it.o with
   | false=>rw [hf] at hb; cases hb
   | true =>
    rw [hf] at hb
    simp only [cond_true] at hb
    obtain⟨v0,t,f1,f2,f3⟩:=WK hb
    have f4:=f3 h (fun v h'=>if v=v0∧h'=t++h.drop m then some r else none) rfl
    simp only [and_self,if_true] at f4
    have hg:it.o.guard=none:=by
     unfold Ap at hf
     simp only [ad2,Option.isNone_iff_eq_none] at hf
     exact hf.1
    unfold wpOp
    simp only [hn]
    rw [if_pos (by simp [Region.wanted,hg])]
    refine .inl (Po hX hK f4 i gl s (fun v h' G' w' V e1 e2 e3 e4 e5=>?_))
    split at e1
    ·rename_i hvh
     obtain⟨rfl,rfl⟩:=hvh
     exact hkv _ _ G' w' V f2 e2 e3 e4 ⟨fun he=>(by rw [T_ hf] at he; cases he),e5,fun j hj=>(by rw [hr] at hj; cases hj),fun _ _=>⟨t,f1,rfl⟩⟩
    ·cases e1
  | false =>
   rw [hh] at hb
   simp only [cond_false] at hb
   refine MQ hrb hX hK hn hb hids i gl s (fun v h' G' w' V e1 e2 e3 e4 e5=>?_) hkp
   exact hkv v h' G' w' V e1 e2 e3 e4 ⟨e5.1,e5.2,fun j hj=>(by rw [hr] at hj; cases hj),fun _ hh'=>(by rw [hh] at hh'; cases hh')⟩
def VV (J:Act→Prop) (ops:List Oper):Prop:=∀o∈ops,∀(a:Act) (V:Value),J a→J (a.put o.dst V)
theorem VV.at {ops:Array Oper}(hJ:VV J ops.toList) {n:Nat}{o:Oper}(hn:ops[n]?=some o) {a:Act}{V:Value}(h:J a):J (a.put o.dst V) :=
 hJ o (af1 (by rw [ad3]; exact hn)) a V h
theorem HJ {k:List kM→kP→Option R}(l2:List Nat) (hJ:VV J ops.toList) (hX:yT cx.P cx.A) (hK:vH cx.P cx.A cx.K):∀(items:List Item) (seen ρ:List kM) (h:kP) (G:Gh) (w:World) (a:Act),
  (∀it∈items,ops[it.i]?=some it.o∧it.locks=[]∧it.rsv=none∧it.hid=false)→pP cx ops.toList 0 items seen ρ h k kp=some r→Inv G h w→tM cx.A G h w→p_ J G h ρ a →
  (∀ρ' h' G' w' a',k ρ' h'=some r→Ext G h w G' h' w'→Inv G' h' w'→p_ J G' h' ρ' a'→wpOps cx.P ops Q l2 a' w') →
  (∀v h' G' w' V a',kp v h'=some r→Ext G h w G' h' w'→Inv G' h' w'→lM G' h' v V→J a'→Q (.panic [{ v:=V,recovered:=false }]) a' w') →
  wpOps cx.P ops Q (items.map (·.i)++l2) a w:=by
 intro items
 induction items with
 | nil=>intro seen ρ h G w a _ hb i gl s hk _; exact hk _ _ G w a hb (Ext.refl G h w) i s
 | cons it rest ih =>
  intro seen ρ h G w a hit hb i gl s hk hkp
  obtain⟨h1,h2,h3,h4⟩:=hit it (by simp)
  simp only [pP,AP,pH,h3,h4,cond_false,h2,kY,List.filterMap_nil] at hb
  rw [aj2,af2,wpOps_cons]
  refine Bs hX hK h1 hb i gl s (fun v h' G' w' V e1 e2 e3 e4 _=>?_) (fun v h' G' w' V e1 e2 e3 e4=>hkp v h' G' w' V a e1 e2 e3 e4 s.df)
  exact ih _ _ _ G' w' _ (fun x hx=>hit x (by simp [hx])) e1 e3 (gl.mono e2) ((s.mono e2.toMono).put it.o.dst e4 (hJ.at h1 s.df))
   (fun ρ' h'' G'' w'' a' f1 f2 f3 f4=>hk ρ' h'' G'' w'' a' f1 (e2.trans f2) f3 f4)
   (fun v h'' G'' w'' V a' f1 f2 f3 f4 f5=>hkp v h'' G'' w'' V a' f1 (e2.trans f2) f3 f4 f5)
theorem Kx {k:List kM→kP→Option R}(hJ:VV J ops.toList) (hX:yT cx.P cx.A) (hK:vH cx.P cx.A cx.K) (items:List Item) (seen ρ:List kM) (h:kP) (G:Gh) (w:World) (a:Act)
  (h1:∀it∈items,ops[it.i]?=some it.o∧it.locks=[]∧it.rsv=none∧it.hid=false) (h2:pP cx ops.toList 0 items seen ρ h k kp=some r) (h3:Inv G h w) (h4:tM cx.A G h w) (h5:p_ J G h ρ a)
  (h6:∀ρ' h' G' w' a',k ρ' h'=some r→Ext G h w G' h' w'→Inv G' h' w'→p_ J G' h' ρ' a'→Q .normal a' w')
  (h7:∀v h' G' w' V a',kp v h'=some r→Ext G h w G' h' w'→Inv G' h' w'→lM G' h' v V→J a'→Q (.panic [{ v:=V,recovered:=false }]) a' w') :
  wpOps cx.P ops Q (items.map (·.i)) a w:=by
 have:=HJ [] hJ hX hK items seen ρ h G w a h1 h2 h3 h4 h5 h6 h7
 rwa [List.append_nil] at this
theorem u7:(sF ops.toList).map (·.i)=List.range ops.size∧∀it∈sF ops.toList,ops[it.i]?=some it.o∧it.locks=[]∧it.rsv=none∧it.hid=false:=by
 constructor
 ·apply List.ext_getElem?
  intro j
  simp only [sF,List.map_map,ai1,List.getElem?_zipIdx,List.getElem?_range',ad3]
  by_cases hj:j < ops.size
  ·simp [hj]
  ·simp [hj]
 ·intro it hit
  simp only [sF,List.mem_map] at hit
  obtain⟨⟨o,i⟩,h1,rfl⟩:=hit
  have:=List.mem_zipIdx_iff_getElem?.1 h1
  simp only [ad3] at this
  exact⟨this,rfl,rfl,rfl⟩
def LX (ops:Array Oper) (listed:Array Bool) (i:Nat):Prop:=∀o,ops[i]?=some o→∀e∈o.after,Region.binds .any e=true→listed.getD e.on false=true
theorem PG {t p:Nat}:(Et t).testBit p=decide (t=p):=by
 unfold Et
 rw [Nat.one_shiftLeft,Nat.testBit_two_pow]
theorem aa4 {P:Nat→Prop}(acc:List Nat):∀(es:List Edge) (m:Nat),(∀p,m.testBit p=true→P p) →
  (∀e∈es,Region.binds .any e=true→P e.on∧∀p,(acc.getD e.on 0).testBit p=true→P p) →
  ∀p,(es.foldl (fun m e=>bif Region.binds .any e then m ||| Et e.on ||| acc.getD e.on 0 else m) m).testBit p=true→P p:=by
 intro es
 induction es with
 | nil=>intro m hm _ p hp; exact hm p hp
 | cons e es ih =>
  intro m hm he p hp
  refine ih _ (fun q hq=>?_) (fun x hx=>he x (by simp [hx])) p hp
  cases hbd:Region.binds .any e with
  | false=>simp only [hbd,cond_false] at hq; exact hm q hq
  | true =>
   simp only [hbd,cond_true,Nat.testBit_or,Bool.or_eq_true,PG,decide_eq_true_eq] at hq
   obtain⟨h1,h2⟩:=he e (by simp) hbd
   rcases hq with (hq | hq) | hq
   ·exact hm q hq
   ·exact hq ▸ h1
   ·exact h2 q hq
theorem Pn {listed:Array Bool}(hdc:∀i,listed.getD i false=true→LX ops listed i):∀(rest:List Oper) (pre:List Oper) (acc:List Nat),pre++rest=ops.toList→acc.length=pre.length →
  (∀q,LX ops listed q→∀p,(acc.getD q 0).testBit p=true→listed.getD p false=true) →
  ∀q,LX ops listed q→∀p,((MN rest acc).getD q 0).testBit p=true→listed.getD p false=true:=by
 intro rest
 induction rest with
 | nil=>intro pre acc _ _ h; exact h
 | cons o rest ih =>
  intro pre acc hpre hlen h
  refine ih (pre++[o]) _ (by simpa using hpre) (by simp [hlen]) fun q hq p hp=>?_
  have ho:ops[pre.length]?=some o:=by
   rw [←ad3,←hpre]; simp
  rw [af6,List.getElem?_append] at hp
  split at hp
  ·rename_i hlt
   exact h q hq p (by rw [af6]; exact hp)
  ·rename_i hge
   by_cases he:q=acc.length
   ·subst he
    simp only [Nat.sub_self,List.getElem?_cons_zero,Option.getD_some] at hp
    refine aa4 (P:=fun p=>listed.getD p false=true) acc _ _ (by simp) (fun e hm hbd=>?_) p hp
    have h1:=hq o (by rw [hlen]; exact ho) e (by simpa using hm) hbd
    exact⟨h1,h e.on (hdc e.on h1)⟩
   ·have:q - acc.length=(q - acc.length - 1)+1:=by omega
    rw [this] at hp
    simp at hp
theorem aa5 {listed:Array Bool}(hdc:∀i,listed.getD i false=true→LX ops listed i) {q p:Nat}(hq:LX ops listed q) (hp:((Pm ops.toList).getD q 0).testBit p=true):listed.getD p false=true :=
 Pn hdc ops.toList [] [] rfl rfl (by simp) q hq p hp
theorem Fa {os:List Oper}{cl:List Nat}:∀{L:List Item},Eh os cl L=true↔L.Pairwise fun p q=>NU os cl p q=true
 | []=>by simp [Eh]
 | p::r=>by simp [Eh,Fa (L:=r)]
theorem VS (hrb:cx.rb=false) {m:Nat}{k:List kM→kP→Option R}(hJ:VV J ops.toList) (hX:yT cx.P cx.A) (hK:vH cx.P cx.A cx.K) (hedges:∀i o,ops[i]?=some o→∀e∈o.after,Region.binds .any e=true→e.on < i) :
  ∀(n:Nat) (L:List Item) (seen ρ:List kM) (h:kP) (G:Gh) (w:World) (a:Act) (listed:Array Bool),L.length=n →
  Eh ops.toList (Pm ops.toList) L=true→(∀it∈L,ops[it.i]?=some it.o∧(rP it.o=false→it.locks=[])∧(it.rsv≠none∨it.hid=true→rP it.o=true))→seen.length=ops.size→listed.size=ops.size →
  (∀j,listed.getD j true=false↔∃it∈L,it.i=j)→(∀i,listed.getD i false=true→LX ops listed i) →
  pP cx ops.toList m L seen ρ h k kp=some r→Inv G h w→tM cx.A G h w→p_ J G h ρ a →
  (∀ρ' h' G' w' a',k ρ' h'=some r→Ext G h w G' h' w'→Inv G' h' w'→p_ J G' h' ρ' a'→Q .normal a' w') →
  (∀v h' G' w' V a',kp v h'=some r→Ext G h w G' h' w'→Inv G' h' w'→lM G' h' v V→J a'→Q (.panic [{ v:=V,recovered:=false }]) a' w') →
  wpAny cx.P .any ops Q n listed a w:=by
 intro n
 induction n with
 | zero =>
  intro L seen ρ h G w a listed hn _ _ _ _ hun _ hb i gl s hk _
  cases List.eq_nil_of_length_eq_zero hn
  refine⟨?_,hk _ _ G w a hb (Ext.refl G h w) i s⟩
  cases hr:Region.ready .any ops listed with
  | nil=>rfl
  | cons j js =>
   have hj:j∈Region.ready .any ops listed:=by rw [hr]; simp
   obtain⟨it,hit,_⟩:=(hun j).1 (mem_ready.1 hj).1
   cases hit
 | succ n ih =>
  intro L seen ρ h G w a listed hn hp hit hseen hsz hun hdc hb i gl s hk hkp
  have lt:∀j,listed.getD j true=false→j < listed.size:=fun j hj=>by
   by_cases h:j < listed.size
   ·exact h
   ·simp [Array.getD,h] at hj
  have conv:∀j,j < listed.size→listed.getD j false≠true→listed.getD j true=false:=fun j hj hn=>by
   simp only [Array.getD,hj,dite_true] at hn ⊢
   simpa using hn
  have notIn:∀j,listed.getD j false=true→listed.getD j true=false→False:=fun j h1 h2=>by
   have:=lt j h2
   simp [Array.getD,this] at h1 h2
   rw [h1] at h2; cases h2
  have some_ready:∀m,(∃it∈L,it.i=m)→∃j,j∈Region.ready .any ops listed:=by
   intro m
   induction m using Nat.strongRecOn with
   | _ m ihm =>
    rintro⟨x,hx,rfl⟩
    by_cases hall:∀e∈x.o.after,Region.binds .any e=true→listed.getD e.on false=true
    ·exact⟨x.i,mem_ready.2 ⟨(hun x.i).2 ⟨x,hx,rfl⟩,x.o,(hit x hx).1,hall⟩⟩
    ·simp only [Classical.not_forall] at hall
     obtain⟨e,he,hbd,hnl⟩:=hall
     have hlt:=hedges x.i x.o (hit x hx).1 e he hbd
     have:=lt x.i ((hun x.i).2 ⟨x,hx,rfl⟩)
     exact ihm e.on hlt ((hun e.on).1 (conv e.on (by omega) hnl))
  refine⟨fun hr=>?_,fun j hj=>?_⟩
  ·obtain⟨x,hx⟩:=List.exists_mem_of_length_pos (l:=L) (by omega)
   obtain⟨y,hy⟩:=some_ready x.i ⟨x,hx,rfl⟩
   rw [hr] at hy; cases hy
  ·obtain⟨hju,o,hjo,hje⟩:=mem_ready.1 hj
   obtain⟨it,hitL,rfl⟩:=(hun j).1 hju
   obtain⟨pre,post,rfl⟩:=List.append_of_mem hitL
   have hpw:=Fa.1 hp
   have hsub:(pre++post).Sublist (pre++it::post):=List.Sublist.append (List.Sublist.refl _) (List.sublist_cons_self _ _)
   have hpw2:=hpw.sublist hsub
   have hpa:=List.pairwise_append.1 hpw
   have ho:o=it.o:=by have:=(hit it (by simp)).1; rw [hjo] at this; exact Option.some.inj this
   subst ho
   have hpre:∀p∈pre,indep ops.toList p it=true∧p.i≠it.i∧p.i < seen.length:=by
    intro p hpm
    have h1:=hpa.2.2 p hpm it (by simp)
    simp only [NU,ad2,Bool.or_eq_true,bne_iff_ne,Bool.not_eq_true'] at h1
    have hpu:=(hun p.i).2 ⟨p,by simp [hpm],rfl⟩
    refine⟨h1.2.resolve_left fun hbit=>?_,h1.1.1,by rw [hseen,←hsz]; exact lt _ hpu⟩
    exact notIn p.i (aa5 hdc (q:=it.i) (fun o' ho' e he hbd=>by rw [hjo] at ho'; cases ho'; exact hje e he hbd) hbit) hpu
   have hnd:(pre.map (·.i)).Nodup:=by
    rw [List.nodup_iff_pairwise_ne,List.pairwise_map]
    exact hpa.1.imp fun hpq=>by
     simp only [NU,ad2,bne_iff_ne] at hpq
     exact hpq.1.1
   have hpost:∀q∈pre++post,q.i≠it.i:=by
    intro q hq
    rcases List.mem_append.1 hq with hq | hq
    ·exact(hpre q hq).2.1
    ·have h1:=(List.pairwise_cons.1 hpa.2.1).1 q hq
     simp only [NU,ad2,bne_iff_ne] at h1
     exact Ne.symm h1.1.1
   obtain⟨ids,kv,e1,_,e3,e4⟩:=move hrb it post (hit it (by simp)).2.1 (hit it (by simp)).2.2 pre seen ρ h hpre hnd hb
   refine K_ hrb hX hK hjo e1 e3 i gl s (fun v h' G' w' V f1 f2 f3 f4 f5=>?_) (fun v h' G' w' V f1 f2 f3 f4=>hkp v h' G' w' V a f1 f2 f3 f4 s.df)
   have hlen:(pre++post).length=n:=by simp at hn ⊢; omega
   have hlt:=lt it.i hju
   refine ih (pre++post) _ _ h' G' w' _ _ hlen (Fa.2 hpw2) (fun x hx=>hit x (hsub.subset hx)) (by simpa using hseen) (by simpa using hsz) (fun q=>?_) (fun q hq=>?_) (e4 v h' f5 f1) f3 (gl.mono f2)
    ((s.mono f2.toMono).put it.o.dst f4 (hJ.at hjo s.df))
    (fun ρ' h'' G'' w'' a' g1 g2 g3 g4=>hk ρ' h'' G'' w'' a' g1 (f2.trans g2) g3 g4)
    (fun v h'' G'' w'' V a' g1 g2 g3 g4 g5=>hkp v h'' G'' w'' V a' g1 (f2.trans g2) g3 g4 g5)
   ·by_cases hq:it.i=q
    ·subst hq
     constructor
     ·intro h1; simp [Array.getD,hlt] at h1
     ·rintro⟨x,hx,he⟩; exact absurd he (hpost x hx)
    ·rw [getD_set_ne true hq,hun q]
     constructor
     ·rintro⟨x,hx,he⟩
      refine⟨x,?_,he⟩
      rcases List.mem_append.1 hx with hx | hx
      ·simp [hx]
      ·rcases List.mem_cons.1 hx with rfl | hx
       ·exact absurd he hq
       ·simp [hx]
     ·rintro⟨x,hx,he⟩; exact⟨x,hsub.subset hx,he⟩
   ·have hE:LX ops listed q:=by
     by_cases hqi:it.i=q
     ·subst hqi; intro o' ho' e he hbd; rw [hjo] at ho'; cases ho'; exact hje e he hbd
     ·rw [getD_set_ne false hqi] at hq; exact hdc q hq
    exact fun o' ho' e he hbd=>getD_set_true (hE o' ho' e he hbd)
end
end
section
open Go Go.RowKit
section
variable {J:Act→Prop}{cx:Cx}{ρ:List kM}{h:kP}{k:List kM→kP→Option R}{r:R}{ops:Array Oper}{G:Gh}{w:World}{a:Act}{Q:Exit→Act→World→Prop}
theorem KS:∀{fl:List Nat}{i k:Nat},LM fl i k≠none→i∈fl
 | [],_,_,h=>absurd rfl h
 | a::r,i,k,h=>by
  unfold LM at h
  cases ha:a == i with
  | true=>simp at ha; simp [ha]
  | false=>rw [ha] at h; exact List.mem_cons_of_mem _ (KS h)
theorem Ng {os:List Oper}{cl fl:List Nat}(hfl:∀i∈fl,as0 u4 os i=true):∀(l before:List Nat),∀it∈DD os cl fl l before,os[it.i]?=some it.o∧(rP it.o=false→it.locks=[])∧(it.rsv≠none∨it.hid=true→rP it.o=true):=by
 intro l
 induction l with
 | nil=>intro before it hit; cases hit
 | cons i l ih =>
  intro before it hit
  unfold DD at hit
  split at hit
  ·rename_i o ho
   rcases List.mem_cons.1 hit with rfl | hit
   ·refine⟨ho,fun he=>by simp at he; simp [he],fun hx=>?_⟩
    rcases hx with hx | hx
    ·have h1:=hfl i (KS hx)
     simp only [as0,ho] at h1
     exact Qa h1
    ·simp only [ad2] at hx
     exact T_ hx.1
   ·exact ih _ it hit
  ·cases hit
theorem Ff (ρ:List kM) (d:Option Tmp) (v:kM):(sH ρ d v).length=ρ.length:=by cases d <;> simp [sH]
theorem A6 {os:List Oper}{m:Nat}{kp:kM→kP→Option R}(n:Nat):∀(items:List Item) (seen ρ:List kM) (h:kP),ρ.length=n →
  pP cx os m items seen ρ h k kp=pP cx os m items seen ρ h (fun ρ' h'=>if ρ'.length=n then k ρ' h' else none) kp:=by
 intro items
 induction items with
 | nil=>intro seen ρ h hn; simp [pP,hn]
 | cons it rest ih =>
  intro seen ρ h hn
  simp only [pP,AP]
  congr 1
  funext v h'
  exact ih _ _ _ (by rw [Ff,hn])
def xL (J:Act→Prop) (n:Nat) (kn:List kM→kP→Option R) (ke:Ex→List kM→kP→Option R) (r:R) (G:Gh) (h:kP) (w:World) (Q:Exit→Act→World→Prop):Prop :=
 (∀ρ' h' G' w' a',kn ρ' h'=some r→Ext G h w G' h' w'→Inv G' h' w'→p_ J G' h' ρ' a'→ρ'.length=n→Q .normal a' w') ∧
 (∀e ρ' h' G' w' a',ke e ρ' h'=some r→Ext G h w G' h' w'→Inv G' h' w'→p_ J G' h' ρ' a'→ρ'.length=n →
  match e with
  | .exit id=>Q (.exit id) a' w'
  | .ret=>Q .ret a' w'
  | _=>True) ∧
 ∀v ρ' h' G' w' a' V,ke (.pan v) ρ' h'=some r→Ext G h w G' h' w'→Inv G' h' w'→lM G' h' v V→J a'→Q (.panic [{ v:=V,recovered:=false }]) a' w'
theorem Ext.ak9 {G':Gh}{h':kP}{w':World}(x:Ext G h { w with drawn:=w.drawn+1 } G' h' w'):Ext G h w G' h' w' :=
 ⟨x.os,x.tape,x.output,x.size,x.frame,x.hmono,x.own,x.kinds⟩
theorem Inv.FX (i:Inv G h w) (n:Nat):Inv G (FX n h) w∧Ext G h w G (FX n h) w:=by
 cases n with
 | zero=>exact⟨i,Ext.refl G h w⟩
 | succ n =>
  have hfr:∀(n j:Nat) (bl:lE),(Qd n)[j]?=some bl→bl=.free:=by
   intro n
   induction n with
   | zero=>intro j bl hb; simp [Qd] at hb
   | succ n ih =>
    intro j bl hb
    cases j with
    | zero=>simp [Qd] at hb; exact hb.symm
    | succ j=>exact ih j bl (by simpa [Qd] using hb)
  refine i.push rfl rfl rfl (ac5 _) (fun _ _=>rfl) (fun _ _=>rfl) (fun _ _=>rfl) (fun _ _ _ h=>h) (fun _ _ _=>rfl) (fun b k v _ hv=>i.ok b k v hv) (fun j bl hb _=>?_) (fun j bl b hb ho=>?_) (fun j j' bl bl' b hb _ ho _=>?_)
  ·rw [hfr _ j bl hb]; trivial
  ·rw [hfr _ j bl hb] at ho; cases ho
  ·rw [hfr _ j bl hb] at ho; cases ho
theorem I4 {id:Nat}{draw:Bool}(hJ:VV J ops.toList) (hm:cx.P.follows .mixedOrders=true) (hX:yT cx.P cx.A) (hK:vH cx.P cx.A cx.K) {kp:kM→kP→Option R}(hb:zB cx ops.toList draw ρ h k kp=some r) (i:Inv G h w) (gl:tM cx.A G h w) (s:p_ J G h ρ a)
  (hn:ρ.length=cx.n)
  (hk:∀ρ' h' G' w' a',k ρ' h'=some r→Ext G h w G' h' w'→Inv G' h' w'→p_ J G' h' ρ' a'→ρ'.length=cx.n→Q .normal a' w')
  (hkp:∀v h' G' w' a' V,kp v h'=some r→Ext G h w G' h' w'→Inv G' h' w'→lM G' h' v V→J a'→Q (.panic [{ v:=V,recovered:=false }]) a' w'):(Code.region id ops draw).wp cx.P Q a w:=by
 cases draw with
 | false =>
  simp only [zB] at hb
  rw [A6 cx.n _ _ _ _ hn] at hb
  refine wp_region ?_
  rw [←u7.1]
  refine Kx hJ hX hK _ _ _ _ G w a u7.2 hb i gl s (fun ρ' h' G' w' a' e1 e2 e3 e4=>?_) (fun v h' G' w' V a' e1 e2 e3 e4 e5=>?_)
  ·split at e1
   ·rename_i hl; exact hk ρ' h' G' w' a' e1 e2 e3 e4 hl
   ·cases e1
  ·exact hkp v h' G' w' a' V e1 e2 e3 e4 e5
 | true =>
  simp only [zB] at hb
  cases hd:D3 ops.toList with
  | none=>simp only [hd] at hb; cases hb
  | some items =>
   simp only [hd] at hb
   unfold D3 at hd
   simp only [] at hd
   generalize hit:DD ops.toList (Pm ops.toList) (MX ops.toList (Pm ops.toList)) (Zy ops.toList) []=items' at hd
   cases hc:(Eh ops.toList (Pm ops.toList) items' && Rv ops.toList && (items'.length == ops.toList.length) && (List.range ops.toList.length).all (fun i=>items'.any fun it=>it.i == i)) with
   | false=>rw [hc] at hd; cases hd
   | true =>
    rw [hc] at hd
    cases hd
    rw [A6 cx.n _ _ _ _ hn] at hb
    simp only [ad2,beq_iff_eq,ak1,ah1,List.mem_range,List.any_eq_true] at hc
    obtain⟨⟨⟨h1,h2⟩,h3⟩,h4⟩:=hc
    have hspec:∀it∈items,ops[it.i]?=some it.o∧(rP it.o=false→it.locks=[])∧(it.rsv≠none∨it.hid=true→rP it.o=true):=by
     intro it hm
     rw [←hit] at hm
     have:=Ng (fun i hi=>by
      have:=(List.mem_filter.1 hi).2
      simp only [ad2] at this
      exact this.1) _ _ it hm
     rwa [ad3] at this
    refine wp_region_any hm ?_
    obtain⟨ir,xr⟩:=i.FX (H8 items)
    refine VS (cx:={ cx with rb:=false }) rfl (m:=h.length) hJ hX hK (fun j o ho e he hbd=>?_) ops.size items _ ρ (FX (H8 items) h) G _ a _ h3 h1 hspec (by simp) (by simp) (fun j=>?_) (fun j hj=>?_) hb ir.drew (gl.mono (xr.trans (Ext.drew _ _ _))) (s.mono xr.toMono)
     (fun ρ' h' G' w' a' e1 e2 e3 e4=>by
      split at e1
      ·rename_i hl; exact hk ρ' h' G' w' a' e1 (xr.trans e2.ak9) e3 e4 hl
      ·cases e1) (fun v h' G' w' V a' e1 e2 e3 e4 e5=>hkp v h' G' w' a' V e1 (xr.trans e2.ak9) e3 e4 e5)
    ·simp only [Rv,ah1] at h2
     have:=h2 (o,j) (List.mem_zipIdx_iff_getElem?.2 (by simpa using ho)) e (by simpa using he)
     simpa [hbd] using this
    ·constructor
     ·intro hj
      have hlt:j < ops.size:=by
       by_cases hlt:j < ops.size
       ·exact hlt
       ·simp [Array.getD,hlt] at hj
      obtain⟨x,hx,he⟩:=h4 j hlt
      exact⟨x,hx,by simpa using he⟩
     ·rintro⟨x,hx,rfl⟩
      have:=(Array.getElem?_eq_some_iff.1 (hspec x hx).1).1
      simp [Array.getD,this]
    ·exfalso
     simp [Array.getD] at hj
end
end
section
open Go Go.RowKit
section
variable {G G':Gh}{h h':kP}{w:World}{m:Nat}
def aeS (G:Gh) (h:kP) (w:World) (G':Gh) (m:Nat):Prop :=
 (∀id cs,m≤id→h[id]?=some (.cells cs)→∀k,G'.H (G.oP id) k=w.cell? ⟨G.oP id,k,none⟩) ∧
  ∀id tot sz cs b,m≤id→h[id]?=some (.vec tot sz cs)→(G.cur id).ownBlock=some b→∀k,G'.H b k=w.cell? ⟨b,k,none⟩
theorem Im (i : Inv G h w) (l : Left G h G' h' m) (st : aeS G h w G' m) {v : kM} {V : Value} (r : lM G h v V) : lM G' h' (v.mO m h) V := by
  have junk : lM G' h' .junk V := .p _ _ (.junk _)
  have cellsOf : ∀ (id : Nat) (cs row part : List kM) (off : Nat), m ≤ id → h[id]? = some (.cells cs) → (∀ (j : Nat) (c : kM), part[j]? = some c → cs[off + j]? = some c) → n_ part = some row →
      ∃ F : Nat → Value, ∀ (j : Nat) (v : kM), row[j]? = some v → G'.H (G.oP id) (off + j) = some (F j) ∧ v.mD = true ∧ rC G'.H v (F j) := by
    intro id cs row part off hid hc hpart hrow
    obtain ⟨C, e, h1, h2, h3, h4⟩ := i.oP id _ hc
    obtain ⟨p1, p2⟩ := tJ hrow
    refine ⟨fun j => C.getD (off + j) undef, fun j v hv => ?_⟩
    have hj : j < part.length := by rw [← p1]; exact (ab1.1 hv).1
    obtain ⟨c', e1, e2⟩ := p2 j _ (ac0 hj)
    rw [hv] at e1; cases e1
    have hcs := hpart j _ (ac0 hj)
    have hlt : off + j < C.size := by rw [h2]; exact (ab1.1 hcs).1
    obtain ⟨e3, e4⟩ := zV e2 (h4 _ _ hcs).2
    refine ⟨?_, e4, e3.mono l.hmono⟩
    rw [st.1 id cs hid hc, cell_of w _ _ h1]
    simp [ab2, hlt]
  cases v with
  | slice rows t =>
    cases t with
    | own id =>
      simp only [kM.mO]
      cases hd : decide (id < m) with
      | true =>
        simp only [cond_true]
        exact xK l (by simpa [kM.pE, qA] using hd) r
      | false =>
        simp only [cond_false]
        exact .p _ _ (r.wD.mono l.hmono)
    | _ => exact xK l rfl r
  | ptr id off =>
    simp only [kM.mO]
    cases hd : decide (id < m) with
    | true =>
      simp only [cond_true]
      exact xK l (by simpa [kM.pE, qA] using hd) r
    | false =>
      simp only [cond_false]
      have hid : m ≤ id := by simpa using hd
      split
      · rename_i cs hc
        split
        · rename_i row hrow
          obtain ⟨rfl, _⟩ := r.xV
          obtain ⟨F, hF⟩ := cellsOf id cs row _ off hid hc (fun j c hj => by rwa [ah5] at hj) hrow
          exact .p _ _ (.pptr row _ off F (fun j v hv => (hF j v hv).1) (fun j v hv => (hF j v hv).2.1) (fun j v hv => (hF j v hv).2.2))
        · exact junk
      · exact junk
  | mslice id off len sz =>
    simp only [kM.mO]
    cases hd : decide (id < m) with
    | true =>
      simp only [cond_true]
      exact xK l (by simpa [kM.pE, qA] using hd) r
    | false =>
      simp only [cond_false]
      have hid : m ≤ id := by simpa using hd
      split
      · rename_i cs hc
        split
        · rename_i row hrow
          cases hle : decide (off + len * sz ≤ cs.length) with
          | false => exact junk
          | true =>
            simp only [cond_true]
            have hle : off + len * sz ≤ cs.length := by simpa using hle
            obtain ⟨a, cap, rfl, hcap, ha⟩ := r.AS
            by_cases h0 : len = 0
            · subst h0; exact .p _ _ (.slice0 a cap)
            · obtain ⟨rfl, _⟩ := ha (by omega)
              obtain ⟨F, hF⟩ := cellsOf id cs row _ off hid hc (fun j c hj => by
                rw [ah3] at hj
                split at hj
                · rwa [ah5] at hj
                · cases hj) hrow
              have hrl : row.length = len * sz := by rw [(tJ hrow).1]; simp; omega
              exact .p _ _ (DO (by omega) hcap (fun j v hv _ => ⟨(hF j v hv).1, (hF j v hv).2.2, (hF j v hv).2.1⟩))
        · exact junk
      · exact junk
  | vslice id tot off len sz =>
    simp only [kM.mO]
    cases hd : decide (id < m) with
    | true =>
      simp only [cond_true]
      exact xK l (by simpa [kM.pE, qA] using hd) r
    | false =>
      simp only [cond_false]
      have hid : m ≤ id := by simpa using hd
      split
      · rename_i tot' sz' cs hc
        split
        · rename_i row hrow
          cases hle : decide (tot = tot' ∧ off + len * sz ≤ cs.length) with
          | false => exact junk
          | true =>
            simp only [cond_true]
            obtain ⟨rfl, hle⟩ : tot = tot' ∧ off + len * sz ≤ cs.length := by simpa using hle
            obtain ⟨b, cap, rfl, hnf, htot, hlc, hv⟩ := r.tI
            obtain ⟨b', cap', C, e0, g1, g2, g3, g4, g5, g6, g7, g8, g9⟩ := i.oP id _ hc
            obtain ⟨l0, cap0, k1, _⟩ := hv (by rw [g1]; rfl)
            have hcur := g1
            rw [g1] at k1
            simp only [Value.slice.injEq, ab0, Addr.mk.injEq] at k1
            obtain ⟨⟨rfl, _⟩, _, rfl⟩ := k1
            obtain ⟨p1, p2⟩ := tJ hrow
            have hdl : ((cs.drop off).take (len * sz)).length = len * sz := by rw [ak8, al3]; omega
            rw [hdl] at p1
            refine .p _ _ (DO (F := fun j => C.getD (off + j) undef) (by omega) hlc fun j v hvv _ => ?_)
            have hj : j < len * sz := by rw [← p1]; exact (ab1.1 hvv).1
            obtain ⟨c', e1, e2⟩ := p2 j _ (ac0 (by omega))
            rw [hvv] at e1; cases e1
            have hcs : cs[off + j]? = some (((cs.drop off).take (len * sz))[j]'(by omega)) := by
              have := ac0 (l := (cs.drop off).take (len * sz)) (i := j) (by omega)
              rw [ah3, if_pos hj, ah5] at this
              exact this
            obtain ⟨_, hrel⟩ := g9 _ _ hcs
            obtain ⟨z1, z2⟩ := zV e2 hrel
            have hlt : off + j < C.size := by
              have := (ab1.1 hcs).1
              have h2 : cs.length ≤ C.size := by rw [g7, g5]; exact aj0 _ g3
              omega
            refine ⟨?_, z1.mono l.hmono, z2⟩
            rw [st.2 id _ _ _ b' hid hc (by rw [hcur]; rfl), cell_of w _ _ g2]
            simp [ab2, hlt]
        · exact junk
      · exact junk
  | _ =>
    simp only [kM.mO]
    first
      | (cases hs : kM.nP m _ with
         | true => exact zW l hs r
         | false => exact junk)
theorem atL (i:Inv G h w) (l:Left G h G' h' m) (st:aeS G h w G' m) {v:kM}{V:Value}(r:lM G h v V):lM G' h' (v.vM m h) V:=by
 have one:∀{v:kM}{V:Value},lM G h v V→lM G' h' (v.mO m h) V:=fun r=>Im i l st r
 have agg:∀(cs:List kM) (X:Value),lM G h (.agg cs) X→lM G' h' (.agg (cs.map (·.mO m h))) X:=by
  intro cs X hx
  obtain⟨C,rfl,hl,hr⟩:=hx.Ac
  refine .agg _ _ (by simpa using hl) fun i u hu=>?_
  simp only [ai1,ac6] at hu
  obtain⟨a,ha,rfl⟩:=hu
  exact one (hr i a ha)
 cases v with
 | agg cs=>exact agg cs V r
 | tuple vs =>
  obtain⟨C,rfl,hl,hr⟩:=r.F3
  refine .tuple _ _ (by simpa using hl) fun i u hu=>?_
  simp only [ai1,ac6] at hu
  obtain⟨a,ha,rfl⟩:=hu
  have:=hr i a ha
  cases a <;> first | exact agg _ _ this | exact one this
 | iface t v =>
  obtain⟨W,rfl,hr⟩:=r.DC
  cases v <;> first | exact .iface _ _ _ (agg _ _ hr) | exact .iface _ _ _ (one hr)
 | _=>exact one r
theorem xI:∀{cs cs':List kM},nI m h cs=some cs'→cs'.length=cs.length∧∀(j:Nat) (c:kM),cs'[j]?=some c→c.mD=true∧∃c0,cs[j]?=some c0∧c=c0.mO m h
 | [],cs',hc=>by simp only [nI,ab0] at hc; subst hc; simp
 | v::r,cs',hc=>by
  simp only [nI] at hc
  cases hk:(v.mO m h).mD with
  | false=>rw [hk] at hc; cases hc
  | true =>
   rw [hk] at hc
   simp only [cond_true] at hc
   split at hc
   ·rename_i r' hr
    cases hc
    obtain⟨h1,h2⟩:=xI hr
    refine⟨by simp [h1],fun j c hj=>?_⟩
    cases j with
    | zero=>simp at hj; subst hj; exact⟨hk,v,rfl,rfl⟩
    | succ j=>simpa using h2 j c (by simpa using hj)
   ·cases hc
theorem Iq:∀{bs bs':List lE},nK m h bs=some bs'→bs'.length=bs.length∧∀(j:Nat) (b:lE),bs[j]?=some b→∃b',bs'[j]?=some b'∧pF m h b=some b'
 | [],bs',hb=>by simp only [nK,ab0] at hb; subst hb; simp
 | b::r,bs',hb=>by
  simp only [nK] at hb
  split at hb
  ·rename_i b' r' hb' hr
   cases hb
   obtain⟨h1,h2⟩:=Iq hr
   refine⟨by simp [h1],fun j c hj=>?_⟩
   cases j with
   | zero=>simp at hj; subst hj; exact⟨b',rfl,hb'⟩
   | succ j=>simpa using h2 j c (by simpa using hj)
  ·cases hb
theorem XK (ht:l9 m h=some h') (hm:m≤h.length):h'.length=m∧∀(id:Nat) (b:lE),id < m→h[id]?=some b→∃b',h'[id]?=some b'∧pF m h b=some b':=by
 obtain⟨h1,h2⟩:=Iq ht
 refine⟨by rw [h1]; simp; omega,fun id b hid hb=>?_⟩
 exact h2 id b (by rw [ah3,if_pos hid]; exact hb)
theorem Bk {b b':lE}(hs:pF m h b=some b'):(∀G G':Gh,G'.oP=G.oP→G'.cur=G.cur→∀id,Kind G G' id b b')∧(b≠.free→b'≠.free)∧(∀n sz t,b=.front n sz t→b'=.front n sz t) ∧
  ∀(G:Gh) (id:Nat),nN G id b'=nN G id b:=by
 cases b with
 | cells cs =>
  simp only [pF,ac6] at hs
  obtain⟨cs',h1,rfl⟩:=hs
  refine⟨fun G G' e1 e2 id=>⟨(xI h1).1.symm,by rw [e1],by rw [e2]⟩,by simp,by simp,by simp [nN]⟩
 | vec t sz cs =>
  simp only [pF,ac6] at hs
  obtain⟨cs',h1,rfl⟩:=hs
  exact⟨fun G G' e1 e2 id=>by simp [Kind,e1,e2],by simp,by simp,by simp [nN]⟩
 | tcells t cs =>
  simp only [pF,ac6] at hs
  obtain⟨cs',h1,rfl⟩:=hs
  exact⟨fun G G' e1 e2 id=>⟨rfl,(xI h1).1.symm,by rw [e1],by rw [e2]⟩,by simp,by simp,by simp [nN]⟩
 | map es =>
  simp only [pF] at hs
  cases ha:es.all (fun e=>e.2.nP m) <;> rw [ha] at hs <;> cases hs
  exact⟨fun G G' e1 e2 id=>by simp [Kind,e1,e2],by simp,by simp,by simp⟩
 | free=>cases hs; exact⟨fun G G' e1 e2 id=>trivial,by simp,by simp,by simp⟩
 | gone=>cases hs; exact⟨fun G G' e1 e2 id=>by simp [Kind,e1,e2],by simp,by simp,by simp⟩
 | front n sz t=>cases hs; exact⟨fun G G' e1 e2 id=>by simp [Kind,e1,e2],by simp,by simp,by simp⟩
end
theorem Bn {G G1:Gh}{h h1 h2:kP}{w w1:World}(x:Ext G h w G1 h1 w1) (i1:Inv G1 h1 w1) (ht:l9 h.length h1=some h2) :
  ∃G2,Inv G2 h2 w1∧Ext G h w G2 h2 w1∧h2.length=h.length∧(∀(v:kM) (V:Value),lM G1 h1 v V→lM G2 h2 (v.vM h.length h1) V)∧∀b k v,G1.H b k=some v→G2.H b k=some v:=by
 classical
 have hm:h.length≤h1.length:=by
  by_cases h0:h.length=0
  ·omega
  ·have hlt:h.length - 1 < h.length:=by omega
   obtain⟨bl',hb,_⟩:=x.kinds (h.length - 1) _ (ac0 hlt)
   have:=(ab1.1 hb).1
   omega
 let Drop:Nat→Prop:=fun b=>∃id,h.length≤id∧owner G1 h1 id=some b∧((∃cs,h1[id]?=some (.cells cs))∨∃tot sz cs,h1[id]?=some (.vec tot sz cs))
 let G2:Gh:={ G1 with H:=fun b k=>if Drop b then w1.cell? ⟨b,k,none⟩ else G1.H b k }
 have hH:∀b k,G2.H b k=if Drop b then w1.cell? ⟨b,k,none⟩ else G1.H b k:=fun _ _=>rfl
 have dropNone:∀b,Drop b→∀k,G1.H b k=none:=by
  rintro b ⟨id,_,ho,⟨cs,hc⟩ | ⟨tot,sz,cs,hc⟩⟩ k
  ·rw [pR hc] at ho
   obtain⟨C,e,_,_,h3,_⟩:=i1.oP id _ hc
   cases ho; exact h3 k
  ·rw [pR hc] at ho
   obtain⟨b',cap',C,e0,g1,g2,g3,g4,g5,g6,g7,g8,g9⟩:=i1.oP id _ hc
   simp only [nN,g1,Value.ownBlock,ab0] at ho
   subst ho; exact g8 k
 have hmono:∀b k v,G1.H b k=some v→G2.H b k=some v:=by
  intro b k v hv
  rw [hH]
  split
  ·rename_i hd; rw [dropNone b hd k] at hv; cases hv
  ·exact hv
 obtain⟨tl,tb⟩:=XK ht hm
 have back:∀(id:Nat) (b':lE),h2[id]?=some b'→id < h.length∧∃b,h1[id]?=some b∧pF h.length h1 b=some b':=by
  intro id b' hb'
  have hid:id < h.length:=by rw [←tl]; exact(ab1.1 hb').1
  have hlt:id < h1.length:=by omega
  obtain⟨b'',e1,e2⟩:=tb id _ hid (ac0 hlt)
  rw [hb'] at e1; cases e1
  exact⟨hid,_,ac0 hlt,e2⟩
 have l:Left G1 h1 G2 h2 h.length:=by
  refine⟨hmono,rfl,rfl,fun id hid ⟨b,hb,hf⟩=>?_,fun id n sz t hid hf=>?_,fun id hid ⟨b,hb,hf,hn⟩=>?_⟩
  ·obtain⟨b',e1,e2⟩:=tb id b hid hb
   exact⟨b',e1,(Bk e2).2.1 hf⟩
  ·obtain⟨b',e1,e2⟩:=tb id _ hid hf
   rw [e1,(Bk e2).2.2.1 n sz _ rfl]
  ·obtain⟨b',e1,e2⟩:=tb id b hid hb
   have hk:=(Bk e2).1 G1 G1 rfl rfl id
   exact⟨b',e1,(hk.oP hf).1,hk.nf hf hn⟩
 have st:aeS G1 h1 w1 G2 h.length:=by
  refine⟨fun id cs hid hc k=>?_,fun id tot sz cs b hid hc ho k=>?_⟩
  ·rw [hH,if_pos ⟨id,hid,by rw [pR hc]; rfl,.inl ⟨cs,hc⟩⟩]
  ·rw [hH,if_pos ⟨id,hid,by rw [pR hc]; exact ho,.inr ⟨tot,sz,cs,hc⟩⟩]
 have own:∀id b,owner G2 h2 id=some b→id < h.length∧owner G1 h1 id=some b:=by
  intro id b ho
  obtain⟨bl,hb,hob⟩:=AV ho
  obtain⟨hid,b0,e1,e2⟩:=back id bl hb
  refine⟨hid,?_⟩
  rw [pR e1,←(Bk e2).2.2.2]
  cases bl <;> exact hob
 have noDrop:∀id b,id < h.length→owner G1 h1 id=some b→¬Drop b:=by
  rintro id b hid ho ⟨id',hid',ho',_⟩
  have:=i1.inj id id' _ ho ho'
  omega
 have ext:Ext G h w G2 h2 w1:=by
  refine⟨x.os,x.tape,x.output,x.size,fun b hb hn=>?_,fun b k v hv=>hmono b k v (x.hmono b k v hv),fun id b ho hb=>x.own id b (own id b ho).2 hb,fun id bl hb=>?_⟩
  ·obtain⟨e1,e2⟩:=x.frame b hb hn
   refine⟨e1,fun k=>?_⟩
   rw [hH,if_neg,e2]
   rintro⟨id,hid,ho,_⟩
   exact hn id (x.own id _ ho hb)
  ·obtain⟨bl',e1,e2⟩:=x.kinds id bl hb
   obtain⟨b',e3,e4⟩:=tb id bl' (ab1.1 hb).1 e1
   exact⟨b',e3,e2.trans ((Bk e4).1 G1 G2 rfl rfl id)⟩
 refine⟨G2,⟨fun b k v hv=>?_,fun id bl hb=>?_,fun a b c ha hb=>i1.inj a b c (own a c ha).2 (own b c hb).2⟩,ext,tl,fun v V r=>atL i1 l st r,hmono⟩
 ·rw [hH] at hv
  split at hv
  ·exact hv
  ·exact i1.ok b k v hv
 ·obtain⟨hid,b0,e1,e2⟩:=back id bl hb
  have hk:=i1.oP id b0 e1
  have keepH:∀b,owner G1 h1 id=some b→∀k,G2.H b k=G1.H b k:=fun b ho k=>by rw [hH,if_neg (noDrop id b hid ho)]
  cases b0 with
  | free=>cases e2; trivial
  | gone=>cases e2; trivial
  | cells cs =>
   simp only [pF,ac6] at e2
   obtain⟨cs',e3,rfl⟩:=e2
   obtain⟨C,e,g1,g2,g3,g4⟩:=hk
   obtain⟨s1,s2⟩:=xI e3
   refine⟨C,e,g1,by rw [s1]; exact g2,fun k=>by rw [show G2.oP id=G1.oP id from rfl,keepH _ (by rw [pR e1]; rfl)]; exact g3 k,fun j v hv=>?_⟩
   obtain⟨k1,c0,k2,rfl⟩:=s2 j v hv
   exact⟨k1,Im i1 l st (g4 j c0 k2).2⟩
  | vec tot sz cs =>
   simp only [pF,ac6] at e2
   obtain⟨cs',e3,rfl⟩:=e2
   obtain⟨b',cap',C,e0,g1,g2,g3,g4,g5,g6,g7,g8,g9⟩:=hk
   obtain⟨s1,s2⟩:=xI e3
   refine⟨b',cap',C,e0,g1,g2,g3,g4,g5,g6,by rw [s1]; exact g7,fun k=>by rw [keepH b' (by rw [pR e1]; simp [nN,g1,Value.ownBlock])]; exact g8 k,fun j v hv=>?_⟩
   obtain⟨k1,c0,k2,rfl⟩:=s2 j v hv
   exact⟨k1,Im i1 l st (g9 j c0 k2).2⟩
  | tcells t cs =>
   simp only [pF,ac6] at e2
   obtain⟨cs',e3,rfl⟩:=e2
   obtain⟨C,g1,g2,g3,g4⟩:=hk
   obtain⟨s1,s2⟩:=xI e3
   refine⟨C,g1,by rw [s1]; exact g2,fun k=>by rw [show G2.oP id=G1.oP id from rfl,keepH _ (by rw [pR e1]; rfl)]; exact g3 k,fun j v hv=>?_⟩
   obtain⟨k1,c0,k2,rfl⟩:=s2 j v hv
   exact⟨k1,Im i1 l st (g4 j c0 k2).2⟩
  | map es =>
   simp only [pF] at e2
   cases ha:es.all (fun e=>e.2.nP h.length) <;> rw [ha] at e2 <;> cases e2
   simp only [ah1] at ha
   obtain⟨E,clock,g1,g2,g3,g4,hst⟩:=hk
   refine⟨E,clock,g1,g2,fun k=>by rw [show G2.oP id=G1.oP id from rfl,keepH _ (by rw [pR e1]; rfl)]; exact g3 k,fun j kv hkv=>?_,hst⟩
   obtain⟨mm,k1,k2,k3,k4⟩:=g4 j kv hkv
   exact⟨mm,k1,k2,k3.mono hmono,zW l (ha kv (af1 hkv)) k4⟩
  | front n sz t =>
   cases e2
   rcases hk with ⟨k1,k2⟩ | ⟨b,cap,C,e,k1,k2,k3,k4,k5,k6,k7,k8⟩
   ·exact .inl ⟨k1,k2⟩
   ·exact .inr ⟨b,cap,C,e,k1,k2,k3,k4,k5,k6,fun k hk=>by rw [keepH b (by rw [pR e1]; simp [nN,k1,Value.ownBlock])]; exact k7 k hk,k8⟩
end
section
open Go Go.RowKit
theorem Bw (L:Nat) (f:kM→kM):∀(ρ pre:List kM) (i:Nat),(unpackFrom L (pre++(y4 L i ρ).map f) ρ.length i pre.length).length=ρ.length ∧
  ∀(j:Nat) (v:kM),(unpackFrom L (pre++(y4 L i ρ).map f) ρ.length i pre.length)[j]?=some v→v=.junk∨∃u,ρ[j]?=some u∧v=f u
 | [],pre,i=>by simp [unpackFrom]
 | u::r,pre,i=>by
  cases hb:L.testBit i with
  | true =>
   obtain⟨h1,h2⟩:=Bw L f r (pre++[f u]) (i+1)
   have e1:pre++(y4 L i (u::r)).map f=(pre++[f u])++(y4 L (i+1) r).map f:=by simp [y4,hb]
   have e2:(pre++[f u]).length=pre.length+1:=by simp
   rw [e2] at h1 h2
   have e3:((pre++[f u])++(y4 L (i+1) r).map f).getD pre.length .junk=f u:=by simp [af6]
   rw [e1]
   simp only [ac8,unpackFrom,hb,cond_true,e3]
   refine⟨by rw [h1],fun j v hv=>?_⟩
   cases j with
   | zero=>simp at hv; exact .inr ⟨u,rfl,hv.symm⟩
   | succ j=>simpa using h2 j v (by simpa using hv)
  | false =>
   obtain⟨h1,h2⟩:=Bw L f r pre (i+1)
   simp only [y4,ac8,unpackFrom,hb,cond_false,ac8]
   refine⟨by rw [h1],fun j v hv=>?_⟩
   cases j with
   | zero=>simp at hv; exact .inl hv.symm
   | succ j=>simpa using h2 j v (by simpa using hv)
theorem C_ (L:Nat) (x:List kM):∀(n i j:Nat),(unpackFrom L x n i j).length=n
 | 0,_,_=>rfl
 | n+1,i,j=>by unfold unpackFrom; cases L.testBit i <;> simp [C_ L x n]
theorem rJ (n L:Nat) (x:List kM):(unpack n L x).length=n:=C_ L x n 0 0
theorem OM {n L:Nat}{ρ:List kM}(f:kM→kM) (hn:ρ.length=n) (j:Nat) (v:kM) (hv:(unpack n L ((pack L ρ).map f))[j]?=some v):v=.junk∨∃u,ρ[j]?=some u∧v=f u:=by
 subst hn
 have:=(Bw L f ρ [] 0).2 j v
 simpa [unpack,pack] using this (by simpa [unpack,pack] using hv)
section
variable {J:Act→Prop}{cx:Cx}{ρ:List kM}{h:kP}{kn:List kM→kP→Option R}{ke:Ex→List kM→kP→Option R}{r:R}{G:Gh}{w:World}{a:Act}{Q:Exit→Act→World→Prop}{n L:Nat}
theorem p_.Jv {G':Gh}{h':kP}(s:p_ J G h ρ a) (hn:ρ.length=n) (f:kM→kM) (hf:∀v V,lM G h v V→lM G' h' (f v) V):p_ J G' h' (unpack n L ((pack L ρ).map f)) a:=by
 refine⟨by rw [rJ,←hn,s.len],fun j v hv=>?_,s.df⟩
 rcases OM f hn j v hv with rfl | ⟨u,hu,rfl⟩
 ·exact .p _ _ (.junk _)
 ·exact hf u _ (s.rel j u hu)
theorem p_.pack (s:p_ J G h ρ a) (hn:ρ.length=n):p_ J G h (unpack n L (pack L ρ)) a:=by
 have:=s.Jv (L:=L) hn id fun _ _ r=>r
 simpa using this
theorem xL.trans {G':Gh}{h':kP}{w':World}(p:xL J n kn ke r G h w Q) (x:Ext G h w G' h' w'):xL J n kn ke r G' h' w' Q :=
 ⟨fun ρ' h'' G'' w'' a' h1 h2 h3 h4=>p.1 ρ' h'' G'' w'' a' h1 (x.trans h2) h3 h4,fun e ρ' h'' G'' w'' a' h1 h2 h3 h4=>p.2.1 e ρ' h'' G'' w'' a' h1 (x.trans h2) h3 h4,
  fun v ρ' h'' G'' w'' a' V h1 h2 h3 h4 h5=>p.2.2 v ρ' h'' G'' w'' a' V h1 (x.trans h2) h3 h4 h5⟩
theorem xL.pack {r0:R}(hn:r0.1=.normal→kn (unpack n L r0.2.1) r0.2.2=some r) (he:∀e,r0.1=e→e≠.normal→ke e (unpack n L r0.2.1) r0.2.2=some r) (p:xL J n kn ke r G h w Q) :
  xL J n (KO L) (KJ L) r0 G h w Q:=by
 refine⟨fun ρ' h' G' w' a' h1 h2 h3 h4 h5=>?_,fun e ρ' h' G' w' a' h1 h2 h3 h4 h5=>?_,fun v ρ' h' G' w' a' V h1 h2 h3 h4 h5=>?_⟩
 ·cases h1
  exact p.1 _ h' G' w' a' (hn rfl) h2 h3 (h4.pack h5) (rJ _ _ _)
 ·cases h1
  cases e with
  | exit id=>exact p.2.1 (.exit id) _ h' G' w' a' (he _ rfl (by simp)) h2 h3 (h4.pack h5) (rJ _ _ _)
  | ret=>exact p.2.1 .ret _ h' G' w' a' (he _ rfl (by simp)) h2 h3 (h4.pack h5) (rJ _ _ _)
  | _=>trivial
 ·cases h1
  exact p.2.2 v _ h' G' w' a' V (he _ rfl (by simp)) h2 h3 h4 h5
theorem xL.awI {j:Bool}{r0:R}(hn:r0.1=.normal→kn (unpack n L r0.2.1) r0.2.2=some r) (he:∀e,r0.1=e→e≠.normal→ke e (unpack n L r0.2.1) r0.2.2=some r) (p:xL J n kn ke r G h w Q) :
  xL J n (Gz j h.length L .normal) (Gz j h.length L) r0 G h w Q:=by
 cases j with
 | false=>exact xL.pack hn he p
 | true =>
  refine⟨fun ρ' h' G' w' a' h1 h2 h3 h4 h5=>?_,fun e ρ' h' G' w' a' h1 h2 h3 h4 h5=>?_,fun v ρ' h' G' w' a' V h1 h2 h3 h4 h5=>?_⟩
  all_goals
   unfold Gz kS at h1
   simp only [ac6] at h1
   obtain⟨h9,ht,rfl⟩:=h1
   obtain⟨G3,i3,x3,hlen3,hrel,_⟩:=Bn h2 h3 ht
  ·exact p.1 _ h9 G3 w' a' (hn rfl) x3 i3 (h4.Jv h5 _ hrel) (rJ _ _ _)
  ·cases e with
   | exit id=>exact p.2.1 (.exit id) _ h9 G3 w' a' (he _ rfl (by simp [Ex.vM])) x3 i3 (h4.Jv h5 _ hrel) (rJ _ _ _)
   | ret=>exact p.2.1 .ret _ h9 G3 w' a' (he _ rfl (by simp [Ex.vM])) x3 i3 (h4.Jv h5 _ hrel) (rJ _ _ _)
   | _=>trivial
  ·exact p.2.2 _ _ h9 G3 w' a' V (he _ rfl (by simp [Ex.vM])) x3 i3 (hrel _ _ h4) h5
theorem xL.inBlock {id:Nat}(p:xL J n kn ke r G h w Q):xL J n kn (fun e ρ' h'=>e.inBlock id (kn ρ' h') fun e=>ke e ρ' h') r G h w (Exit.inBlock id Q):=by
 refine⟨p.1,fun e ρ' h' G' w' a' h1 h2 h3 h4 h5=>?_,fun v ρ' h' G' w' a' V h1 h2 h3 h4 h5=>p.2.2 v ρ' h' G' w' a' V h1 h2 h3 h4 h5⟩
 cases e with
 | exit j =>
  simp only [Ex.inBlock] at h1
  simp only [Exit.inBlock]
  cases hj:j == id with
  | true =>
   rw [hj] at h1
   rw [if_pos (by simpa using hj)]
   exact p.1 ρ' h' G' w' a' h1 h2 h3 h4 h5
  | false =>
   rw [hj] at h1
   rw [if_neg (by simpa using hj)]
   exact p.2.1 (.exit j) ρ' h' G' w' a' h1 h2 h3 h4 h5
 | ret=>exact p.2.1 .ret ρ' h' G' w' a' h1 h2 h3 h4 h5
 | _=>trivial
def Tx (lp:(List kM×kP→Option R)→List kM×kP→Option R):Prop:=∀F s r,lp F s=some r→∃n,tW n F s=some r
theorem Wc {v:kM}{t e:Option R}(hb:lF v t e=some r):∃b,v=.bool b∧(if b then t else e)=some r:=by
 unfold lF at hb
 split at hb
 ·rename_i b; exact⟨b,rfl,by cases b <;> exact hb⟩
 ·cases hb
def JOk (J:Act→Prop):Code→Prop
 | .region _ ops _=>VV J ops.toList
 | .seq a b=>JOk J a∧JOk J b
 | .cond _ a b=>JOk J a∧JOk J b
 | .block _ c=>JOk J c
 | .loop c=>JOk J c
 | .scope c=>JOk J c
 | _=>True
theorem xL.scope (p:xL J n kn ke r G h w Q):xL J n kn ke r G h w (Exit.noGoto Q):=by
 refine⟨fun ρ' h' G' w' a' h1 h2 h3 h4 h5=>p.1 ρ' h' G' w' a' h1 h2 h3 h4 h5,fun e ρ' h' G' w' a' h1 h2 h3 h4 h5=>?_,fun v ρ' h' G' w' a' V h1 h2 h3 h4 h5=>p.2.2 v ρ' h' G' w' a' V h1 h2 h3 h4 h5⟩
 have:=p.2.1 e ρ' h' G' w' a' h1 h2 h3 h4 h5
 cases e <;> first | exact this | trivial
theorem Ak (hm:cx.P.follows .mixedOrders=true) (hX:yT cx.P cx.A) (hK:vH cx.P cx.A cx.K) (hlp:Tx cx.lp):∀(c:Code) (L:Nat) (ρ:List kM) (h:kP) (kn:List kM→kP→Option R) (ke:Ex→List kM→kP→Option R) (r:R) (G:Gh) (w:World) (a:Act) (Q:Exit→Act→World→Prop),JOk J c →
  evalCode cx c L ρ h kn ke=some r→Inv G h w→tM cx.A G h w→p_ J G h ρ a→ρ.length=cx.n→xL J cx.n kn ke r G h w Q→c.wp cx.P Q a w:=by
 intro c
 induction c with
 | skip =>
  intro L ρ h kn ke r G w a Q hJ hb i gl s hn hk
  exact wp_skip (hk.1 ρ h G w a hb (Ext.refl G h w) i s hn)
 | region id ops draw =>
  intro L ρ h kn ke r G w a Q hJ hb i gl s hn hk
  refine I4 hJ hm hX hK hb i gl s hn hk.1 fun v h' G' w' a' V e1 e2 e3 e4 e5=>?_
  cases hp:cx.pan with
  | true=>rw [hp] at e1; exact hk.2.2 v ρ h' G' w' a' V e1 e2 e3 e4 e5
  | false=>rw [hp] at e1; cases e1
 | seq x y ihx ihy =>
  intro L ρ h kn ke r G w a Q hJ hb i gl s hn hk
  refine wp_seq (ihx _ ρ h _ _ r G w a _ hJ.1 hb i gl s hn ⟨fun ρ' h' G' w' a' h1 h2 h3 h4 h5=>?_,fun e ρ' h' G' w' a' h1 h2 h3 h4 h5=>?_,fun v ρ' h' G' w' a' V h1 h2 h3 h4 h5=>hk.2.2 v ρ' h' G' w' a' V h1 h2 h3 h4 h5⟩)
  ·exact ihy L ρ' h' kn ke r G' w' a' Q hJ.2 h1 h3 (gl.mono h2) h4 h5 (hk.trans h2)
  ·have:=hk.2.1 e ρ' h' G' w' a' h1 h2 h3 h4 h5
   cases e <;> first | exact this | trivial
 | cond c x y ihx ihy =>
  intro L ρ h kn ke r G w a Q hJ hb i gl s hn hk
  have fin:∀{v:kM}{t e:Option R}{r:R}{kn:List kM→kP→Option R}{ke:Ex→List kM→kP→Option R},v=tD cx.A ρ c→lF v t e=some r→t=evalCode cx x L ρ h kn ke→e=evalCode cx y L ρ h kn ke→xL J cx.n kn ke r G h w Q→(Code.cond c x y).wp cx.P Q a w:=by
   intro v t e r kn ke hv hc ht he hk
   obtain⟨b,rfl,hb⟩:=Wc hc
   have hcv:=(hv ▸ s.eval gl.cells c).Ag
   subst ht; subst he
   refine wp_cond hcv ?_
   cases b with
   | true=>exact ihx L ρ h kn ke r G w a Q hJ.1 hb i gl s hn hk
   | false=>exact ihy L ρ h kn ke r G w a Q hJ.2 hb i gl s hn hk
  simp only [evalCode] at hb
  cases hf:zQ x && zQ y with
  | true =>
   rw [hf] at hb
   simp only [cond_true] at hb
   obtain⟨r0,hr0,hk0⟩:=aa2.1 hb
   refine fin rfl hr0 rfl rfl (.awI (fun he=>?_) (fun e he hne=>?_) hk)
   ·rw [he] at hk0
    cases hl:cx.pan || (leaves [] x || leaves [] y) <;> rw [hl] at hk0 <;> exact hk0
   ·rw [he] at hk0
    cases hl:cx.pan || (leaves [] x || leaves [] y) <;> rw [hl] at hk0
    ·cases e <;> first | exact absurd rfl hne | cases hk0
    ·cases e <;> first | exact absurd rfl hne | exact hk0
  | false =>
   rw [hf] at hb
   exact fin rfl hb rfl rfl hk
 | block id c ih =>
  intro L ρ h kn ke r G w a Q hJ hb i gl s hn hk
  refine wp_block ?_
  simp only [evalCode] at hb
  cases hf:decide (2≤Dm id c+bif zQ c then 1 else 0) with
  | true =>
   rw [hf] at hb
   simp only [cond_true] at hb
   obtain⟨r0,hr0,hk0⟩:=aa2.1 hb
   refine ih L ρ h _ _ r0 G w a _ hJ hr0 i gl s hn (.awI (fun he=>?_) (fun e he hne=>?_) (hk.inBlock (id:=id)))
   ·rw [he] at hk0; exact hk0
   ·rw [he] at hk0; exact hk0
  | false =>
   rw [hf] at hb
   exact ih L ρ h _ _ r G w a _ hJ hb i gl s hn hk.inBlock
 | scope c ih =>
  intro L ρ h kn ke r G w a Q hJ hb i gl s hn hk
  exact wp_scope_straight (ih L ρ h kn ke r G w a _ hJ hb i gl s hn hk.scope)
 | label l =>
  intro L ρ h kn ke r G w a Q hJ hb i gl s hn hk
  exact wp_label (hk.1 ρ h G w a hb (Ext.refl G h w) i s hn)
 | loop c ih =>
  intro L ρ h kn ke r G w a Q hJ hb i gl s hn hk
  simp only [evalCode] at hb
  obtain⟨r0,hr0,hk0⟩:=aa2.1 hb
  obtain⟨n,hloop⟩:=hlp _ _ _ hr0
  refine wp_loop_rounds n ?_
  have key:∀(n:Nat) (G':Gh) (h':kP) (w':World) (a':Act) (x:List kM),tW n (fun s=>evalCode cx c (L ||| ue cx.full c) (unpack cx.n (L ||| ue cx.full c) s.1) s.2 (EP cx.lkp h.length (L ||| ue cx.full c) .normal) (EP cx.lkp h.length (L ||| ue cx.full c))) (x,h')=some r0→(cx.lkp=true∨h'.length=h.length) →
    Ext G h w G' h' w'→Inv G' h' w'→p_ J G' h' (unpack cx.n (L ||| ue cx.full c) x) a'→Code.rounds cx.P c Q n a' w':=by
   intro n
   induction n with
   | zero=>intro G' h' w' a' x hl; simp [tW] at hl
   | succ n ihn =>
    intro G' h' w' a' x hl hlen x1 i1 s1
    simp only [tW] at hl
    obtain⟨r1,hr1,hl⟩:=aa2.1 hl
    rw [rounds_succ]
    have round:∀(e:Ex) (ρ':List kM) (h'':kP) (G2:Gh) (w2:World) (a2:Act),EP cx.lkp h.length (L ||| ue cx.full c) e ρ' h''=some r1→Ext G' h' w' G2 h'' w2→Inv G2 h'' w2→p_ J G2 h'' ρ' a2→ρ'.length=cx.n →
      ∃G3 h3 f e3,r1=(e3,(pack (L ||| ue cx.full c) ρ').map f,h3)∧Inv G3 h3 w2∧Ext G' h' w' G3 h3 w2∧(cx.lkp=true∨h3.length=h.length)∧(∀v V,lM G2 h'' v V→lM G3 h3 (f v) V) ∧
       (e=.normal→e3=.normal)∧(∀id,e=.exit id→e3=.exit id)∧(e=.ret→e3=.ret):=by
     intro e ρ' h'' G2 w2 a2 e1 e2 e3 e4 e5
     cases hlk:cx.lkp with
     | true =>
      rw [hlk] at e1
      simp only [EP,ab0] at e1
      exact⟨G2,h'',id,e,by rw [←e1]; simp,e3,e2,.inl rfl,fun _ _ h=>h,fun h=>h,fun _ h=>h,fun h=>h⟩
     | false =>
      have hlen:h'.length=h.length:=by
       rcases hlen with h1 | h1
       ·rw [hlk] at h1; cases h1
       ·exact h1
      rw [hlk] at e1
      simp only [EP] at e1
      unfold endRound kS at e1
      simp only [ac6] at e1
      obtain⟨h3,ht,rfl⟩:=e1
      rw [←hlen] at ht
      obtain⟨G3,i3,x3,hlen3,hrel,_⟩:=Bn e2 e3 ht
      rw [hlen] at hrel
      exact⟨G3,h3,(·.vM h.length h''),e.vM h.length h'',rfl,i3,x3,.inr (hlen3.trans hlen),hrel,fun h=>by rw [h]; rfl,fun _ h=>by rw [h]; rfl,fun h=>by rw [h]; rfl⟩
    refine ih _ _ h' _ _ r1 G' w' a' _ hJ hr1 i1 (gl.mono x1) s1 (rJ _ _ _) ⟨fun ρ' h'' G2 w2 a2 e1 e2 e3 e4 e5=>?_,fun e ρ' h'' G2 w2 a2 e1 e2 e3 e4 e5=>?_,fun v ρ' h'' G2 w2 a2 V e1 e2 e3 e4 e5=>?_⟩
    ·obtain⟨G3,h3,f,ee,rfl,i3,x3,hl3,hrel,q1,_,_⟩:=round _ _ _ _ _ _ e1 e2 e3 e4 e5
     obtain rfl:=q1 rfl
     exact ihn G3 h3 w2 a2 _ hl hl3 (x1.trans x3) i3 (e4.Jv e5 _ hrel)
    ·obtain⟨G3,h3,f,ee,rfl,i3,x3,hl3,hrel,_,q2,q3⟩:=round _ _ _ _ _ _ e1 e2 e3 e4 e5
     have s3:=e4.Jv (L:=L ||| ue cx.full c) e5 _ hrel
     cases e with
     | exit id =>
      obtain rfl:=q2 id rfl
      simp only [Ex.lV,ab0] at hl
      subst hl
      exact hk.2.1 (.exit id) _ h3 G3 w2 a2 hk0 (x1.trans x3) i3 s3 (rJ _ _ _)
     | ret =>
      obtain rfl:=q3 rfl
      simp only [Ex.lV,ab0] at hl
      subst hl
      exact hk.2.1 .ret _ h3 G3 w2 a2 hk0 (x1.trans x3) i3 s3 (rJ _ _ _)
     | _=>trivial
    ·cases hlk:cx.lkp with
     | true =>
      rw [hlk] at e1
      simp only [EP,ab0] at e1
      subst e1
      simp only [Ex.lV,ab0] at hl
      subst hl
      exact hk.2.2 _ _ _ G2 w2 a2 V hk0 (x1.trans e2) e3 e4 e5
     | false =>
      have hlen:h'.length=h.length:=by
       rcases hlen with h1 | h1
       ·rw [hlk] at h1; cases h1
       ·exact h1
      rw [hlk] at e1
      simp only [EP] at e1
      unfold endRound kS at e1
      simp only [ac6] at e1
      obtain⟨h3,ht,rfl⟩:=e1
      rw [←hlen] at ht
      obtain⟨G3,i3,x3,hlen3,hrel,_⟩:=Bn e2 e3 ht
      rw [hlen] at hrel
      simp only [Ex.vM,Ex.lV,ab0] at hl
      subst hl
      exact hk.2.2 _ _ h3 G3 w2 a2 V hk0 (x1.trans x3) i3 (hrel _ _ e4) e5
  exact key n G h w a _ hloop (.inr rfl) (Ext.refl G h w) i (s.pack hn)
 | exit id =>
  intro L ρ h kn ke r G w a Q hJ hb i gl s hn hk
  exact wp_exit (hk.2.1 (.exit id) ρ h G w a hb (Ext.refl G h w) i s hn)
 | ret =>
  intro L ρ h kn ke r G w a Q hJ hb i gl s hn hk
  exact wp_ret (hk.2.1 .ret ρ h G w a hb (Ext.refl G h w) i s hn)
 | _=>intro L ρ h kn ke r G w a Q _ hb; simp [evalCode] at hb
theorem Pe {P:Program}{x:ResultVar}{v:kM}(hb:BK P ρ h x=some v) (i:Inv G h w) (s:p_ J G h ρ a) :
  ∃V,(match x with | .tmp t=>(pure (a.tmps.getD t undef):Sem Value) | .cell b t=>do loadVar t (←asAddr (a.tmps.getD b undef))).run P w=.ok V w∧lM G h v V:=by
 cases x with
 | tmp t=>simp only [BK,ab0] at hb; subst hb; exact⟨_,Sem.run_pure ..,s.get t⟩
 | cell b t =>
  simp only [BK] at hb
  split at hb
  ·rename_i g n hg hn
   have hx:=s.get b
   obtain⟨V,h1,h2⟩:=CR (P:=P) hg hn i hb hx
   refine⟨V,?_,h2⟩
   have:∃A,a.tmps.getD b undef=.pointer (some A):=by
    generalize ρ.getD b .junk=x at hb hx
    generalize a.tmps.getD b undef=X at hx
    unfold kT at hb
    split at hb
    ·have hp:=hx.Fc
     cases hp with | pptr cs b off F=>exact⟨_,rfl⟩
    ·obtain⟨rfl,_⟩:=hx.xV; exact⟨_,rfl⟩
    ·obtain⟨_,rfl,_⟩:=hx.Fo; exact⟨_,rfl⟩
    ·cases hb
   obtain⟨A,hA⟩:=this
   rw [hA] at h1
   dsimp only
   rw [hA]
   simpa [Instr.loadAt,Instr.sureAddr,asAddr] using h1
  ·cases hb
theorem Dp {P:Program}{fn:Func}{vs:List kM}(hb:fn.results.toList.mapM (BK P ρ h)=some vs) (i:Inv G h w) (s:p_ J G h ρ a) :
  ∃V,(results fn a.tmps).run P w=.ok V w∧lM G h (oneOf vs) V:=by
 have key:∀(l:List ResultVar) (vs:List kM),l.mapM (BK P ρ h)=some vs→∃Vs:List Value,(l.mapM (fun x:ResultVar=>match x with | .tmp t=>(pure (a.tmps.getD t undef):Sem Value) | .cell b t=>do loadVar t (←asAddr (a.tmps.getD b undef)))).run P w=.ok Vs w ∧
   vs.length=Vs.length∧∀(j:Nat) (v:kM),vs[j]?=some v→lM G h v (Vs.getD j undef):=by
  intro l
  induction l with
  | nil=>intro vs hv; simp at hv; subst hv; exact⟨[],by simp [Sem.run_pure],rfl,by simp⟩
  | cons x l ih =>
   intro vs hv
   simp only [List.mapM_cons,Option.bind_eq_bind,aa2] at hv
   obtain⟨v,hv1,us,hus,hv⟩:=hv
   simp only [Option.pure_def,ab0] at hv; subst hv
   obtain⟨V,h1,h2⟩:=Pe hv1 i s
   obtain⟨Vs,h3,h4,h5⟩:=ih us hus
   refine⟨V::Vs,?_,by simp [h4],fun j u hu=>?_⟩
   ·simp only [List.mapM_cons,Sem.run_bind,h1,Result.andThen_ok,h3,Sem.run_pure]
   ·cases j with
    | zero=>simp at hu; subst hu; exact h2
    | succ j=>simpa using h5 j u (by simpa using hu)
 obtain⟨Vs,h1,h2,h3⟩:=key _ _ hb
 have h4:(fn.results.mapM (fun x:ResultVar=>match x with | .tmp t=>(pure (a.tmps.getD t undef):Sem Value) | .cell b t=>do loadVar t (←asAddr (a.tmps.getD b undef)))).run P w=.ok Vs.toArray w:=by
  rw [Array.mapM_eq_mapM_toList,map_eq_pure_bind]
  simp only [Sem.run_bind,h1,Result.andThen_ok,Sem.run_pure]
 refine⟨if h:Vs.toArray.size=1 then Vs.toArray[0] else .tuple Vs.toArray,?_,?_⟩
 ·have e:results fn a.tmps=(fn.results.mapM (fun x:ResultVar=>match x with | .tmp t=>(pure (a.tmps.getD t undef):Sem Value) | .cell b t=>do loadVar t (←asAddr (a.tmps.getD b undef)))).bind fun vs=>(pure (if h:vs.size=1 then vs[0] else .tuple vs):Sem Value):=rfl
  rw [e]
  show(Bind.bind _ _:Sem Value).run P w=_
  rw [Sem.run_bind,h4,Result.andThen_ok,Sem.run_pure]
 ·match vs,Vs,h2,h3 with
  | [v],[V],_,h3=>simpa [oneOf] using h3 0 v rfl
  | [],[],_,_=>exact lM.undef
  | u::v::vs,U::V::Vs,h2,h3 =>
   have:oneOf (u::v::vs)=.tuple (u::v::vs):=rfl
   rw [this]
   simp only [List.size_toArray,ac8,Nat.add_eq_right,Nat.add_one_ne_zero,reduceDIte]
   refine .tuple _ _ (by simpa using h2) fun j x hx=>?_
   have:=h3 j x hx
   rw [af6] at this
   rwa [ab2,List.getElem?_toArray]
  | [],_::_,h2,_=>simp at h2
  | _::_,[],h2,_=>simp at h2
  | [_],_::_::_,h2,_=>simp at h2
  | _::_::_,[_],h2,_=>simp at h2
end
end
end Hk
