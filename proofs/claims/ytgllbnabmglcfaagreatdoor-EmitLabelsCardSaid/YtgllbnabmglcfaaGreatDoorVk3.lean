/-
  The texts Vk.Sub, Vk.Fn, Vk.Lim, Vk.Front, Vk.Simp, Vk.Simp2, one behind another. No conditions.
-/
import Derived.Test.YtgllbnabmglcfaaGreatDoorVk2
import Derived.OpenShut
import Derived.WideKeyArgs
set_option linter.unusedVariables false
set_option linter.unusedSimpArgs false
set_option linter.all false
open Array renaming getD_eq_getD_getElem? → aj5
open Bool renaming and_eq_true → aq1
open List renaming all_eq_true → aq5, getD → ac5, getD_eq_getElem?_getD → ah6, getElem?_append_left → aq3, getElem?_append_right → ak0, getElem?_eq_getElem → ag8, getElem?_eq_some_iff → ag0, getElem?_map → ak4, length_map → au7, mem_of_getElem? → aj8
open Nat renaming le_refl → ak5
open Option renaming bind_eq_some_iff → ac6, bind_some → ak6, map_eq_some_iff → ah7
open Option.some renaming injEq → ah5
namespace Hk
section
open Go Go.RowKit
def sameShape:mT→mT→Prop
 | .free,.free=>True
 | .gone,.gone=>True
 | .cells _,.cells _=>True
 | .front n sz t,.front n' sz' t'=>n=n'∧sz=sz'∧t=t'
 | .vec _ _ _,.vec _ _ _=>True
 | .map _,.map _=>True
 | .tcells t _,.tcells t' _=>t'=t
 | _,_=>False
theorem v7 {f:Nat→Nat}(b:mT):sameShape b (b.vH f):=by cases b <;> simp [sameShape,mT.vH]
structure Bm (G:Gh) (h:lT) (G2:Gh) (h2:lT) (f:Nat→Nat) (p:Nat→Bool):Prop where
 hmono:∀b k v,G.H b k=some v→G2.H b k=some v
 nY:∀id b,p id=true→h[id]?=some b→∃b2,h2[f id]?=some b2∧sameShape b b2
 pl:∀id,p id=true→G2.nY (f id)=G.nY id
 cur:∀id,p id=true→G2.cur (f id)=G.cur id
section
variable {G G2:Gh}{h h2:lT}{f:Nat→Nat}{p:Nat→Bool}
theorem Bm.live (m:Bm G h G2 h2 f p) {id:Nat}(hp:p id=true) (hl:live h id):live h2 (f id):=by
 obtain⟨b,h1,hn⟩:=hl
 obtain⟨b2,h3,h4⟩:=m.nY id b hp h1
 exact⟨b2,h3,by cases b <;> cases b2 <;> simp_all [sameShape]⟩
theorem Bm.nf (m:Bm G h G2 h2 f p) {id:Nat}(hp:p id=true) (hl:tH h id):tH h2 (f id):=by
 obtain⟨b,h1,hn,hf⟩:=hl
 obtain⟨b2,h3,h4⟩:=m.nY id b hp h1
 exact⟨b2,h3,by cases b <;> cases b2 <;> simp_all [sameShape],by cases b <;> cases b2 <;> simp_all [sameShape]⟩
theorem x9 (m:Bm G h G2 h2 f p) {v:lS}{V:Value}(r:mJ G h v V) (hok:v.JV p=true):mJ G2 h2 (v.Ak f) V:=by
 cases r with
 | p v V hp =>
  have e:v.Ak f=v:=by cases hp <;> rfl
  rw [e];exact .p _ _ (hp.mono m.hmono)
 | agg cs C hl hh=>cases hok
 | tuple cs C hl hh=>cases hok
 | nil=>exact .nil
 | own rows id n sz V hp hf hn hr hc =>
  have hq:p id=true:=hok
  obtain⟨b2,h3,h4⟩:=m.nY id _ hq hf
  cases b2 <;> simp only [sameShape] at h4
  obtain⟨rfl,rfl,rfl⟩:=h4
  exact .own rows (f id) n sz V (hp.mono m.hmono) h3 hn hr fun e=>by rw [m.cur id hq];exact hc e
 | ownv id V hp hb=>exact .ownv (f id) V (hp.mono m.hmono) (m.nf hok hb)
 | vslice id tot off len sz b cap hl ht hc hv =>
  have hq:p id=true:=hok
  refine .vslice (f id) tot off len sz b cap (m.nf hq hl) ?_ hc ?_
  ·rw [m.cur id hq];exact ht
  ·rw [m.cur id hq];exact hv
 | vptr id tot off b hl ht hv =>
  have hq:p id=true:=hok
  refine .vptr (f id) tot off b (m.nf hq hl) ?_ ?_
  ·rw [m.cur id hq];exact ht
  ·rw [m.cur id hq];exact hv
 | ptr id off hl =>
  have hq:p id=true:=hok
  rw [←m.pl id hq];exact .ptr (f id) off (m.live hq hl)
 | mslice id off len sz cap hl hc =>
  have hq:p id=true:=hok
  rw [←m.pl id hq];exact .mslice (f id) off len sz cap (m.live hq hl) hc
 | mslice0 id off sz cap a=>exact .mslice0 (f id) off sz cap a
 | map id hl =>
  have hq:p id=true:=hok
  rw [←m.pl id hq];exact .map (f id) (m.live hq hl)
 | func g first cap F C hlf hlc hf hc =>
  simp only [lS.JV,aq1,List.isEmpty_iff] at hok
  obtain⟨rfl,rfl⟩:=hok
  exact .func g [] [] F C hlf hlc (fun i v hv=>by simp at hv) (fun i v hv=>by simp at hv)
 | iface t v V hh=>cases hok
theorem Cq (m:Bm G h G2 h2 f p) {v:lS}{V:Value}(r:mJ G h v V) (hok:v.ok p=true):mJ G2 h2 (v.vH f) V:=by
 have agg:∀(cs:List lS) (V:Value),cs.all (lS.JV p)=true→mJ G h (.agg cs) V→mJ G2 h2 (.agg (cs.map (lS.Ak f))) V:=by
  intro cs V hk hx
  obtain⟨C,rfl,hl,hr⟩:=hx.tB
  refine .agg _ _ (by simpa using hl) fun i u hu=>?_
  simp only [ak4,ah7] at hu
  obtain⟨a,ha,rfl⟩:=hu
  exact x9 m (hr i a ha) (aq5.1 hk a (aj8 ha))
 cases v with
 | agg cs=>exact agg cs V hok r
 | tuple vs =>
  obtain⟨C,rfl,hl,hr⟩:=r.Aq
  simp only [lS.ok,aq5] at hok
  refine .tuple _ _ (by simpa using hl) fun i u hu=>?_
  simp only [ak4,ah7] at hu
  obtain⟨a,ha,rfl⟩:=hu
  have h1:=hr i a ha
  have h2:=hok a (aj8 ha)
  cases a <;> first | exact agg _ _ h2 h1 | exact x9 m h1 h2
 | _=>exact x9 m r hok
theorem BT {v:lS}(h:v.mZ=true):(v.Ak f).mZ=true:=by
 cases v <;> first | exact h | rfl | skip
 rename_i rows t
 cases t <;> rfl
theorem wU.vH {w:World}{id j:Nat}{b:mT}(m:Bm G h G2 h2 f p) (hH:G2.H=G.H) (hb:G2.nY j=G.nY id) (hc:G2.cur j=G.cur id) (hok:b.ok p=true)
  (hk:wU G h w id b):wU G2 h2 w j (b.vH f):=by
 cases b with
 | free=>trivial
 | gone=>trivial
 | cells cs =>
  obtain⟨C,e,h1,h2',h3,h4⟩:=hk
  refine⟨C,e,by rw [hb];exact h1,by rw [au7];exact h2',by rw [hb,hH];exact h3,fun i v hv=>?_⟩
  rw [ak4] at hv
  obtain⟨u,hu,rfl⟩:=ah7.1 hv
  exact⟨BT (h4 i u hu).1,x9 m (h4 i u hu).2 (aq5.1 hok u (aj8 hu))⟩
 | tcells t cs =>
  obtain⟨C,h1,h2',h3,h4⟩:=hk
  refine⟨C,by rw [hb];exact h1,by rw [au7];exact h2',by rw [hb,hH];exact h3,fun i v hv=>?_⟩
  rw [ak4] at hv
  obtain⟨u,hu,rfl⟩:=ah7.1 hv
  exact⟨BT (h4 i u hu).1,x9 m (h4 i u hu).2 (aq5.1 hok u (aj8 hu))⟩
 | front n sz t =>
  show wU G2 h2 w j (.front n sz t)
  simp only [wU] at hk ⊢
  rw [hc,hH];exact hk
 | vec tot sz cs =>
  obtain⟨b,cap,C,e,h1,h2',h3,h4,h5,h6,h7,h8,h9⟩:=hk
  refine⟨b,cap,C,e,by rw [hc];exact h1,h2',h3,h4,h5,h6,by rw [au7];exact h7,by rw [hH];exact h8,fun i v hv=>?_⟩
  rw [ak4] at hv
  obtain⟨u,hu,rfl⟩:=ah7.1 hv
  exact⟨BT (h9 i u hu).1,x9 m (h9 i u hu).2 (aq5.1 hok u (aj8 hu))⟩
 | map es =>
  obtain⟨E,c,h1,h2',h3,h4,h5⟩:=hk
  refine⟨E,c,by rw [hb];exact h1,by rw [au7];exact h2',by rw [hb,hH];exact h3,fun i kv hv=>?_,h5⟩
  rw [ak4] at hv
  obtain⟨u,hu,rfl⟩:=ah7.1 hv
  obtain⟨mm,a1,a2,a3,a4⟩:=h4 i u hu
  have hok':(es.all fun e=>e.2.JV p)=true:=hok
  exact⟨mm,a1,a2,by rw [hH];exact a3,x9 m a4 (aq5.1 hok' u (aj8 hu))⟩
theorem AJ {id j:Nat}{b:mT}(hb:G2.nY j=G.nY id) (hc:G2.cur j=G.cur id):nR G2 j (b.vH f)=nR G id b:=by
 cases b <;> simp [mT.vH,nR,hb,hc]
end
theorem uN:∀{l:List Nat}{i:Nat},i∈l→l[AF l i]?=some i
 | [],i,h=>by simp at h
 | a::r,i,h=>by
  unfold AF
  cases hab:a == i with
  | true =>
   have:a=i:=by simpa using hab
   subst this;rfl
  | false =>
   have hne:a≠i:=by simpa using hab
   have hm:i∈r:=by
    rcases List.mem_cons.1 h with h | h
    ·exact absurd h.symm hne
    ·exact h
   simp only [cond_false,List.getElem?_cons_succ]
   exact uN hm
theorem tR:∀{l:List Nat},tG l=true→∀{i j a:Nat},l[i]?=some a→l[j]?=some a→i=j
 | [],_,i,j,a,h,_=>by simp at h
 | b::r,hd,i,j,a,hi,hj=>by
  simp only [tG,aq1,Bool.not_eq_true'] at hd
  have hnb:∀k,r[k]?=some b→False:=fun k hk=>by
   have:=aj8 hk
   have h1:r.contains b=true:=by simpa using this
   rw [hd.1] at h1;cases h1
  cases i with
  | zero =>
   cases j with
   | zero=>rfl
   | succ j=>simp at hi hj;subst hi;exact(hnb j hj).elim
  | succ i =>
   cases j with
   | zero=>simp at hi hj;subst hj;exact(hnb i hi).elim
   | succ j=>have:=tR hd.2 (i:=i) (j:=j) (by simpa using hi) (by simpa using hj);omega
theorem BM:∀{is:List Nat}{bs:lT}{h:lT}{id:Nat},¬id∈is→(yO is bs h)[id]?=h[id]?
 | [],_,_,_,_=>rfl
 | i::is,[],_,_,_=>rfl
 | i::is,b::bs,h,id,hn=>by
  rw [yO,BM (fun hm=>hn (by simp [hm])),List.getElem?_set_ne (fun e=>hn (by simp [e]))]
theorem I0:∀{is:List Nat}{bs:lT}{h:lT}{j id:Nat}{b:mT},tG is=true→is[j]?=some id→bs[j]?=some b→id<h.length→(yO is bs h)[id]?=some b
 | [],_,_,_,_,_,_,h,_,_=>by simp at h
 | i::is,[],_,_,_,_,_,_,h,_=>by simp at h
 | i::is,c::bs,h,j,id,b,hd,hi,hb,hl=>by
  simp only [tG,aq1,Bool.not_eq_true'] at hd
  rw [yO]
  cases j with
  | zero =>
   simp at hi hb;subst hi;subst hb
   rw [BM (fun hm=>by
    have h1:is.contains i=true:=by simpa using hm
    rw [hd.1] at h1;cases h1)]
   simp [hl]
  | succ j=>exact I0 hd.2 (by simpa using hi) (by simpa using hb) (by simpa using hl)
theorem Oz:∀{r acc:List Nat},∃l,LW acc r=acc++l
 | [],acc=>⟨[],by simp [LW]⟩
 | i::r,acc=>by
  obtain⟨l,hl⟩:=Oz (r:=r) (acc:=bif acc.contains i then acc else acc++[i])
  rw [LW,hl]
  cases acc.contains i with
  | true=>exact⟨l,rfl⟩
  | false=>exact⟨i::l,by simp⟩
theorem QR {G G':Gh}{h h' h2:lT}{w w':World}{v:lS}{V:Value}{r:nT}(hb:De h.length v h'=some (r,h2)) (x:Ext G h w G' h' w') (i:Inv G' h' w') (hv:mJ G' h' v V) :
  sH G h w r h2 (.returned V) w':=by
 unfold De at hb
 obtain⟨rest,hids⟩:=Oz (r:=reach h' [v]) (acc:=List.range h.length)
 have hids:IV h.length v h'=List.range h.length++rest:=hids
 generalize IV h.length v h'=ids at *
 unfold Xh at hb
 cases ho:v.ok (fun i=>ids.contains i)&&Um ids h' with
 | false=>rw [ho] at hb;cases hb
 | true =>
  rw [ho] at hb
  simp only [cond_true,ah5,Prod.mk.injEq] at hb
  obtain⟨rfl,rfl⟩:=hb
  simp only [Um,aq1,aq5] at ho
  obtain⟨hvok,hdis,hiok⟩:=ho
  have hmem:∀{id:Nat},ids.contains id=true↔id∈ids:=by intro id;simp
  have hblk:∀id,id∈ids→∃b,h'[id]?=some b∧b.ok (fun i=>ids.contains i)=true:=by
   intro id hid
   have:=hiok id hid
   cases hg:h'[id]? with
   | none=>rw [hg] at this;cases this
   | some b=>rw [hg] at this;exact⟨b,rfl,this⟩
  let Gs:Gh:={ H:=G'.H,nY:=fun j=>G'.nY (ids.getD j 0),cur:=fun j=>G'.cur (ids.getD j 0) }
  have getj:∀{j id:Nat},ids[j]?=some id→ids.getD j 0=id:=fun hj=>by rw [ah6,hj];rfl
  have sg:∀{j id:Nat}{b:mT},ids[j]?=some id→h'[id]?=some b→(yI ids h')[j]?=some (b.vH (AF ids)):=by
   intro j id b hj hbb
   unfold yI
   rw [ak4,hj]
   simp [ah6,hbb]
  have m1:Bm G' h' Gs (yI ids h') (AF ids) (fun i=>ids.contains i):=⟨fun _ _ _ h=>h,fun id b hp hbb=>⟨_,sg (uN (hmem.1 hp)) hbb,v7 b⟩,
   fun id hp=>by show G'.nY _=_;rw [getj (uN (hmem.1 hp))],fun id hp=>by show G'.cur _=_;rw [getj (uN (hmem.1 hp))]⟩
  have sinv:∀{j:Nat}{bl:mT},(yI ids h')[j]?=some bl→∃id b,ids[j]?=some id∧h'[id]?=some b∧b.ok (fun i=>ids.contains i)=true∧bl=b.vH (AF ids):=by
   intro j bl hj
   have hj2:=hj
   unfold yI at hj
   rw [ak4] at hj
   obtain⟨id,hid,_⟩:=ah7.1 hj
   obtain⟨b,hb1,hb2⟩:=hblk id (aj8 hid)
   rw [sg hid hb1] at hj2
   exact⟨id,b,hid,hb1,hb2,(Option.some.inj hj2).symm⟩
  have sown:∀{j id:Nat},ids[j]?=some id→owner Gs (yI ids h') j=owner G' h' id:=by
   intro j id hj
   obtain⟨b,hb1,_⟩:=hblk id (aj8 hj)
   rw [oC (sg hj hb1),oC hb1]
   exact AJ (by show G'.nY _=_;rw [getj hj]) (by show G'.cur _=_;rw [getj hj])
  have sown2:∀{j b:Nat},owner Gs (yI ids h') j=some b→∃id,ids[j]?=some id∧owner G' h' id=some b:=by
   intro j b hj
   obtain⟨bl,hbl,_⟩:=pN hj
   obtain⟨id,b0,hid,_⟩:=sinv hbl
   exact⟨id,hid,by rw [←sown hid];exact hj⟩
  have low:∀{j:Nat},j<h.length→ids[j]?=some j:=fun hj=>by
   rw [hids,aq3 (by simpa using hj),List.getElem?_range hj]
  have is:Inv Gs (yI ids h') w':=⟨i.ok,fun j bl hj=>by
    obtain⟨id,b,hid,hb1,hb2,rfl⟩:=sinv hj
    exact(i.nY id b hb1).vH m1 rfl (by show G'.nY _=_;rw [getj hid]) (by show G'.cur _=_;rw [getj hid]) hb2,
   fun a c b ha hc=>by
    obtain⟨ia,h1,h2⟩:=sown2 ha
    obtain⟨ic,h3,h4⟩:=sown2 hc
    have:=i.inj ia ic b h2 h4
    subst this
    exact tR hdis h1 h3⟩
  refine⟨Gs,⟨x.os,x.tape,x.output,x.size,fun b hlt hno=>x.frame b hlt hno,x.hmono,fun j b hob hlt=>?_,fun id bl hbl=>?_⟩,is,V,rfl,Cq m1 hv hvok⟩
  ·obtain⟨id,hid,h1⟩:=sown2 hob
   have h2:=x.own id b h1 hlt
   obtain⟨bl,hbl,_⟩:=pN h2
   have hlt2:=(ag0.1 hbl).1
   have:j=id:=tR hdis hid (low hlt2)
   rw [this];exact h2
  ·have hlt:=(ag0.1 hbl).1
   obtain⟨bl',hb1,hk1⟩:=x.kinds id bl hbl
   refine⟨_,sg (low hlt) hb1,?_⟩
   have e1:Gs.nY id=G'.nY id:=by show G'.nY _=_;rw [getj (low hlt)]
   have e2:Gs.cur id=G'.cur id:=by show G'.cur _=_;rw [getj (low hlt)]
   cases bl <;> cases bl' <;> simp only [mT.vH,Kind,au7] at hk1 ⊢ <;> first | exact hk1.elim | (rw [e1,e2];exact hk1) | (rw [e1];exact hk1) | trivial
section
variable {P:Program}{A:xO}{K:mA}
theorem SQ {ids:List Nat}{f:Nat}{args:List lS}{h:lT}{r:nT}{h':lT}(hK:rA P A K) (hb:Zr K ids f args h=some (r,h')) {G:Gh}{w:World}{X:Array Value}(i:Inv G h w) (gl:qC A G h w) (hx:xP G h args X) :
  (∀w,(callFunc f X).run P w=.ok (.enter f X) w)∧Calls P f X w (sH G h w r h'):=by
 unfold Zr at hb
 cases ho:Lh ids args h with
 | false=>rw [ho] at hb;cases hb
 | true =>
  rw [ho] at hb
  simp only [cond_true] at hb
  obtain⟨⟨r1,h1⟩,hc,hb⟩:=ac6.1 hb
  unfold Hi at hb
  cases hk:h1.length == ids.length&&(h1.all (mT.ok fun j=>decide (j<ids.length))&&r1.ok fun j=>decide (j<ids.length)) with
  | false=>simp only [hk,cond_false] at hb;cases hb
  | true =>
  simp only [hk,cond_true,ah5,Prod.mk.injEq] at hb
  obtain⟨rfl,rfl⟩:=hb
  simp only [aq1,beq_iff_eq,aq5] at hk
  obtain⟨hlen,hbok,hrok⟩:=hk
  simp only [Lh,aq1,aq5] at ho
  obtain⟨haok,hdis,hiok⟩:=ho
  have hmem:∀{id:Nat},ids.contains id=true↔id∈ids:=by intro id;simp
  have hblk:∀id,id∈ids→∃b,h[id]?=some b∧b.ok (fun i=>ids.contains i)=true:=by
   intro id hid
   have:=hiok id hid
   cases hg:h[id]? with
   | none=>rw [hg] at this;cases this
   | some b=>rw [hg] at this;exact⟨b,rfl,this⟩
  let Gs:Gh:={ H:=G.H,nY:=fun j=>G.nY (ids.getD j 0),cur:=fun j=>G.cur (ids.getD j 0) }
  have getj:∀{j id:Nat},ids[j]?=some id→ids.getD j 0=id:=fun hj=>by rw [ah6,hj];rfl
  have sg:∀{j id:Nat}{b:mT},ids[j]?=some id→h[id]?=some b→(yI ids h)[j]?=some (b.vH (AF ids)):=by
   intro j id b hj hbb
   unfold yI
   rw [ak4,hj]
   simp [ah6,hbb]
  have m1:Bm G h Gs (yI ids h) (AF ids) (fun i=>ids.contains i):=⟨fun _ _ _ h=>h,fun id b hp hbb=>⟨_,sg (uN (hmem.1 hp)) hbb,v7 b⟩,
   fun id hp=>by show G.nY _=_;rw [getj (uN (hmem.1 hp))],fun id hp=>by show G.cur _=_;rw [getj (uN (hmem.1 hp))]⟩
  have sinv:∀{j:Nat}{bl:mT},(yI ids h)[j]?=some bl→∃id b,ids[j]?=some id∧h[id]?=some b∧b.ok (fun i=>ids.contains i)=true∧bl=b.vH (AF ids):=by
   intro j bl hj
   have hj2:=hj
   unfold yI at hj
   rw [ak4] at hj
   obtain⟨id,hid,_⟩:=ah7.1 hj
   obtain⟨b,hb1,hb2⟩:=hblk id (aj8 hid)
   rw [sg hid hb1] at hj2
   exact⟨id,b,hid,hb1,hb2,(Option.some.inj hj2).symm⟩
  have sown:∀{j id:Nat},ids[j]?=some id→owner Gs (yI ids h) j=owner G h id:=by
   intro j id hj
   obtain⟨b,hb1,_⟩:=hblk id (aj8 hj)
   rw [oC (sg hj hb1),oC hb1]
   exact AJ (by show G.nY _=_;rw [getj hj]) (by show G.cur _=_;rw [getj hj])
  have sown2:∀{j b:Nat},owner Gs (yI ids h) j=some b→∃id,ids[j]?=some id∧owner G h id=some b:=by
   intro j b hj
   obtain⟨bl,hbl,_⟩:=pN hj
   obtain⟨id,b0,hid,_⟩:=sinv hbl
   exact⟨id,hid,by rw [←sown hid];exact hj⟩
  have is:Inv Gs (yI ids h) w:=⟨i.ok,fun j bl hj=>by
    obtain⟨id,b,hid,hb1,hb2,rfl⟩:=sinv hj
    exact(i.nY id b hb1).vH m1 rfl (by show G.nY _=_;rw [getj hid]) (by show G.cur _=_;rw [getj hid]) hb2,
   fun a c b ha hc=>by
    obtain⟨ia,h1,h2⟩:=sown2 ha
    obtain⟨ic,h3,h4⟩:=sown2 hc
    have:=i.inj ia ic b h2 h4
    subst this
    exact tR hdis h1 h3⟩
  have hxs:xP Gs (yI ids h) (args.map (lS.vH (AF ids))) X:=⟨by rw [au7];exact hx.1,fun j u hu=>by
   rw [ak4] at hu
   obtain⟨v,hv,rfl⟩:=ah7.1 hu
   exact Cq m1 (hx.2 j v hv) (haok v (aj8 hv))⟩
  obtain⟨e1,e2⟩:=hK f _ _ _ _ hc Gs w X is (gl.sub rfl fun j b ho=>by obtain⟨id,_,h2⟩:=sown2 ho;exact⟨id,h2⟩) hxs
  refine⟨e1,Calls.mono e2 fun e w' hpost=>?_⟩
  obtain⟨Ge,x,ie,hpost⟩:=hpost
  let G2:Gh:={ H:=Ge.H,nY:=fun id=>if id∈ids then Ge.nY (AF ids id) else G.nY id,cur:=fun id=>if id∈ids then Ge.cur (AF ids id) else G.cur id }
  have idj:∀{j id:Nat},ids[j]?=some id→AF ids id=j:=fun hj=>tR hdis (uN (aj8 hj)) hj
  have b1:∀{j id:Nat},ids[j]?=some id→G2.nY id=Ge.nY j:=fun hj=>by
   show(if _ then _ else _)=_
   rw [if_pos (aj8 hj),idj hj]
  have c1:∀{j id:Nat},ids[j]?=some id→G2.cur id=Ge.cur j:=fun hj=>by
   show(if _ then _ else _)=_
   rw [if_pos (aj8 hj),idj hj]
  have b2:∀{id:Nat},¬id∈ids→G2.nY id=G.nY id:=fun hn=>if_neg hn
  have c2:∀{id:Nat},¬id∈ids→G2.cur id=G.cur id:=fun hn=>if_neg hn
  let back:Nat→Nat:=fun j=>ids.getD j 0
  let hN:lT:=yO ids (h1.map (mT.vH back)) h
  have gin:∀{j id:Nat}{b:mT},ids[j]?=some id→h1[j]?=some b→hN[id]?=some (b.vH back):=by
   intro j id b hj hbj
   obtain⟨b0,hb0,_⟩:=hblk id (aj8 hj)
   exact I0 hdis hj (by rw [ak4,hbj];rfl) (ag0.1 hb0).1
  have gout:∀{id:Nat},¬id∈ids→hN[id]?=h[id]?:=fun hn=>BM hn
  have hjl:∀{j id:Nat},ids[j]?=some id→∃b,h1[j]?=some b:=fun hj=>⟨_,ag8 (by rw [hlen];exact(ag0.1 hj).1)⟩
  have m2:Bm Ge h1 G2 hN back (fun j=>decide (j<ids.length)):=by
   have gt:∀{j:Nat},decide (j<ids.length)=true→ids[j]?=some (back j):=fun {j} hp=>by
    have hlt:j<ids.length:=by simpa using hp
    show _=some (ids.getD j 0)
    rw [ah6,ag8 hlt];rfl
   exact⟨fun _ _ _ h=>h,fun j b hp hbj=>⟨_,gin (gt hp) hbj,v7 b⟩,fun j hp=>b1 (gt hp),fun j hp=>c1 (gt hp)⟩
  have own2:∀{id b:Nat},owner G2 hN id=some b→(∃j,ids[j]?=some id∧owner Ge h1 j=some b)∨(¬id∈ids∧owner G h id=some b):=by
   intro id b hob
   by_cases hid:id∈ids
   ·obtain⟨j,hj⟩:=List.getElem?_of_mem hid
    obtain⟨bl,hbl⟩:=hjl hj
    refine .inl ⟨j,hj,?_⟩
    rw [oC (gin hj hbl)] at hob
    rw [oC hbl,←hob]
    exact(AJ (b1 hj) (c1 hj)).symm
   ·refine .inr ⟨hid,?_⟩
    obtain⟨bl,hbl,ho2⟩:=pN hob
    rw [gout hid] at hbl
    rw [oC hbl,←ho2]
    cases bl <;> simp [nR,b2 hid,c2 hid]
  have xo:∀{id:Nat}{b:Nat},¬id∈ids→owner G h id=some b→w'.heap[b]?=w.heap[b]?∧∀k,Ge.H b k=G.H b k:=by
   intro id b hn hob
   obtain⟨bl,hbl,hob2⟩:=pN hob
   refine x.frame b ((i.nY id bl hbl).lt hob2) fun j hj=>?_
   obtain⟨id2,hj2,ho3⟩:=sown2 hj
   have:=i.inj id id2 b hob ho3
   subst this
   exact hn (aj8 hj2)
  have ownS:∀{id b:Nat},owner G2 hN id=some b→b<w.heap.size→owner G h id=some b:=by
   intro id b hob hlt
   rcases own2 hob with ⟨j,hj,h2⟩ | ⟨_,h2⟩
   ·obtain⟨id2,hj2,h3⟩:=sown2 (x.own j b h2 hlt)
    rw [hj] at hj2;cases hj2;exact h3
   ·exact h2
  have kinds:∀id bl,h[id]?=some bl→∃bl',hN[id]?=some bl'∧Kind G G2 id bl bl':=by
   intro id bl hbl
   by_cases hid:id∈ids
   ·obtain⟨j,hj⟩:=List.getElem?_of_mem hid
    obtain⟨bl',hb1,hk1⟩:=x.kinds j _ (sg hj hbl)
    refine⟨_,gin hj hb1,?_⟩
    have e1:Gs.nY j=G.nY id:=by show G.nY _=_;rw [getj hj]
    have e2:Gs.cur j=G.cur id:=by show G.cur _=_;rw [getj hj]
    cases bl <;> cases bl' <;> simp only [mT.vH,Kind,e1,e2,au7] at hk1 ⊢ <;> first | exact hk1.elim | (rw [b1 hj,c1 hj];exact hk1) | (rw [b1 hj];exact hk1) | trivial
   ·refine⟨bl,by rw [gout hid];exact hbl,?_⟩
    cases bl <;> simp [Kind,b2 hid,c2 hid]
  have ext:Ext G h w G2 hN w':=⟨x.os,x.tape,x.output,x.size,fun b hlt hno=>x.frame b hlt fun j hj=>by
    obtain⟨id,_,ho3⟩:=sown2 hj
    exact hno id ho3,x.hmono,fun id b hob hlt=>ownS hob hlt,kinds⟩
  refine⟨G2,ext,⟨ie.ok,fun id bl hbl=>?_,fun a c b ha hc=>?_⟩,?_⟩
  ·by_cases hid:id∈ids
   ·obtain⟨j,hj⟩:=List.getElem?_of_mem hid
    obtain⟨b0,hb0⟩:=hjl hj
    have:=gin hj hb0
    have hbl':hN[id]?=some bl:=hbl
    rw [this] at hbl'
    cases hbl'
    exact(ie.nY j b0 hb0).vH m2 rfl (b1 hj) (c1 hj) (hbok b0 (aj8 hb0))
   ·have hbl':h[id]?=some bl:=by rw [←gout hid];exact hbl
    exact(i.nY id bl hbl').IF ext.toMono (b2 hid) (c2 hid) fun b hob=>xo hid (by rw [oC hbl'];exact hob)
  ·rcases own2 ha with ⟨ja,hja,h2⟩ | ⟨hna,h2⟩
   ·rcases own2 hc with ⟨jc,hjc,h3⟩ | ⟨hnc,h3⟩
    ·have:=ie.inj ja jc b h2 h3
     subst this
     rw [hja] at hjc;exact Option.some.inj hjc
    ·obtain⟨bl,hbl,hob⟩:=pN h3
     have:=ownS ha ((i.nY c bl hbl).lt hob)
     exact i.inj a c b this h3
   ·rcases own2 hc with ⟨jc,hjc,h3⟩ | ⟨hnc,h3⟩
    ·obtain⟨bl,hbl,hob⟩:=pN h2
     have:=ownS hc ((i.nY a bl hbl).lt hob)
     exact i.inj a c b h2 this
    ·exact i.inj a c b h2 h3
  ·cases r1 with
   | ret v=>obtain⟨V,he,hV⟩:=hpost;exact⟨V,he,Cq m2 hV hrok⟩
   | pan v=>obtain⟨V,he,hV⟩:=hpost;exact⟨V,he,Cq m2 hV hrok⟩
end
end
section
open Go Go.RowKit
section
variable {P:Program}{A:xO}{K:mA}{lp:V_}{G:Gh}{h:lT}{w:World}
theorem D3 {f:Nat}{v:lS}{V:Value}{r:nT}{h' h2:lT}{G':Gh}{w':World}(hb:finish A f h.length v h'=some (r,h2)) (x:Ext G h w G' h' w') (i:Inv G' h' w') (hv:mJ G' h' v V) :
  sH G h w r h2 (.returned V) w':=by
 unfold finish at hb
 cases he:A.esc f with
 | true =>
  rw [he] at hb;cases hb
  exact⟨G',x,i,V,rfl,hv⟩
 | false =>
  rw [he] at hb
  simp only [cond_false] at hb
  cases hg:A.grow f with
  | true =>
   rw [hg] at hb
   simp only [cond_true,au3,ah7] at hb
   obtain⟨h3,ht,hb⟩:=hb
   obtain⟨G3,i3,x3,_,hrel,_⟩:=wF x i ht
   cases hb
   exact⟨G3,x3,i3,V,rfl,hrel _ _ hv⟩
  | false =>
   rw [hg] at hb
   cases hz:A.frr f with
   | true =>
    rw [hz] at hb
    simp only [cond_true,cond_false,au2] at hb
    obtain⟨y,hy,hb⟩:=ac6.1 hb
    obtain⟨G1,i1,x1,r1⟩:=zE i hy hv
    simp only [nZ,ah7] at hb
    obtain⟨h3,ht,hb⟩:=hb
    obtain⟨G3,i3,x3,_,hrel,_⟩:=wF (x.trans x1) i1 ht
    cases hb
    exact⟨G3,x3,i3,V,rfl,Au (hrel _ _ r1)⟩
   | false =>
   rw [hz] at hb
   cases hout:A.out f with
   | true =>
    rw [hout] at hb
    simp only [cond_true,cond_false] at hb
    exact QR hb x i hv
   | false =>
    rw [hout] at hb
    simp only [cond_false,nZ,ah7] at hb
    obtain⟨h3,ht,hb⟩:=hb
    obtain⟨G3,i3,x3,_,hrel,_⟩:=wF x i ht
    cases hb
    exact⟨G3,x3,i3,V,rfl,Au (hrel _ _ hv)⟩
theorem vT {ρ:List lS}{x:nT×lT}:∀{l:List ResultVar}{k:List lS→Option (nT×lT)},wA P ρ h l k=some x→∃vs,l.mapM (w6 P ρ h)=some vs∧k vs=some x
 | [],k,hb=>⟨[],rfl,hb⟩
 | .tmp t::l,k,hb=>by
  obtain⟨vs,h1,h2⟩:=vT (l:=l) hb
  exact⟨ρ.getD t .junk::vs,by simp [List.mapM_cons,w6,h1],h2⟩
 | .cell a t::l,k,hb=>by
  simp only [wA] at hb
  split at hb
  ·rename_i g n hg hn
   obtain⟨v,hv,hb⟩:=ac6.1 hb
   obtain⟨vs,h1,h2⟩:=vT (l:=l) hb
   exact⟨v::vs,by simp only [ah6] at hv;simp [List.mapM_cons,w6,hg,hn,hv,h1],h2⟩
  ·cases hb
theorem aiN (G:Gh) (h:lT) (w:World) (r:nT) (h':lT):∀w',¬sH G h w r h' .outgrown w':=by
 rintro w' ⟨G',_,_,hq⟩
 cases r with
 | ret v=>obtain⟨_,hq,_⟩:=hq;cases hq
 | pan v=>obtain⟨_,hq,_⟩:=hq;cases hq
theorem Mn {f:Nat}{fn:Func}{c:Code}{args:List lS}{X:Array Value}{r:nT}{h':lT}(hm:P.follows .mixedOrders=true) (hX:tK P A) (hK:rA P A K) (hlp:LI lp)
  (hf:P.funcs[f]?=some fn) (hc:fn.body=some c) (hb:Mm P A K lp f fn c args h=some (r,h')) (i:Inv G h w) (gl:qC A G h w) (hx:xP G h args X) (hn:args.length≤fn.ntmps) :
  Calls P f X w (sH G h w r h'):=by
 unfold Mm at hb
 obtain⟨r0,hr0,hend⟩:=ac6.1 hb
 cases hd:A.dfr f with
 | true =>
  rw [hd] at hr0
  simp only [Bv] at hr0
  refine calls_of_wp_defers hf hc ?_
  refine Ki (aiN G h w r h') (cx:={ P,A,K,lp,n:=fn.ntmps,full:=2^fn.ntmps-1,pan:=false,vec:=A.agJ f,frz:=A.frz f,vlit:=A.Uu f,vmk:=A.vmk f,jt:=A.jt f,lkp:=A.lkp f,rb:=A.rb f,frl:=A.frl f,tb:=A.tb f,ck:=A.ck f }) hm hX hK hlp rfl c _ _ h r0 G w _ hr0 i gl (BS hx hn) (by simp;omega) ?_
  intro a' G' w' he x2 i2 s2
  have hend':wA P (unpack fn.ntmps (yR fn) r0.2.1) r0.2.2 fn.results.toList (fun vs=>finish A f h.length (oneOf vs) r0.2.2)=some (r,h'):=by
   unfold KG at hend
   rw [he] at hend
   cases hp:A.pan f <;> rw [hp] at hend <;> exact hend
  obtain⟨vs,hvs,hend'⟩:=vT hend'
  obtain⟨V,hV,hrel⟩:=zN hvs i2 s2
  exact⟨V,hV,D3 hend' x2 i2 hrel⟩
 | false =>
 rw [hd] at hr0
 simp only [Bv] at hr0
 refine calls_of_wp hf hc ?_
 refine u5 (cx:={ P,A,K,lp,n:=fn.ntmps,full:=2^fn.ntmps-1,pan:=A.pan f,vec:=A.agJ f,frz:=A.frz f,vlit:=A.Uu f,vmk:=A.vmk f,jt:=A.jt f,lkp:=A.lkp f,rb:=A.rb f,frl:=A.frl f,tb:=A.tb f,ck:=A.ck f }) hm hX hK hlp c _ _ h _ _ r0 G w _ _ (rS c) hr0 i gl (BS hx hn) (by simp;omega) ?_ (fun _ w' hq=>aiN G h w r h' w' hq)
 have ret:∀(e:Ex) (ρ':List lS) (h1:lT) (G':Gh) (w':World) (a':Act),(e=.normal∨e=.ret)→KG P A f fn h.length e (unpack fn.ntmps (yR fn) (pack (yR fn) ρ')) h1=some (r,h')→Ext G h w G' h1 w'→Inv G' h1 w'→o9 (fun a=>a.defers=[]) G' h1 ρ' a'→ρ'.length=fn.ntmps →
   a'.defers=[]∧∃v,(results fn a'.tmps).run P w'=.ok v w'∧sH G h w r h' (.returned v) w':=by
  intro e ρ' h1 G' w' a' he hend h3 h4 s hn'
  have s':=s.pack (L:=yR fn) hn'
  have hend':wA P (unpack fn.ntmps (yR fn) (pack (yR fn) ρ')) h1 fn.results.toList (fun vs=>finish A f h.length (oneOf vs) h1)=some (r,h'):=by
   unfold KG at hend
   cases hp:A.pan f <;> rw [hp] at hend <;> rcases he with rfl | rfl <;> exact hend
  obtain⟨vs,hvs,hend'⟩:=vT hend'
  obtain⟨V,hV,hrel⟩:=zN hvs h4 s'
  exact⟨s.df,V,hV,D3 hend' h3 h4 hrel⟩
 refine⟨fun ρ' h1 G' w' a' h2 h3 h4 h5 h6=>?_,fun e ρ' h1 G' w' a' h2 h3 h4 h5 h6=>?_,fun v ρ' h1 G' w' a' V h2 h3 h4 h5 h6=>?_⟩
 ·cases h2
  exact ret _ ρ' h1 G' w' a' (.inl rfl) hend h3 h4 h5 h6
 ·cases h2
  cases e with
  | ret=>exact ret _ ρ' h1 G' w' a' (.inr rfl) hend h3 h4 h5 h6
  | exit id=>unfold KG at hend;cases hp:A.pan f <;> rw [hp] at hend <;> cases hend
  | _=>trivial
 ·cases h2
  unfold KG at hend
  cases hp:A.pan f with
  | false=>rw [hp] at hend;cases hend
  | true =>
   rw [hp] at hend
   simp only [cond_true,Ex.QO] at hend
   cases hkp:A.kp f with
   | true =>
    rw [hkp] at hend
    simp only [cond_true] at hend
    cases hend
    exact⟨h6,G',h3,h4,V,rfl,h5⟩
   | false =>
   rw [hkp] at hend
   simp only [cond_false,acO,ah7] at hend
   obtain⟨h3',ht,hend⟩:=hend
   obtain⟨G3,i3,x3,_,hrel,_⟩:=wF h3 h4 ht
   cases hend
   exact⟨h6,G3,x3,i3,V,rfl,Au (hrel _ _ h5)⟩
theorem Da:∀{cs:List lS}{xs:List Int},F3 cs=some xs→cs=xs.map (.int .i64)
 | [],xs,hb=>by simp [F3] at hb;subst hb;rfl
 | v::r,xs,hb=>by
  unfold F3 at hb
  split at hb
  ·rename_i h0;cases h0
  ·rename_i n r' h0
   cases h0
   obtain⟨ys,h1,rfl⟩:=ah7.1 hb
   rw [Da h1];rfl
  ·cases hb
theorem OY {g':Nat}{cp:List lS}{F:Value}(hx:mJ G h (.func g' [] cp) F):∃C,F=.func (.func g') #[] C∧cp.length=C.size∧∀(i:Nat) (v:lS),cp[i]?=some v→mJ G h v (C.getD i undef):=by
 cases hx with
 | p _ _ hp=>cases hp;exact⟨#[],rfl,rfl,by simp⟩
 | func f first cap F C hlf hlc hf hc =>
  have:F=#[]:=by
   obtain⟨l⟩:=F;cases l with
   | nil=>rfl
   | cons a l=>simp at hlf
  subst this
  exact⟨C,rfl,hlc,hc⟩
theorem xM {key:Int→Int}{x y:Int}:q8 key x y=true↔(key x<key y∨(key x=key y∧x≤y)):=by
 unfold q8;simp
theorem KN {le:Int→Int→Bool}{x:Int}{l:List Int}:(oK le x l).Perm (x::l):=by
 induction l with
 | nil=>exact .refl _
 | cons y r ih =>
  unfold oK
  cases le x y with
  | true=>exact .refl _
  | false=>exact(List.Perm.cons y ih).trans (List.Perm.swap x y r)
theorem uG {le:Int→Int→Bool}{l:List Int}:(Al le l).Perm l:=by
 induction l with
 | nil=>exact .refl _
 | cons x r ih=>exact KN.trans (List.Perm.cons x ih)
theorem O4 {key:Int→Int}{x:Int}{l:List Int}(h:l.Pairwise fun a b=>q8 key a b=true):(oK (q8 key) x l).Pairwise fun a b=>q8 key a b=true:=by
 induction l with
 | nil=>simp [oK]
 | cons y r ih =>
  unfold oK
  rw [List.pairwise_cons] at h
  cases hxy:q8 key x y with
  | true =>
   simp only [cond_true]
   rw [List.pairwise_cons]
   refine⟨fun z hz=>?_,List.pairwise_cons.2 h⟩
   rcases List.mem_cons.1 hz with rfl | hz
   ·exact hxy
   ·have h1:=h.1 z hz
    rw [xM] at *
    omega
  | false =>
   simp only [cond_false]
   rw [List.pairwise_cons]
   refine⟨fun z hz=>?_,ih h.2⟩
   rcases List.mem_cons.1 (KN.mem_iff.1 hz) with rfl | hz
   ·have:¬q8 key z y=true:=by rw [hxy];decide
    rw [xM] at *
    omega
   ·exact h.1 z hz
theorem Ep {key:Int→Int}{l:List Int}:(Al (q8 key) l).Pairwise fun a b=>q8 key a b=true:=by
 induction l with
 | nil=>exact .nil
 | cons x r ih=>exact O4 ih
theorem Zo {key:Int→Int}{l:List Int}:Al (q8 key) l=l.mergeSort (q8 key):=by
 have h2:(l.mergeSort (q8 key)).Pairwise fun a b=>q8 key a b=true:=List.pairwise_mergeSort (fun a b c h1 h2=>by rw [xM] at *;omega) (fun a b=>by rw [Bool.or_eq_true,xM,xM];omega) l
 exact List.Perm.eq_of_pairwise (fun a b _ _ h1 h2=>by rw [xM] at *;omega) Ep h2 (uG.trans (List.mergeSort_perm _ _).symm)
theorem PR {f g:Nat}{args:List lS}{r:nT}{h':lT}{X:Array Value}(hS:Hw P f g) (hb:Gx g args h=some (r,h')) (i:Inv G h w) (hx:xP G h args X) :
  (∀w,(callFunc f X).run P w=.ok (.enter f X) w)∧Calls P f X w (sH G h w r h'):=by
 refine⟨fun w=>hS.1 X w,?_⟩
 unfold Gx at hb
 split at hb
 case h_3=>cases hb
 ·rename_i tok g' cp
  split at hb
  case isFalse=>cases hb
  rename_i hg
  subst hg
  cases hb
  obtain⟨C,hF,_⟩:=OY (hx.2 1 _ rfl)
  obtain⟨a,cap,hA⟩:∃a cap,X.getD 0 undef=.slice a 0 cap:=by
   have:=(hx.2 0 _ rfl).sA
   generalize X.getD 0 undef=V0 at this
   cases this with
   | slice0 a cap=>exact⟨a,cap,rfl⟩
   | slice rows b off cap sz V _ _ _ _ _=>exact⟨_,cap,rfl⟩
  have hXe:X=#[.slice a 0 cap,.func (.func g') #[] C]:=by
   obtain⟨l⟩:=X
   match l,hx.1,hA,hF with
   | [x,y],_,h0,h1=>simp at h0 h1;subst h0;subst h1;rfl
  rw [hXe]
  refine Calls.mono (hS.2.1 a cap #[] C w) fun e w' hp=>?_
  obtain⟨rfl,rfl⟩:=hp
  exact⟨G,Ext.refl G _ _,i,_,rfl,.p _ _ (.tuple [] #[] rfl (by simp))⟩
 ·rename_i id tot n g' pid po
  split at hb
  case h_2=>cases hb
  rename_i x cs hgv hpc
  split at hb
  case h_2=>cases hb
  rename_i rows tok xs hcs hxs
  split at hb
  case isFalse=>cases hb
  rename_i hcond
  obtain⟨rfl,hne,hx1,hn0,hnl,hnm,hrows,hkeys⟩:=hcond
  cases hb
  have hid:=rP hgv
  rw [hx1] at hid
  obtain⟨Cf,hF,hFl,hFc⟩:=OY (hx.2 1 _ rfl)
  obtain⟨b,cap,hA,hnf,htot,hlc,hv⟩:=(hx.2 0 _ rfl).qK
  obtain⟨b',cap',C,e0,g1,g2,g3,g4,g5,g6,g7,g8,g9⟩:=i.nY id _ hid
  obtain⟨l0,cap0,k1,k2,k3,k4⟩:=hv (by rw [g1];rfl)
  have hcur:=g1
  rw [g1] at k1
  simp only [Value.slice.injEq,ah5,Addr.mk.injEq] at k1
  obtain⟨⟨rfl,_⟩,_,rfl⟩:=k1
  have hP:=(hFc 0 _ rfl).xF
  obtain⟨Cp,ep,p1,p2,p3,p4⟩:=i.nY pid _ hpc
  have hXe:X=#[.slice (some ⟨b',0,none⟩) n cap,.func (.func g') #[] #[.pointer (some ⟨G.nY pid,po,none⟩)]]:=by
   have hCf:Cf=#[.pointer (some ⟨G.nY pid,po,none⟩)]:=by
    obtain⟨l⟩:=Cf
    match l,hFl,hP with
    | [x],_,h0=>simp at h0;rw [h0.1]
   subst hCf
   obtain⟨l⟩:=X
   match l,hx.1,hA,hF with
   | [x,y],_,h0,h1=>simp at h0 h1;subst h0;subst h1;rfl
  have hxl:xs.length=n:=by
   have:=congrArg List.length (Da hxs)
   simp at this;omega
  have hcell:∀(j:Nat) (m:Int),xs[j]?=some m→x.2[j]?=some (.int .i64 m):=by
   intro j m hj
   have h1:(x.2.take n)[j]?=some (.int .i64 m):=by rw [Da hxs,ak4,hj];rfl
   rw [List.getElem?_take] at h1
   split at h1
   ·exact h1
   ·cases h1
  have hne0:xs≠[]:=by intro h0;rw [h0] at hxl;simp at hxl;omega
  have hkey:∀y∈xs,0≤y∧∃row,rows[y.toNat]?=some row∧row[0]?=some (.int .i64 ((wP rows y).getD 0)):=by
   intro y hy
   have:=aq5.1 hkeys y hy
   unfold wP at this ⊢
   split at this
   ·rename_i h0
    rw [if_pos h0]
    split at this
    ·rename_i a r hr
     exact⟨h0,_,hr,rfl⟩
    ·cases this
   ·cases this
  have hsl:=(p4 po _ hcs).2.sA
  obtain⟨sb,so,cp,hVc,hrow⟩:∃sb so cp,Cp.getD po undef=.slice (some ⟨sb,so,none⟩) rows.length cp∧∀(y:Nat) (row:List lS) (v:Int),rows[y]?=some row→row[0]?=some (.int .i64 v)→G.H sb (so+y*2)=some (.int .i64 v):=by
   generalize hCv:Cp.getD po undef=Vc at hsl
   cases hsl with
   | slice0 a cap =>
    exfalso
    obtain⟨y,hy⟩:=List.exists_mem_of_ne_nil _ hne0
    obtain⟨_,row,h1,_⟩:=hkey y hy
    simp at h1
   | slice _ sb so cp sz V hr hc hH hk hV =>
    refine⟨sb,so,cp,rfl,fun y row v h1 h2=>?_⟩
    have hrl:=hr row (aj8 h1)
    have hr2:row.length=2:=by have:=aq5.1 hrows row (aj8 h1);simpa using this
    have h3:=hH y 0 row _ h1 h2
    have h4:=hV y 0 row _ h1 h2
    have h5:sz=2:=by omega
    subst h5
    rw [Nat.add_zero] at h3 h4
    generalize V (y*2)=Vy at h3 h4
    cases h4
    exact h3
  have hpb:G.nY pid≠b':=by
   intro he
   refine hne (i.inj pid id b' ?_ ?_)
   ·unfold owner;rw [hpc,he]
   ·unfold owner;rw [hid];show(G.cur id).ownBlock=_;rw [hcur];rfl
  have hsb:sb≠b':=by
   intro he
   obtain⟨y,hy⟩:=List.exists_mem_of_ne_nil _ hne0
   obtain⟨_,row,h1,h2⟩:=hkey y hy
   have:=hrow _ row _ h1 h2
   rw [he,g8] at this;cases this
  have hpcell:w.cell? ⟨G.nY pid,po,none⟩=some (.slice (some ⟨sb,so,none⟩) rows.length cp):=by
   rw [←hVc]
   have hpl:po<Cp.size:=by have:=(ag0.1 hcs).1;omega
   rw [cell_of w _ po p1,aj5,Array.getElem?_eq_getElem hpl];rfl
  have hlen1:x.2.length=tot:=by simpa using g7
  rw [hXe]
  have hS2:=hS.2.2 w b' cap C e0 xs (G.nY pid) po sb so rows.length cp (fun y=>(wP rows y).getD 0) g2 hne0 (by omega)
   (fun j m hj=>by
    have h1:=(g9 j _ (hcell j m hj)).2.qE
    have hjl:j<C.size:=by have:=(ag0.1 (hcell j m hj)).1;omega
    rw [aj5,Array.getElem?_eq_getElem hjl] at h1
    rw [Array.getElem?_eq_getElem hjl]
    simpa using h1)
   hpcell hpb hsb (fun y hy=>by
    obtain⟨h0,row,h1,h2⟩:=hkey y hy
    exact⟨h0,(ag0.1 h1).1,i.ok _ _ _ (hrow _ row _ h1 h2)⟩)
  rw [hxl] at hS2
  refine Calls.mono hS2 fun e w' hp=>?_
  obtain⟨rfl,q1,q2,q3,os,q4⟩:=hp
  rw [Zo]
  generalize hzs:xs.mergeSort (q8 fun y=>(wP rows y).getD 0)=zs at *
  have hzl:zs.length=n:=by rw [←hzs,List.length_mergeSort,hxl]
  have hw:=i.JU (off:=0) (vs:=zs.map (.int .i64)) (U:=zs.map (Value.int .i64)) hid hcur g2 (by simp;omega) (by simp) (fun j u hu=>by
   rw [ak4] at hu
   obtain⟨m,hm,rfl⟩:=ah7.1 hu
   refine⟨rfl,?_⟩
   rw [ah6,ak4,hm]
   exact .p _ _ (.int _ _))
  have hrw:(C.toList.take 0++zs.map (Value.int .i64)++C.toList.drop (0+(zs.map (Value.int .i64)).length)).toArray=(zs.map (Value.int .i64)++C.toList.drop n).toArray:=by simp [hzl]
  rw [hrw] at hw
  generalize hw1:w.setRow b' (zs.map (Value.int .i64)++C.toList.drop n).toArray=w1 at *
  have e1:w1.os=w.os:=by rw [←hw1];rfl
  have e2:w1.tape=w.tape:=by rw [←hw1];rfl
  have e3:w1.output=w.output:=by rw [←hw1];rfl
  have key:=hw.1.push (G':=G) (ext:=[]) (w':=w') (q1.trans e1.symm) (q2.trans e2.symm) (q3.trans e3.symm) (by rw [q4];simp) (fun k hk=>by rw [q4];exact Array.getElem?_append_left hk) (fun _ _=>rfl) (fun _ _=>rfl) (fun _ _ _ h=>h) (fun _ _ _=>rfl)
   (fun b k v hb hv=>by have:=hw.1.Bl (b:=b) (k:=k) (v:=v) hv;omega)
   (fun j bl hj=>by simp at hj) (fun j bl b hj=>by simp at hj) (fun j j' bl bl' b hj=>by simp at hj)
  rw [List.append_nil] at key
  exact⟨G,hw.2.trans key.2,key.1,_,rfl,.p _ _ (.tuple [] #[] rfl (by simp))⟩
theorem Pt {f:Nat}{k:aaQ}{args:List lS}{r:nT}{h':lT}{X:Array Value}(hP:agT P A f k) (hb:Y6 A.bld k args h=some (r,h')) (i:Inv G h w) (gl:qC A G h w) (hx:xP G h args X) :
  (∀w,(callFunc f X).run P w=.ok (.enter f X) w)∧Calls P f X w (sH G h w r h'):=by
 cases k with
 | fn g =>
  obtain⟨p1,p2⟩:=hP
  refine⟨fun w=>p1 X w,?_⟩
  simp only [Y6] at hb
  obtain⟨v,hv,hb⟩:=ah7.1 hb
  cases hb
  refine Calls.mono (p2 G h w args X v i gl hx.1 hx.2 hv) fun e w' hp=>?_
  obtain⟨⟨V,rfl,hV⟩,q1,q2,q3,os,q4⟩:=hp
  have key:=i.push (G':=G) (ext:=[]) (w':=w') q1 q2 q3 (by rw [q4];simp) (fun k hk=>by rw [q4];exact Array.getElem?_append_left hk) (fun _ _=>rfl) (fun _ _=>rfl) (fun _ _ _ h=>h) (fun _ _ _=>rfl)
   (fun b k v hb hv=>by have:=i.Bl (b:=b) (k:=k) (v:=v) hv;omega)
   (fun j bl hj=>by simp at hj) (fun j bl b hj=>by simp at hj) (fun j j' bl bl' b hj=>by simp at hj)
  rw [List.append_nil] at key
  exact⟨G,key.2,key.1,V,rfl,.p _ _ hV⟩
 | _=>exact hP.elim
theorem U0 (hm:P.follows .mixedOrders=true) (hX:tK P A) (hK:rA P A (mW A K)) (hlp:LI lp):rA P A (p9 P A lp K):=by
 intro f args h r h' hb G w X i gl hx
 unfold p9 at hb
 cases hpr:A.prm f with
 | some k =>
  simp only [hpr] at hb
  exact Pt (hX.2.2 f k hpr) hb i gl hx
 | none =>
 simp only [hpr] at hb
 cases hsf:A.srf f with
 | some g =>
  simp only [hsf] at hb
  exact PR (hX.2.1 f g hsf) hb i hx
 | none =>
 simp only [hsf] at hb
 cases hf:P.funcs[f]? with
 | none=>rw [hf] at hb;cases hb
 | some fn =>
  simp only [hf] at hb
  cases hc:fn.body with
  | none=>rw [hc] at hb;cases hb
  | some c =>
   simp only [hc] at hb
   cases hg:decide (args.length≤fn.ntmps)&&!(fn.name == "runtime.NumGoroutine") with
   | false=>rw [hg] at hb;cases hb
   | true =>
    rw [hg] at hb
    simp only [aq1,decide_eq_true_eq,Bool.not_eq_true'] at hg
    have key:Calls P f X w (sH G h w r h'):=by
     exact Mn hm hX hK hlp hf hc hb i gl hx hg.1
    refine⟨fun w=>?_,key⟩
    have hne:¬fn.name = "runtime.NumGoroutine" := by simpa using hg.2
    simp [callFunc,Sem.run_bind,hf,hc,hne,Sem.run_pure]
theorem Inv.empty (i:Inv G h w):Inv G [] w:=⟨i.ok,fun id bl hb=>by simp at hb,fun a b c ha=>by simp [owner] at ha⟩
theorem IY {out:Bool}{r1 r:nT}{h1 h':lT}{e:Ending}{w':World}(hb:tW out h (r1,h1)=some (r,h')) (i:Inv G h w) (hpost:sH G [] w r1 h1 e w'):sH G h w r h' e w':=by
 obtain⟨G',x,i',hpost⟩:=hpost
 have fr:∀b,b<w.heap.size→w'.heap[b]?=w.heap[b]?∧∀k,G'.H b k=G.H b k:=fun b hb=>x.frame b hb fun id=>by simp [owner]
 have new:∀{j b:Nat},owner G' h1 j=some b→¬b<w.heap.size:=fun ho hlt=>by
  have:=x.own _ _ ho hlt
  simp [owner] at this
 have hcase:(h1=[]∧r=r1∧h'=h)∨(h1.all (mT.ok fun j=>decide (j<h1.length))=true∧r1.ok (fun j=>decide (j<h1.length))=true∧r=r1.vH (fun j=>h.length+j)∧h'=h++h1.map (mT.vH fun j=>h.length+j)):=by
  unfold tW at hb
  cases h1 with
  | nil=>cases hb;exact .inl ⟨rfl,rfl,rfl⟩
  | cons b t =>
   simp only at hb
   cases hc:out&&((b::t).all (mT.ok fun j=>decide (j<(b::t).length))&&r1.ok fun j=>decide (j<(b::t).length)) with
   | false=>rw [hc] at hb;cases hb
   | true =>
    rw [hc] at hb
    simp only [aq1] at hc
    cases hb
    exact .inr ⟨hc.2.1,hc.2.2,rfl,rfl⟩
 rcases hcase with ⟨rfl,rfl,rfl⟩ | ⟨hbok,hrok,rfl,rfl⟩
 ·let G2:Gh:={ G' with nY:=G.nY,cur:=G.cur }
  have mono:CG G h' G2 h':=⟨x.hmono,fun id bl hb=>⟨bl,hb,by cases bl <;> simp [Kind,G2]⟩⟩
  have key:∀{v:lS}{V:Value},mJ G' [] v V→mJ G2 h' v V:=by
   intro v V r
   have nl:∀id,¬live ([]:lT) id:=fun id ⟨b,hb,_⟩=>by simp at hb
   induction r with
   | p v V hp=>exact .p v V hp
   | agg cs C hl _ ih=>exact .agg cs C hl ih
   | tuple cs C hl _ ih=>exact .tuple cs C hl ih
   | nil=>exact .nil
   | own rows id n sz V hp hf=>simp at hf
   | ownv id V hp hb=>obtain⟨b,hb,_⟩:=hb;simp at hb
   | vslice id tot off len sz b cap hb=>obtain⟨b,hb,_⟩:=hb;simp at hb
   | vptr id tot off b hb=>obtain⟨b,hb,_⟩:=hb;simp at hb
   | ptr id off hl=>exact absurd hl (nl id)
   | mslice id off len sz cap hl=>exact absurd hl (nl id)
   | mslice0 id off sz cap a=>exact .mslice0 id off sz cap a
   | map id hl=>exact absurd hl (nl id)
   | func f first cap F C hlf hlc _ _ ih1 ih2=>exact .func f first cap F C hlf hlc ih1 ih2
   | iface t v V _ ih=>exact .iface t v V ih
  refine⟨G2,⟨x.os,x.tape,x.output,x.size,fun b hb _=>fr b hb,x.hmono,fun id b ho _=>ho,mono.kinds⟩,⟨i'.ok,fun id bl hb=>?_,fun a b c ha hb=>i.inj a b c ha hb⟩,?_⟩
  ·refine(i.nY id bl hb).IF mono rfl rfl fun b ho=>?_
   exact fr b ((i.nY id bl hb).lt ho)
  ·cases r with
   | ret v=>obtain⟨V,he,hV⟩:=hpost;exact⟨V,he,key hV⟩
   | pan v=>obtain⟨V,he,hV⟩:=hpost;exact⟨V,he,key hV⟩
 ·simp only [aq5] at hbok
  let G2:Gh:={ H:=G'.H,nY:=fun id=>if id<h.length then G.nY id else G'.nY (id-h.length),cur:=fun id=>if id<h.length then G.cur id else G'.cur (id-h.length) }
  let sh:Nat→Nat:=fun j=>h.length+j
  have b1:∀{id:Nat},id<h.length→G2.nY id=G.nY id:=fun hl=>if_pos hl
  have c1:∀{id:Nat},id<h.length→G2.cur id=G.cur id:=fun hl=>if_pos hl
  have b2:∀{j:Nat},G2.nY (sh j)=G'.nY j:=fun {j}=>by
   show(if _ then _ else _)=_
   rw [if_neg (by show ¬h.length+j<h.length;omega)];congr 1;show h.length+j-h.length=j;omega
  have c2:∀{j:Nat},G2.cur (sh j)=G'.cur j:=fun {j}=>by
   show(if _ then _ else _)=_
   rw [if_neg (by show ¬h.length+j<h.length;omega)];congr 1;show h.length+j-h.length=j;omega
  let hN:lT:=h++h1.map (mT.vH sh)
  have g1:∀{id:Nat},id<h.length→hN[id]?=h[id]?:=fun hl=>aq3 hl
  have g2:∀{j:Nat},hN[sh j]?=(h1[j]?).map (mT.vH sh):=fun {j}=>by
   show(h++_)[h.length+j]?=_
   rw [ak0 (by omega),Nat.add_sub_cancel_left,ak4]
  have m2:Bm G' h1 G2 hN sh (fun j=>decide (j<h1.length)):=⟨fun _ _ _ h=>h,fun j b _ hb=>⟨_,by rw [g2,hb];rfl,v7 b⟩,fun _ _=>b2,fun _ _=>c2⟩
  have own2:∀{id b:Nat},owner G2 hN id=some b→(id<h.length∧owner G h id=some b)∨(∃j,id=sh j∧owner G' h1 j=some b):=by
   intro id b ho
   obtain⟨bl,hbl,ho2⟩:=pN ho
   by_cases hl:id<h.length
   ·refine .inl ⟨hl,?_⟩
    rw [g1 hl] at hbl
    rw [oC hbl,←ho2]
    cases bl <;> simp [nR,b1 hl,c1 hl]
   ·have e:id=sh (id-h.length):=by show id=h.length+(id-h.length);omega
    refine .inr ⟨id-h.length,e,?_⟩
    rw [e,g2] at hbl
    obtain⟨b0,hb0,rfl⟩:=ah7.1 hbl
    have e3:=AJ (G:=G') (G2:=G2) (f:=sh) (id:=id-h.length) (j:=sh (id-h.length)) (b:=b0) b2 c2
    rw [←e] at e3
    rw [oC hb0,←e3]
    exact ho2
  have kinds:∀id bl,h[id]?=some bl→∃bl',hN[id]?=some bl'∧Kind G G2 id bl bl':=by
   intro id bl hbl
   have hl:=(ag0.1 hbl).1
   refine⟨bl,by rw [g1 hl];exact hbl,?_⟩
   cases bl <;> simp [Kind,b1 hl,c1 hl]
  have ext:Ext G h w G2 hN w':=⟨x.os,x.tape,x.output,x.size,fun b hb _=>fr b hb,x.hmono,fun id b ho hlt=>by
   rcases own2 ho with ⟨_,h2⟩ | ⟨j,_,h2⟩
   ·exact h2
   ·exact absurd hlt (new h2),kinds⟩
  refine⟨G2,ext,⟨i'.ok,fun id bl hbl=>?_,fun a c b ha hc=>?_⟩,?_⟩
  ·have hbl:hN[id]?=some bl:=hbl
   by_cases hl:id<h.length
   ·rw [g1 hl] at hbl
    exact(i.nY id bl hbl).IF ext.toMono (b1 hl) (c1 hl) fun b ho=>fr b ((i.nY id bl hbl).lt ho)
   ·have e:id=sh (id-h.length):=by show id=h.length+(id-h.length);omega
    rw [e,g2] at hbl
    obtain⟨b0,hb0,rfl⟩:=ah7.1 hbl
    rw [e]
    exact(i'.nY _ b0 hb0).vH m2 rfl b2 c2 (hbok b0 (aj8 hb0))
  ·rcases own2 ha with ⟨hla,h2⟩ | ⟨ja,rfl,h2⟩
   ·rcases own2 hc with ⟨hlc,h3⟩ | ⟨jc,rfl,h3⟩
    ·exact i.inj a c b h2 h3
    ·obtain⟨bl,hbl,hob⟩:=pN h2
     exact absurd ((i.nY a bl hbl).lt hob) (new h3)
   ·rcases own2 hc with ⟨hlc,h3⟩ | ⟨jc,rfl,h3⟩
    ·obtain⟨bl,hbl,hob⟩:=pN h3
     exact absurd ((i.nY c bl hbl).lt hob) (new h2)
    ·rw [i'.inj ja jc b h2 h3]
  ·cases r1 with
   | ret v=>obtain⟨V,he,hV⟩:=hpost;exact⟨V,he,Cq m2 hV hrok⟩
   | pan v=>obtain⟨V,he,hV⟩:=hpost;exact⟨V,he,Cq m2 hV hrok⟩
theorem ON (hK:rA P A K):rA P A (mW A K):=by
 intro f args h r h' hb G w X i gl hx
 unfold mW at hb
 cases hp:A.pure f with
 | false =>
  rw [hp] at hb
  cases hsb:A.sub f with
  | false=>rw [hsb] at hb;exact hK f args h r h' hb G w X i gl hx
  | true=>rw [hsb] at hb;exact SQ hK hb i gl hx
 | true =>
  rw [hp] at hb
  simp only [cond_true] at hb
  cases hs:args.all (lS.sM 0) with
  | false=>rw [hs] at hb;cases hb
  | true =>
   rw [hs] at hb
   simp only [cond_true] at hb
   obtain⟨⟨r1,h1⟩,hc,hb⟩:=ac6.1 hb
   simp only [aq5] at hs
   have l:Left G h G [] 0:=⟨fun _ _ _ h=>h,rfl,rfl,fun id hid=>absurd hid (by omega),fun id n sz t hid=>absurd hid (by omega),fun id hid=>absurd hid (by omega)⟩
   have hx0:xP G [] args X:=⟨hx.1,fun j u hu=>uT l (hs u (aj8 hu)) (hx.2 j u hu)⟩
   obtain⟨e1,e2⟩:=hK f args [] _ _ hc G w X i.empty (gl.sub rfl fun id b ho=>by simp [owner] at ho) hx0
   refine⟨e1,Calls.mono e2 fun e w' hpost=>?_⟩
   exact IY hb i hpost
theorem KH (hm:P.follows .mixedOrders=true) (hX:tK P A) (hlp:LI lp):∀n,rA P A (Od P A lp n)
 | 0=>fun f args h r h' hb=>by simp [Od] at hb
 | n+1=>fun f args h r h' hb=>U0 hm hX (ON (KH hm hX hlp n)) hlp f args h r h' hb
end
end
noncomputable section
open Go Go.RowKit
def Ev (p:Nat→Prop):Prop:=∃N,∀n,N≤n→p n
theorem Ev.of {p:Nat→Prop}(h:∀n,p n):Ev p:=⟨0,fun n _=>h n⟩
theorem Ev.imp {p q:Nat→Prop}(h:Ev p) (hi:∀n,p n→q n):Ev q:=let ⟨N,hN⟩:=h;⟨N,fun n hn=>hi n (hN n hn)⟩
theorem Ev.and {p q:Nat→Prop}(h:Ev p) (h':Ev q):Ev fun n=>p n∧q n :=
 let ⟨N,hN⟩:=h;let ⟨M,hM⟩:=h';⟨max N M,fun n hn=>⟨hN n (by omega),hM n (by omega)⟩⟩
theorem IL {F:List lS×lT→Option R}:∀{n:Nat}{s:List lS×lT}{r:R},qT n F s=some r→qT (n+1) F s=some r
 | 0,s,r,h=>by simp [qT] at h
 | n+1,s,r,h=>by
  rw [qT] at h ⊢
  obtain⟨r1,h1,h2⟩:=ac6.1 h
  rw [h1]
  simp only [ak6]
  cases he:r1.1 with
  | normal=>rw [he] at h2;exact IL h2
  | _=>rw [he] at h2;exact h2
theorem Gn {F:List lS×lT→Option R}{n m:Nat}{s:List lS×lT}{r:R}(hnm:n≤m) (h:qT n F s=some r):qT m F s=some r:=by
 induction hnm with
 | refl=>exact h
 | step _ ih=>exact IL ih
open Classical in
def nL (F:List lS×lT→Option R) (s:List lS×lT):Option R :=
 if h:∃n r,qT n F s=some r then some (Classical.choose (Classical.choose_spec h)) else none
theorem yM {F:List lS×lT→Option R}{s:List lS×lT}{r:R}:nL F s=some r↔∃n,qT n F s=some r:=by
 unfold nL
 constructor
 ·intro h
  split at h
  ·rename_i hx
   cases h
   exact⟨_,Classical.choose_spec (Classical.choose_spec hx)⟩
  ·cases h
 ·rintro⟨n,hn⟩
  have hx:∃n r,qT n F s=some r:=⟨n,r,hn⟩
  rw [dif_pos hx]
  have h1:=Classical.choose_spec (Classical.choose_spec hx)
  have h2:=Gn (Nat.le_max_left _ n) h1
  have h3:=Gn (Nat.le_max_right (Classical.choose hx) n) hn
  rw [h2] at h3
  exact h3
theorem alO:LI nL:=fun _ _ _ h=>yM.1 h
theorem nW (F:List lS×lT→Option R) (s:List lS×lT):nL F s=(F s).bind fun r=>r.1.nC (nL F r.2) fun e=>some (e,r.2):=by
 apply Option.ext
 intro r
 rw [yM]
 constructor
 ·rintro⟨n,hn⟩
  cases n with
  | zero=>simp [qT] at hn
  | succ n =>
   rw [qT] at hn
   obtain⟨r1,h1,h2⟩:=ac6.1 hn
   rw [h1]
   simp only [ak6]
   cases he:r1.1 with
   | normal=>rw [he] at h2;exact yM.2 ⟨n,h2⟩
   | _=>rw [he] at h2;exact h2
 ·intro h
  obtain⟨r1,h1,h2⟩:=ac6.1 h
  cases he:r1.1 with
  | normal =>
   rw [he] at h2
   obtain⟨n,hn⟩:=yM.1 h2
   exact⟨n+1,by rw [qT,h1];simp only [ak6,he];exact hn⟩
  | _ =>
   rw [he] at h2
   exact⟨1,by rw [qT,h1];simp only [ak6,he];exact h2⟩
theorem adA {F:List lS×lT→Option R}{Fn:Nat→List lS×lT→Option R}(hF:∀s r,F s=some r→Ev fun n=>Fn n s=some r) {s:List lS×lT}{r:R}(h:nL F s=some r) :
  Ev fun n=>nL (Fn n) s=some r:=by
 obtain⟨m,hm⟩:=yM.1 h
 have key:∀(m:Nat) (s:List lS×lT),qT m F s=some r→Ev fun n=>qT m (Fn n) s=some r:=by
  intro m
  induction m with
  | zero=>intro s h;simp [qT] at h
  | succ m ih =>
   intro s h
   rw [qT] at h
   obtain⟨r1,h1,h2⟩:=ac6.1 h
   cases he:r1.1 with
   | normal =>
    rw [he] at h2
    refine((hF _ _ h1).and (ih _ h2)).imp fun n hn=>?_
    rw [qT,hn.1];simp only [ak6,he];exact hn.2
   | _ =>
    rw [he] at h2
    refine(hF _ _ h1).imp fun n hn=>?_
    rw [qT,hn];simp only [ak6,he];exact h2
 exact(key m s hm).imp fun n hn=>yM.2 ⟨m,hn⟩
section
variable {cx:Cx}{o:Oper}{ρ:List lS}{h:lT}{kv kp:lS→lT→Option R}{r:R}{ids:List Nat}{ops:List Oper}
theorem Xg {kvn kpn:Nat→lS→lT→Option R}(hv:∀v h r,kv v h=some r→Ev fun n=>kvn n v h=some r) (hp:∀v h r,kp v h=some r→Ev fun n=>kpn n v h=some r) {r0:R}
  (hb:mY kv kp r0=some r):Ev fun n=>mY (kvn n) (kpn n) r0=some r:=by
 obtain⟨e,l,h⟩:=r0
 cases e with
 | normal =>
  match l with
  | []=>cases hb
  | [v]=>exact hv v h r hb
  | _::_::_=>cases hb
 | pan v=>exact hp v h r hb
 | exit _=>cases hb
 | ret=>cases hb
def Be (K:mA) (Kn:Nat→mA):Prop:=∀f args h r,K f args h=some r→Ev fun n=>Kn n f args h=some r
theorem Xb {lp':V_}{K':mA}{rsv:Option Nat}(hne:∀c f,o.op=.call c→c.callee=.value f→False) (hni:∀c f m,o.op=.call c→c.callee=.invoke f m→False):evalOp { cx with K:=K',lp:=lp' } o rsv ρ h kv kp=evalOp cx o rsv ρ h kv kp:=by
 unfold evalOp oG
 cases ho:o.op with
 | call c =>
  simp only []
  cases hc:c.callee with
  | value f=>exact(hne c f ho hc).elim
  | builtin b=>rfl
  | invoke f m=>exact(hni c f m ho hc).elim
 | makeFunc b f c=>cases b <;> rfl
 | makeMap t r=>cases r <;> rfl
 | typeAssert x xt t ok=>cases ok <;> rfl
 | slice t x lo hi mx=>cases mx <;> rfl
 | assign x=>cases Ac x <;> rfl
 | _=>rfl
theorem Dd {lp':V_}{Kn:Nat→mA}{kvn kpn:Nat→lS→lT→Option R}{rsv:Option Nat}(hK:Be cx.K Kn) (hv:∀v h r,kv v h=some r→Ev fun n=>kvn n v h=some r)
  (hp:∀v h r,kp v h=some r→Ev fun n=>kpn n v h=some r) (hb:evalOp cx o rsv ρ h kv kp=some r):Ev fun n=>evalOp { cx with K:=Kn n,lp:=lp' } o rsv ρ h (kvn n) (kpn n)=some r:=by
 rw [vL] at hb
 obtain⟨r0,h1,h2⟩:=ac6.1 hb
 have key:Ev fun n=>evalOp { cx with K:=Kn n,lp:=lp' } o rsv ρ h mM Gk=some r0:=by
  by_cases hne:∃c f,o.op=.call c∧c.callee=.value f
  ·obtain⟨c,f,ho,hc⟩:=hne
   simp only [evalOp,oG,ho,hc] at h1 ⊢
   obtain⟨g,hg,h1⟩:=ac6.1 h1
   cases hext:cx.A.ext g.1 with
   | some ek =>
    refine Ev.of fun n=>?_
    simp only [hg,ak6,rI,hext] at h1 ⊢
    exact h1
   | none =>
    simp only [rI,hext] at h1 ⊢
    unfold mR at h1 ⊢
    obtain⟨r1,hk,h1⟩:=ac6.1 h1
    refine(hK _ _ _ _ hk).imp fun n hn=>?_
    simp only [hg,ak6,hext,hn]
    exact h1
  ·by_cases hni:∃c f m,o.op=.call c∧c.callee=.invoke f m
   ·obtain⟨c,f,m,ho,hc⟩:=hni
    simp only [evalOp,oG,ho,hc] at h1 ⊢
    obtain⟨g,hg,h1⟩:=ac6.1 h1
    cases hext:cx.A.ext g.1 with
    | some ek =>
     refine Ev.of fun n=>?_
     simp only [hg,ak6,rI,hext] at h1 ⊢
     exact h1
    | none =>
     simp only [rI,hext] at h1 ⊢
     unfold mR at h1 ⊢
     obtain⟨r1,hk,h1⟩:=ac6.1 h1
     refine(hK _ _ _ _ hk).imp fun n hn=>?_
     simp only [hg,ak6,hext,hn]
     exact h1
   ·refine Ev.of fun n=>?_
    rw [Xb (fun c f ho hc=>hne ⟨c,f,ho,hc⟩) (fun c f m ho hc=>hni ⟨c,f,m,ho,hc⟩)]
    exact h1
 refine(key.and (Xg hv hp h2)).imp fun n hn=>?_
 rw [vL,hn.1]
 exact hn.2
theorem Bw {lp':V_}{Kn:Nat→mA}{kvn kpn:Nat→lS→lT→Option R}(hK:Be cx.K Kn) (hv:∀v h r,kv v h=some r→Ev fun n=>kvn n v h=some r)
  (hp:∀v h r,kp v h=some r→Ev fun n=>kpn n v h=some r) (hb:oF cx o ids ρ h kv kp=some r):Ev fun n=>oF { cx with K:=Kn n,lp:=lp' } o ids ρ h (kvn n) (kpn n)=some r:=by
 unfold oF at hb ⊢
 cases hc:cx.ck with
 | true =>
  simp only [hc,cond_true] at hb ⊢
  exact Dd (lp':=lp') hK (fun v h' r hk=>by
   obtain⟨h1,h2⟩:=DX.1 hk
   exact(hv v _ r h2).imp fun n hn=>DX.2 ⟨h1,hn⟩) hp hb
 | false =>
  simp only [hc,cond_false] at hb ⊢
  exact Dd (lp':=lp') hK (fun v h' r hk=>hv v _ r hk) (fun v h' r hk=>hp v _ r hk) hb
theorem OT {lp':V_}{Kn:Nat→mA}{m:Nat}{kvn:Nat→lS→lT→Option R}(hK:Be cx.K Kn) (hv:∀v h r,kv v h=some r→Ev fun n=>kvn n v h=some r)
  (hb:vV cx o m ids ρ h kv=some r):Ev fun n=>vV { cx with K:=Kn n,lp:=lp' } o m ids ρ h (kvn n)=some r:=by
 unfold vV at hb ⊢
 cases hs:(h.take m).all (vU m) with
 | false=>rw [hs] at hb;cases hb
 | true =>
  rw [hs] at hb
  simp only [cond_true] at hb ⊢
  obtain⟨r0,h1,h2⟩:=ac6.1 hb
  have e1:Ev fun n=>oF { cx with K:=Kn n,lp:=lp' } o ids (ρ.map (BW m)) (h.take m) mM Gk=some r0 :=
   Bw (kvn:=fun _=>mM) (kpn:=fun _=>Gk) hK (fun _ _ _ h=>Ev.of fun _=>h) (fun _ _ _ h=>Ev.of fun _=>h) h1
  have e2:Ev fun n=>U4 m h (kvn n) r0=some r:=by
   unfold U4 at h2 ⊢
   split at h2
   ·rename_i v t
    cases hl:t.length == m with
    | false=>rw [hl] at h2;cases h2
    | true=>rw [hl] at h2;exact hv _ _ _ h2
   ·cases h2
  refine(e1.and e2).imp fun n hn=>?_
  rw [hn.1]
  exact hn.2
theorem Mo {lp':V_}{Kn:Nat→mA}{kvn kpn:Nat→lS→lT→Option R}(hK:Be cx.K Kn) (hv:∀v h r,kv v h=some r→Ev fun n=>kvn n v h=some r)
  (hp:∀v h r,kp v h=some r→Ev fun n=>kpn n v h=some r) (hb:rY cx ops o ids ρ h kv kp=some r):Ev fun n=>rY { cx with K:=Kn n,lp:=lp' } ops o ids ρ h (kvn n) (kpn n)=some r:=by
 have L:oF cx o ids ρ h kv kp=some r→Ev fun n=>oF { cx with K:=Kn n,lp:=lp' } o ids ρ h (kvn n) (kpn n)=some r :=
  fun hb=>Bw hK hv hp hb
 simp only [yL] at hb ⊢
 unfold xK at hb ⊢
 cases hg:o.guard with
 | none=>simp only [hg] at hb ⊢;exact L hb
 | some jw =>
  obtain⟨j,want⟩:=jw
  simp only [hg] at hb ⊢
  cases hd:(ops[j]?).bind (·.dst) with
  | none=>simp only [hd] at hb;cases hb
  | some d =>
   simp only [hd] at hb ⊢
   generalize ρ.getD d .junk=x at hb ⊢
   split at hb
   ·rename_i g
    cases want <;> cases g <;> simp only [cond_true,cond_false] at hb ⊢
    ·exact L hb
    ·exact hv _ _ _ hb
    ·exact hv _ _ _ hb
    ·exact L hb
   ·exact hv _ _ _ hb
   ·cases hb
theorem Kh {lp':V_}{Kn:Nat→mA}{m:Nat}{it:Item}{kvn kpn:Nat→lS→lT→Option R}(hK:Be cx.K Kn) (hv:∀v h r,kv v h=some r→Ev fun n=>kvn n v h=some r)
  (hp:∀v h r,kp v h=some r→Ev fun n=>kpn n v h=some r) (hb:oV cx ops m it ids ρ h kv kp=some r):Ev fun n=>oV { cx with K:=Kn n,lp:=lp' } ops m it ids ρ h (kvn n) (kpn n)=some r:=by
 unfold oV at hb ⊢
 cases hr:it.rsv with
 | some j =>
  simp only [hr] at hb ⊢
  cases hf:rL it.o with
  | false=>rw [hf] at hb;cases hb
  | true =>
   rw [hf] at hb
   exact Dd (kpn:=fun _ _ _=>none) hK hv (fun _ _ _ h=>by cases h) hb
 | none =>
  simp only [hr] at hb ⊢
  cases hh:it.hid with
  | true =>
   simp only [hh,cond_true] at hb ⊢
   cases hf:u6 it.o with
   | false=>rw [hf] at hb;cases hb
   | true =>
    rw [hf] at hb
    exact OT hK hv hb
  | false =>
   simp only [hh,cond_false] at hb ⊢
   exact Mo hK hv hp hb
theorem vX {lp':V_}{m:Nat}{Kn:Nat→mA}{k:List lS→lT→Option R}{kn:Nat→List lS→lT→Option R}{kpn:Nat→lS→lT→Option R}(hK:Be cx.K Kn)
  (hk:∀ρ h r,k ρ h=some r→Ev fun n=>kn n ρ h=some r) (hp:∀v h r,kp v h=some r→Ev fun n=>kpn n v h=some r):∀(items:List Item) (seen ρ:List lS) (h:lT) (r:R),
  oZ cx ops m items seen ρ h k kp=some r→Ev fun n=>oZ { cx with K:=Kn n,lp:=lp' } ops m items seen ρ h (kn n) (kpn n)=some r:=by
 intro items
 induction items with
 | nil=>intro seen ρ h r hb;exact hk _ _ _ hb
 | cons it rest ih =>
  intro seen ρ h r hb
  simp only [oZ,vM] at hb ⊢
  exact Kh hK (fun v h' r hb=>ih _ _ _ _ hb) hp hb
theorem Iu {lp':V_}{Kn:Nat→mA}{k:List lS→lT→Option R}{kn:Nat→List lS→lT→Option R}{kp:lS→lT→Option R}{kpn:Nat→lS→lT→Option R}{draw:Bool}(hK:Be cx.K Kn)
  (hk:∀ρ h r,k ρ h=some r→Ev fun n=>kn n ρ h=some r) (hkp:∀v h r,kp v h=some r→Ev fun n=>kpn n v h=some r) (hb:uD cx ops draw ρ h k kp=some r):Ev fun n=>uD { cx with K:=Kn n,lp:=lp' } ops draw ρ h (kn n) (kpn n)=some r:=by
 unfold uD at hb ⊢
 cases draw with
 | false=>exact vX hK (fun ρ h r hb=>hk _ _ _ hb) (fun v h r hb=>hkp _ _ _ hb) _ _ _ _ _ hb
 | true =>
  simp only [] at hb ⊢
  cases hd:Az ops with
  | none=>simp only [hd] at hb;cases hb
  | some items =>
   simp only [hd] at hb ⊢
   exact vX (cx:={ cx with rb:=false }) hK (fun ρ h r hb=>hk _ _ _ hb) (fun v h r hb=>hkp _ _ _ hb) _ _ _ _ _ hb
end
theorem KD {v:lS}{t e:Option R}{tn en:Nat→Option R}{r:R}(ht:t=some r→Ev fun n=>tn n=some r) (he:e=some r→Ev fun n=>en n=some r) (hb:mH v t e=some r) :
  Ev fun n=>mH v (tn n) (en n)=some r:=by
 unfold mH at hb ⊢
 split at hb
 ·rename_i b;cases b
  ·exact he hb
  ·exact ht hb
 ·cases hb
theorem JM {e:Ex}{x:Option R}{f:Ex→Option R}{xn:Nat→Option R}{fn:Nat→Ex→Option R}{r:R}(hx:x=some r→Ev fun n=>xn n=some r) (hf:∀e,f e=some r→Ev fun n=>fn n e=some r)
  (hb:e.nC x f=some r):Ev fun n=>e.nC (xn n) (fn n)=some r:=by
 cases e with
 | normal=>exact hx hb
 | _=>exact hf _ hb
theorem aeO {e:Ex}{x:Option R}{xn:Nat→Option R}{r:R}(hx:x=some r→Ev fun n=>xn n=some r) (hb:e.rQ x=some r):Ev fun n=>e.rQ (xn n)=some r:=by
 cases e with
 | normal=>exact hx hb
 | _=>cases hb
theorem Gg {id:Nat}{e:Ex}{x:Option R}{f:Ex→Option R}{xn:Nat→Option R}{fn:Nat→Ex→Option R}{r:R}(hx:x=some r→Ev fun n=>xn n=some r) (hf:∀e,f e=some r→Ev fun n=>fn n e=some r)
  (hb:e.inBlock id x f=some r):Ev fun n=>e.inBlock id (xn n) (fn n)=some r:=by
 cases e with
 | normal=>exact hx hb
 | exit j =>
  simp only [Ex.inBlock] at hb ⊢
  cases hj:j == id with
  | true=>rw [hj] at hb;exact hx hb
  | false=>rw [hj] at hb;exact hf _ hb
 | _=>exact hf _ hb
theorem xA {cx:Cx}{Kn:Nat→mA}(hK:Be cx.K Kn) (hlp:∀F s r,cx.lp F s=some r→nL F s=some r):∀(c:Code) (L:Nat) (ρ:List lS) (h:lT) (kn:List lS→lT→Option R) (ke:Ex→List lS→lT→Option R)
  (knn:Nat→List lS→lT→Option R) (ken:Nat→Ex→List lS→lT→Option R) (r:R),
  (∀ρ h r,kn ρ h=some r→Ev fun n=>knn n ρ h=some r)→(∀e ρ h r,ke e ρ h=some r→Ev fun n=>ken n e ρ h=some r)→evalCode cx c L ρ h kn ke=some r→Ev fun n=>evalCode { cx with K:=Kn n,lp:=nL } c L ρ h (knn n) (ken n)=some r:=by
 obtain⟨P,A,K,lp,nt,full,pan,vec,frz,vlit,vmk,jt,lkp,rb,frl,tb⟩:=cx
 dsimp only at hlp
 intro c
 induction c with
 | skip=>intro L ρ h kn ke knn ken r hk he hb;exact hk _ _ _ hb
 | region id ops draw=>intro L ρ h kn ke knn ken r hk he hb;exact Iu hK hk (kpn:=fun n=>avP pan (ken n) ρ) (fun v h r hb=>by cases pan <;> first | exact he _ _ _ _ hb | cases hb) hb
 | seq x y ihx ihy =>
  intro L ρ h kn ke knn ken r hk he hb
  simp only [evalCode] at hb ⊢
  exact ihx _ ρ h _ _ _ _ r (fun ρ h r hb=>ihy _ _ _ _ _ _ _ _ hk he hb) he hb
 | cond c x y ihx ihy =>
  intro L ρ h kn ke knn ken r hk he hb
  simp only [evalCode] at hb ⊢
  cases hf:uL x&&uL y with
  | true =>
   simp only [hf,cond_true] at hb ⊢
   obtain⟨r0,h1,h2⟩:=ac6.1 hb
   have e1:=KD (ihx L ρ h _ _ (fun _=>Dc jt h.length L .normal) (fun _=>Dc jt h.length L) r0 (fun ρ h r hb=>Ev.of fun _=>hb) (fun e ρ h r hb=>Ev.of fun _=>hb)) (ihy L ρ h _ _ (fun _=>Dc jt h.length L .normal) (fun _=>Dc jt h.length L) r0 (fun ρ h r hb=>Ev.of fun _=>hb) (fun e ρ h r hb=>Ev.of fun _=>hb)) h1
   have e2:Ev fun n=>(bif pan || (leaves [] x || leaves [] y) then r0.1.nC (knn n (unpack nt L r0.2.1) r0.2.2) fun e=>ken n e (unpack nt L r0.2.1) r0.2.2 else r0.1.rQ (knn n (unpack nt L r0.2.1) r0.2.2))=some r:=by
    cases hl:pan || (leaves [] x || leaves [] y) with
    | true=>rw [hl] at h2;exact JM (hk _ _ _) (fun e=>he e _ _ _) h2
    | false=>rw [hl] at h2;exact aeO (hk _ _ _) h2
   refine(e1.and e2).imp fun n hn=>?_
   rw [ac6]
   exact⟨r0,hn.1,hn.2⟩
  | false =>
   simp only [hf,cond_false] at hb ⊢
   exact KD (ihx L ρ h _ _ knn ken r hk he) (ihy L ρ h _ _ knn ken r hk he) hb
 | block id c ih =>
  intro L ρ h kn ke knn ken r hk he hb
  simp only [evalCode] at hb ⊢
  cases hf:decide (2≤zM id c+bif uL c then 1 else 0) with
  | true =>
   simp only [hf,cond_true] at hb ⊢
   obtain⟨r0,h1,h2⟩:=ac6.1 hb
   refine((ih L ρ h _ _ (fun _=>Dc jt h.length L .normal) (fun _=>Dc jt h.length L) r0 (fun ρ h r hb=>Ev.of fun _=>hb) (fun e ρ h r hb=>Ev.of fun _=>hb) h1).and (Gg (hk _ _ _) (fun e=>he e _ _ _) h2)).imp fun n hn=>?_
   rw [ac6]
   exact⟨r0,hn.1,hn.2⟩
  | false =>
   simp only [hf,cond_false] at hb ⊢
   exact ih L ρ h _ _ knn (fun n e ρ' h'=>e.inBlock id (knn n ρ' h') fun e=>ken n e ρ' h') r hk (fun e ρ' h' r hb=>Gg (hk _ _ _) (fun e=>he e _ _ _) hb) hb
 | loop c ih =>
  intro L ρ h kn ke knn ken r hk he hb
  simp only [evalCode] at hb ⊢
  obtain⟨r0,h1,h2⟩:=ac6.1 hb
  refine((adA (fun s r hb=>ih _ _ _ _ _ (fun _=>Bt lkp h.length (L ||| ue full c) .normal) (fun _=>Bt lkp h.length (L ||| ue full c)) _ (fun ρ h r hb=>Ev.of fun _=>hb) (fun e ρ h r hb=>Ev.of fun _=>hb) hb) (hlp _ _ _ h1)).and
   (JM (x:=none) (xn:=fun _=>none) (fun h=>by cases h) (fun e=>he e _ _ _) h2)).imp fun n hn=>?_
  rw [ac6]
  exact⟨r0,hn.1,hn.2⟩
 | scope c ih=>intro L ρ h kn ke knn ken r hk he hb;exact ih L ρ h kn ke knn ken r hk he hb
 | label l=>intro L ρ h kn ke knn ken r hk he hb;exact hk _ _ _ hb
 | exit id=>intro L ρ h kn ke knn ken r hk he hb;exact he _ _ _ _ hb
 | ret=>intro L ρ h kn ke knn ken r hk he hb;exact he _ _ _ _ hb
 | _=>intro L ρ h kn ke knn ken r hk he hb;simp [evalCode] at hb
theorem OV {cx:Cx}{Kn:Nat→mA}(hK:Be cx.K Kn) (hlp:∀F s r,cx.lp F s=some r→nL F s=some r) {g:Nat}{caps:List lS}{pv:Option lS}{h h':lT}(hb:t_ cx g caps pv h=some h') :
  Ev fun n=>t_ { cx with K:=Kn n,lp:=nL } g caps pv h=some h':=by
 unfold t_ at hb ⊢
 cases hf:cx.P.funcs[g]? with
 | none=>rw [hf] at hb;cases hb
 | some fn =>
  simp only [hf] at hb ⊢
  split at hb
  ·rename_i id ops c hbody
   split at hb
   ·rename_i o os hops
    cases hc:(Ch o&&decide (caps.length≤fn.ntmps)&&fn.results.isEmpty&&!(fn.name == "runtime.NumGoroutine")) with
    | false=>rw [hc] at hb;cases hb
    | true =>
     rw [hc] at hb
     simp only [cond_true] at hb ⊢
     obtain⟨r0,h1,h2⟩:=ac6.1 hb
     have e1:=vX (cx:={ cx with n:=fn.ntmps,full:=2^fn.ntmps-1,pan:=false }) (lp':=nL) (ops:=ops.toList) (kp:=fun _ _=>none) (kpn:=fun _ _ _=>none)
      (kn:=fun n ρ' h'=>evalCode { cx with K:=Kn n,lp:=nL,n:=fn.ntmps,full:=2^fn.ntmps-1,pan:=false } c 0 ρ' h' (Gt 0) (Gr 0)) hK
      (fun ρ h r hb=>xA (cx:={ cx with n:=fn.ntmps,full:=2^fn.ntmps-1,pan:=false }) hK hlp c 0 ρ h _ _ (fun _=>Gt 0) (fun _=>Gr 0) r (fun ρ h r hb=>Ev.of fun _=>hb) (fun e ρ h r hb=>Ev.of fun _=>hb) hb)
      (fun _ _ _ h=>by cases h) _ _ _ _ _ h1
     refine e1.imp fun n hn=>?_
     rw [ac6]
     exact⟨r0,hn,h2⟩
   ·cases hb
  ·cases hb
theorem Mp {cx:Cx}{Kn:Nat→mA}(hK:Be cx.K Kn) (hlp:∀F s r,cx.lp F s=some r→nL F s=some r) {b:Code}{L:Nat}{fv:lS}{ρ:List lS}{h:lT}{r:R}(hb:xX cx b L fv ρ h=some r) :
  Ev fun n=>xX { cx with K:=Kn n,lp:=nL } b L fv ρ h=some r:=by
 unfold xX at hb ⊢
 cases hok:BI L b with
 | false=>rw [hok] at hb;cases hb
 | true =>
  rw [hok] at hb
  simp only [cond_true] at hb ⊢
  obtain⟨g,hg,hb⟩:=ac6.1 hb
  simp only [hg,ak6]
  obtain⟨r0,h1,h2⟩:=ac6.1 hb
  have e1:=xA (cx:={ cx with pan:=true }) hK hlp b L ρ h _ _ (fun _=>Gt L) (fun _=>Gr L) r0 (fun ρ h r hb=>Ev.of fun _=>hb) (fun e ρ h r hb=>Ev.of fun _=>hb) h1
  have e2:Ev fun n=>r0.1.QN ((t_ { cx with K:=Kn n,lp:=nL } g.1 (g.2.1++g.2.2) none r0.2.2).map fun h2=>((.ret,r0.2.1,h2):R)) (fun v=>(t_ { cx with K:=Kn n,lp:=nL } g.1 (g.2.1++g.2.2) (some v) r0.2.2).map fun h2=>((.ret,pack L ρ,h2):R))=some r:=by
   have key:∀{pv:Option lS}{pk:List lS},((t_ cx g.1 (g.2.1++g.2.2) pv r0.2.2).map fun h2=>((.ret,pk,h2):R))=some r→Ev fun n=>((t_ { cx with K:=Kn n,lp:=nL } g.1 (g.2.1++g.2.2) pv r0.2.2).map fun h2=>((.ret,pk,h2):R))=some r:=by
    intro pv pk hx
    obtain⟨h3,e3,e4⟩:=ah7.1 hx
    exact(OV hK hlp e3).imp fun n hn=>by rw [hn];exact congrArg some e4
   cases he:r0.1 with
   | normal=>rw [he] at h2;exact key h2
   | ret=>rw [he] at h2;exact key h2
   | exit id=>rw [he] at h2;cases h2
   | pan v=>rw [he] at h2;exact key h2
  refine(e1.and e2).imp fun n hn=>?_
  rw [ac6]
  exact⟨r0,hn.1,hn.2⟩
theorem OU {cx:Cx}{Kn:Nat→mA}(hK:Be cx.K Kn) (hlp:∀F s r,cx.lp F s=some r→nL F s=some r):∀(c:Code) (L:Nat) (ρ:List lS) (h:lT) (r:R),rG cx c L ρ h=some r →
  Ev fun n=>rG { cx with K:=Kn n,lp:=nL } c L ρ h=some r:=by
 intro c
 induction c with
 | seq x y ihx ihy =>
  intro L ρ h r hb
  have piece:evalCode cx x (L ||| ue cx.full y) ρ h (fun ρ' h'=>rG cx y L ρ' h') (KY L)=some r →
    Ev fun n=>evalCode { cx with K:=Kn n,lp:=nL } x (L ||| ue cx.full y) ρ h (fun ρ' h'=>rG { cx with K:=Kn n,lp:=nL } y L ρ' h') (KY L)=some r:=fun hb =>
   xA hK hlp x _ ρ h _ _ (fun n ρ' h'=>rG { cx with K:=Kn n,lp:=nL } y L ρ' h') (fun _=>KY L) r (fun ρ h r hb=>ihy L ρ h r hb) (fun e ρ h r hb=>Ev.of fun _=>hb) hb
  cases x with
  | region id ops draw =>
   cases draw with
   | true=>simp only [rG] at hb ⊢;exact piece hb
   | false =>
    simp only [rG] at hb ⊢
    cases hl:z7 ops.toList with
    | none=>simp only [hl] at hb ⊢;exact piece hb
    | some f =>
     simp only [hl] at hb ⊢
     exact vX (lp':=nL) (kpn:=fun _ _ _=>none) (kn:=fun n ρ' h'=>xX { cx with K:=Kn n,lp:=nL } y L (qV cx.A ρ' f) ρ' h') hK (fun ρ h r hb=>Mp hK hlp hb) (fun _ _ _ h=>by cases h) _ _ _ _ _ hb
  | _=>simp only [rG] at hb ⊢;exact piece hb
 | _=>intro L ρ h r hb;simp [rG] at hb
theorem Ml {cx:Cx}{Kn:Nat→mA}(hK:Be cx.K Kn) (hlp:∀F s r,cx.lp F s=some r→nL F s=some r) {d:Bool}{c:Code}{L:Nat}{ρ:List lS}{h:lT}{r:R}(hb:Bv cx d c L ρ h=some r) :
  Ev fun n=>Bv { cx with K:=Kn n,lp:=nL } d c L ρ h=some r:=by
 cases d with
 | true=>exact OU (cx:={ cx with pan:=false }) hK hlp c L ρ h r hb
 | false=>exact xA hK hlp c L ρ h _ _ (fun _=>Gt L) (fun _=>Gr L) r (fun ρ h r hb=>Ev.of fun _=>hb) (fun e ρ h r hb=>Ev.of fun _=>hb) hb
theorem UU {A:xO}{K:mA}{Kn:Nat→mA}(hK:Be K Kn):Be (mW A K) fun n=>mW A (Kn n):=by
 intro f args h r hb
 unfold mW at hb ⊢
 cases hp:A.pure f with
 | false =>
  simp only [hp,cond_false] at hb ⊢
  cases hsb:A.sub f with
  | false=>simp only [hsb,cond_false] at hb ⊢;exact hK _ _ _ _ hb
  | true =>
   simp only [hsb,cond_true] at hb ⊢
   unfold ap2 Zr at hb ⊢
   cases ho:Lh (reach h args) args h with
   | false=>simp only [ho,cond_false] at hb;cases hb
   | true =>
    simp only [ho,cond_true] at hb ⊢
    obtain⟨r0,h1,h2⟩:=ac6.1 hb
    refine(hK _ _ _ _ h1).imp fun n hn=>?_
    rw [ac6]
    exact⟨r0,hn,h2⟩
 | true =>
  simp only [hp,cond_true] at hb ⊢
  cases hs:args.all (lS.sM 0) with
  | false=>simp only [hs,cond_false] at hb;cases hb
  | true =>
   simp only [hs,cond_true] at hb ⊢
   obtain⟨r0,h1,h2⟩:=ac6.1 hb
   refine(hK _ _ _ _ h1).imp fun n hn=>?_
   rw [ac6]
   exact⟨r0,hn,h2⟩
theorem GY {P:Program}{A:xO}{lp:V_}{K:mA}{Kn:Nat→mA}(hlp:∀F s r,lp F s=some r→nL F s=some r) (hK:Be K Kn):Be (p9 P A lp K) fun n=>p9 P A nL (Kn n):=by
 intro f args h r hb
 unfold p9 at hb ⊢
 cases hpr:A.prm f with
 | some k =>
  simp only [hpr] at hb ⊢
  exact⟨0,fun n _=>hb⟩
 | none =>
 simp only [hpr] at hb ⊢
 cases hsf:A.srf f with
 | some g =>
  simp only [hsf] at hb
  exact⟨0,fun n _=>hb⟩
 | none =>
 simp only [hsf] at hb ⊢
 cases hf:P.funcs[f]? with
 | none=>simp only [hf] at hb;cases hb
 | some fn =>
  simp only [hf] at hb ⊢
  cases hc:fn.body with
  | none=>simp only [hc] at hb;cases hb
  | some c =>
   simp only [hc] at hb ⊢
   cases hg:decide (args.length≤fn.ntmps)&&!(fn.name == "runtime.NumGoroutine") with
   | false=>simp only [hg,cond_false] at hb;cases hb
   | true =>
    simp only [hg,cond_true] at hb ⊢
    simp only [Mm] at hb ⊢
    obtain⟨r0,h1,h2⟩:=ac6.1 hb
    refine(Ml (cx:={ P,A,K:=mW A K,lp,n:=fn.ntmps,full:=2^fn.ntmps-1,pan:=A.pan f,vec:=A.agJ f,frz:=A.frz f,vlit:=A.Uu f,vmk:=A.vmk f,jt:=A.jt f,lkp:=A.lkp f,rb:=A.rb f,frl:=A.frl f,tb:=A.tb f,ck:=A.ck f }) (UU hK) hlp h1).imp fun n hn=>?_
    rw [ac6]
    exact⟨r0,hn,h2⟩
open Classical in
def Iq (P:Program) (A:xO):mA:=fun f args h =>
 if hx:∃r,Ev fun n=>Od P A nL n f args h=some r then some (Classical.choose hx) else none
theorem Cd {P:Program}{A:xO}{f:Nat}{args:List lS}{h:lT}{r:nT×lT}:Iq P A f args h=some r↔Ev fun n=>Od P A nL n f args h=some r:=by
 unfold Iq
 constructor
 ·intro hb
  split at hb
  ·rename_i hx;cases hb;exact Classical.choose_spec hx
  ·cases hb
 ·intro hb
  have hx:∃r,Ev fun n=>Od P A nL n f args h=some r:=⟨r,hb⟩
  rw [dif_pos hx]
  obtain⟨N,hN⟩:=(Classical.choose_spec hx).and hb
  obtain⟨e1,e2⟩:=hN N (ak5 _)
  rw [e1] at e2
  exact e2
theorem Xa {P:Program}{A:xO}{f:Nat}{args:List lS}{h:lT}{r:nT×lT}(hb:p9 P A nL (Iq P A) f args h=some r):Iq P A f args h=some r:=by
 rw [Cd]
 obtain⟨N,hN⟩:=GY (lp:=nL) (Kn:=fun n=>Od P A nL n) (fun _ _ _ h=>h) (fun f args h r hb=>Cd.1 hb) f args h r hb
 refine⟨N+1,fun n hn=>?_⟩
 cases n with
 | zero=>omega
 | succ n=>exact hN n (by omega)
theorem D0 {P:Program}{A:xO}(m:Nat):∀(n f:Nat) (args:List lS) (h:lT) (r:nT×lT),Od P A (qT m) n f args h=some r→Iq P A f args h=some r:=by
 have hlp:∀F s r,qT m F s=some r→nL F s=some r:=fun F s r h=>yM.2 ⟨m,h⟩
 have key:∀n,Be (Od P A (qT m) n) fun k=>Od P A nL k:=by
  intro n
  induction n with
  | zero=>intro f args h r hb;cases hb
  | succ n ih =>
   intro f args h r hb
   obtain⟨N,hN⟩:=GY hlp ih f args h r hb
   refine⟨N+1,fun k hk=>?_⟩
   cases k with
   | zero=>omega
   | succ k=>exact hN k (by omega)
 exact fun n f args h r hb=>Cd.2 (key n f args h r hb)
theorem U1 {P:Program}{A:xO}(hm:P.follows .mixedOrders=true) (hX:tK P A):rA P A (Iq P A):=by
 intro f args h r h' hb
 obtain⟨N,hN⟩:=Cd.1 hb
 exact KH hm hX alO N f args h r h' (hN N (ak5 _))
end
section
open Go Go.RowKit Go.ChangeShapes
def gh (W:World):Gh:={ H:=fun b k=>W.cell? ⟨b,k,none⟩,nY:=fun _=>0,cur:=fun _=>.slice none 0 0 }
theorem alE (W:World):Inv (gh W) [] W:=⟨fun _ _ _ h=>h,fun id bl hb=>by simp at hb,fun a b c ha=>by simp [owner] at ha⟩
theorem QJ {P:Program}{A:xO}{f:Nat}{args:List lS}{X:Array Value}{W:World}(hm:P.follows .mixedOrders=true) (hX:tK P A) (h:Iq P A f args []=some (.ret (.bool true),[]))
  (gl:qC A (gh W) [] W) (hx:xP (gh W) [] args X):Calls P f X W fun e W'=>e=.returned (.bool true)∧Below W.heap.size W W':=by
 refine((U1 hm hX f args [] _ _ h (gh W) W X (alE W) gl hx).2).mono fun e W' hpost=>?_
 obtain⟨G',x,_,V,rfl,hV⟩:=hpost
 refine⟨by rw [hV.uX],x.os,x.tape,x.output,x.size,fun k hk=>(x.frame k hk fun id=>by simp [owner]).1⟩
section
variable {H:Type}{enc:TypeId×Value→H}{P:Program}
theorem C3 (hl:laidOutB P=true) {W W':World}{sp':Nat→Bool}(hb:Below W.heap.size W W'):∀{ts:List TypeId}{vs:List Value}{ds:List (DataW H)}{ps:List MemPlace},
  (∀t∈ts,P.readableRec t=true∧t<P.types.size)→DataW.TrodAll enc P W 0 (fun _=>true) true ts vs ds ps→(∀p∈ps,p.block<W.heap.size)→(∀p∈ps,sp' p.block=true)→DataW.TrodAll enc P W' 0 sp' true ts vs ds ps
 | [],[],[],_,_,h,_,_=>h
 | _::_,_::_,_::_,_,ht,⟨p,q,h1,h2,e⟩,hlt,hs =>
  ⟨p,q,WideElems.Trod_stays hl (ht _ (by simp)).1 (ht _ (by simp)).2 h1 (fun x hx=>hb.same (hlt x (by rw [e];exact List.mem_append_left _ hx))) (fun x hx=>hs x (by rw [e];exact List.mem_append_left _ hx)),
   C3 hl hb (fun t h=>ht t (by simp [h])) h2 (fun x hx=>hlt x (by rw [e];exact List.mem_append_right _ hx)) (fun x hx=>hs x (by rw [e];exact List.mem_append_right _ hx)),e⟩
theorem Vz {f:Func}{s:ChangeSpec}{apart fresh handsOn again:Bool}{W W':World}{args:Array Value}{tb:TypeId}{ds gs:List (DataW H)}{before:List MemPlace}
  (hl:laidOutB P=true) (ht:∀t∈f.params.toList,P.readableRec t=true∧t<P.types.size) (hr:f.resultTypes=#[tb]) (htb:P.underlying tb=some .bool) (hv:s.vars=[])
  (hW:DataW.Whole enc P f.params.toList s.vars apart W args.toList ds gs before) (hb:Below W.heap.size W W')
  (h1:(s.fn H (ds++gs)).results=[.lit (.bool true)]) (h2:(s.fn H (ds++gs)).args=ds) (h3:(s.fn H (ds++gs)).vars=[]):s.post enc P f apart fresh handsOn again W args (Value.bool true) W':=by
 have hlt:=hW.lt
 have hold:∀p∈before,(fun b=>decide (b<W.heap.size)) p.block=true:=fun p hp=>by simpa using hlt p hp
 have hW':=hW
 obtain⟨p,q,hA,hV,hps,hz,hn⟩:=hW
 rw [hv] at hV
 obtain⟨rfl,rfl⟩:=trodVars_none hV
 simp only [List.append_nil] at hps h1 h2 h3
 subst hps
 have hargs:∀sp:Nat→Bool,(∀x∈before,sp x.block=true)→DataW.TrodAll enc P W' 0 sp true f.params.toList args.toList (s.fn H ds).args before:=by
  intro sp hs;rw [h2];exact C3 hl hb ht hA hlt hs
 have hres:∀(b:Nat) (sp:Nat→Bool) (hd:Bool),DataW.TrodAll enc P W' b sp hd f.resultTypes.toList ((Value.bool true).resultList f.resultTypes.size) (s.fn H ds).results []:=by
  intro b sp hd;rw [h1,hr];exact trodAll_mk1 (shut_bool htb true)
 have hvars:∀sp:Nat→Bool,DataW.TrodVars enc P W' sp s.vars (s.fn H ds).vars []:=by
  intro sp;rw [h3,hv];rfl
 refine⟨ds,[],before,[],before,[],hW',by simpa using hres _ _ _,by simpa using hargs _ hold,by simpa using hvars _,World.keptBut_mono (fun p hp=>⟨hp,?_⟩) (hb.frame (·∈before)),fun _=>?_⟩
 ·exact Or.inr (by simpa using hp)
 ·refine⟨ok_one hr rfl (okWide_bool_mk htb true),_,_,([]++before)++[],⟨[]++before,[],trodAll_append (hargs _ (fun _ _=>rfl)) (hres _ _ _),hvars _,rfl,?_,?_⟩,?_⟩
  ·intro b off hp
   have hp':MemPlace.cell b off∈before:=by simpa using hp
   rw [hb.frozen (p:=⟨b,off,none⟩) (hlt _ hp')]
   exact hz b off hp'
  ·intro ha
   simpa using hn ha
  ·intro p hp _
   simpa using hp
end
def Ba (H:Nat→Nat→Option Value) (cs:List lS) (vs:List Value):Prop:=cs.length=vs.length∧∀(i:Nat) (v:lS),cs[i]?=some v→v.mZ=true∧pS H v (vs.getD i undef)
theorem Ba.append {H:Nat→Nat→Option Value}{a b:List lS}{x y:List Value}(h:Ba H a x) (h':Ba H b y):Ba H (a++b) (x++y):=by
 refine⟨by simp [h.1,h'.1],fun i v hv=>?_⟩
 rw [ah6]
 by_cases hi:i<a.length
 ·rw [aq3 hi] at hv
  rw [aq3 (by rw [←h.1];exact hi)]
  have:=h.2 i v hv
  rwa [ah6] at this
 ·rw [ak0 (by omega)] at hv
  rw [ak0 (by rw [←h.1];omega),←h.1]
  have:=h'.2 _ v hv
  rwa [ah6] at this
theorem Ba.nil (H:Nat→Nat→Option Value):Ba H [] []:=⟨rfl,by simp⟩
theorem Ba.one {H:Nat→Nat→Option Value}{v:lS}{V:Value}(hk:v.mZ=true) (h:pS H v V):Ba H [v] [V] :=
 ⟨rfl,fun i u hu=>by cases i with
  | zero=>simp at hu;subst hu;exact⟨hk,h⟩
  | succ i=>simp at hu⟩
structure Rd (P:Program) (n:Nat) (t:TypeId) {α:Type}(encA:α→List lS) (wf:α→Prop):Prop where
 get:∀{H:Type}{enc:TypeId×Value→H}{w:World}{sp:Nat→Bool}{held:Bool}{fuel:Nat}{cs:List Value}{x:DataW H×List MemPlace},fuel≤n →
  DataW.trod enc P w 0 sp held fuel t cs=some x→∃a:α,wf a∧Ba (gh w).H (encA a) cs
theorem Rd.int {P:Program}{n:Nat}{t:TypeId}{k:IntKind}(ht:P.underlying t=some (.int k)):Rd P n t (fun z:Int=>[.int k z]) (fun z=>(Lit.int k z).wf=true):=by
 refine⟨?_⟩
 intro H enc w sp held fuel cs x _ h
 obtain⟨z,hx,_,hw⟩:=DataW.trod_int ht h
 exact⟨z,hw,by rw [hx];exact .one rfl (.int _ _)⟩
theorem Rd.bool {P:Program}{n:Nat}{t:TypeId}(ht:P.underlying t=some .bool):Rd P n t (fun z:Bool=>[.bool z]) (fun _=>True):=by
 refine⟨?_⟩
 intro H enc w sp held fuel cs x _ h
 cases fuel with
 | zero=>simp [DataW.trod] at h
 | succ m =>
  unfold DataW.trod at h
  rw [ht] at h
  split at h <;> try (simp at *;done)
  rename_i b _
  exact⟨b,trivial,.one rfl (.bool _)⟩
theorem Rd.str {P:Program}{n:Nat}{t:TypeId}(ht:P.underlying t=some .string):Rd P n t (fun z:List UInt8=>[.str z]) (fun z=>z.length≤maxLen):=by
 refine⟨?_⟩
 intro H enc w sp held fuel cs x _ h
 obtain⟨s,hx,_,hs⟩:=DataW.trod_string ht h
 refine⟨s.data.toList,by simpa using hs,?_⟩
 have:(⟨s.data.toList.toArray⟩:ByteArray)=s:=by cases s;simp
 rw [hx]
 have r:=pS.str (H:=(gh w).H) s.data.toList
 rw [this] at r
 exact .one rfl r
theorem IT {α β:Type}{f:α→Option β}:∀{l:List α}{ys:List β},l.mapM f=some ys→ys.length=l.length∧∀(i:Nat) (x:α),l[i]?=some x→∃y,ys[i]?=some y∧f x=some y
 | [],ys,h=>by simp at h;subst h;simp
 | a::l,ys,h=>by
  simp only [List.mapM_cons,Option.bind_eq_bind,ac6] at h
  obtain⟨y,hy,zs,hzs,h⟩:=h
  simp only [Option.pure_def,ah5] at h;subst h
  obtain⟨h1,h2⟩:=IT hzs
  refine⟨by simp [h1],fun i x hx=>?_⟩
  cases i with
  | zero=>simp at hx;subst hx;exact⟨y,rfl,hy⟩
  | succ i=>simpa using h2 i x (by simpa using hx)
theorem F_ {α:Type}{p:Nat→α→Prop}:∀(n:Nat),(∀i,i<n→∃a,p i a)→∃l:List α,l.length=n∧∀(i:Nat) (a:α),l[i]?=some a→p i a
 | 0,_=>⟨[],rfl,by simp⟩
 | n+1,h=>by
  obtain⟨l,h1,h2⟩:=F_ n fun i hi=>h i (by omega)
  obtain⟨a,ha⟩:=h n (by omega)
  refine⟨l++[a],by simp [h1],fun i b hb=>?_⟩
  by_cases hi:i<l.length
  ·rw [aq3 hi] at hb;exact h2 i b hb
  ·rw [ak0 (by omega)] at hb
   have:i-l.length=0:=by
    by_cases h0:i-l.length=0
    ·exact h0
    ·rw [List.getElem?_eq_none (by simp;omega)] at hb;cases hb
   rw [this] at hb
   simp at hb;subst hb
   have:i=n:=by omega
   subst this;exact ha
theorem Ii {w:World}{base:Nat}{a:Addr}{n:Nat}{cs:List Value}(h:w.cells? base a n=some cs):cs.length=n∧∀i,i<n→w.cell? (a.add i)=cs[i]?:=by
 unfold World.cells? at h
 split at h
 ·obtain⟨h1,h2⟩:=IT h
  refine⟨by simpa using h1,fun i hi=>?_⟩
  obtain⟨y,e1,e2⟩:=h2 i i (by simp [hi])
  rw [e2,e1]
 ·cases h
theorem VM {w:World}{a:Addr}{v:Value}(h:w.cell? a=some v):a=⟨a.block,a.off,none⟩:=by
 unfold World.cell? at h
 split at h
 ·split at h
  ·cases h
  ·rename_i hs
   obtain⟨b,o,s⟩:=a
   cases s with
   | none=>rfl
   | some _=>simp at hs
 ·cases h
theorem add_add (a:Addr) (i j:Nat) (h:a=⟨a.block,a.off,none⟩):(a.add i).add j=⟨a.block,a.off+(i+j),none⟩:=by
 rw [h,add_plain,add_plain]
 simp [Nat.add_assoc]
theorem Rd.slice {P:Program}{n:Nat}{t e:TypeId}{α:Type}{encA:α→List lS}{wf:α→Prop}{sz:Nat}(ht:P.underlying t=some (.slice e)) (he:P.cellsOf e=sz+1) (hsz:∀a,(encA a).length=sz+1) (r:Rd P n e encA wf) :
  Rd P (n+1) t (fun z:List α=>[.slice (z.map encA) .no]) (fun z=>z.length≤maxLen∧∀a∈z,wf a):=by
 refine⟨?_⟩
 intro H enc w sp held fuel cs x hf h
 cases fuel with
 | zero=>simp [DataW.trod] at h
 | succ m =>
  unfold DataW.trod at h
  rw [ht] at h
  split at h <;> try (simp at *;done)
  ·refine⟨[],by simp,.one rfl (.slice0 none 0)⟩
  ·rename_i e' a len cap hu
   cases hu
   split at h
   ·rename_i hcond
    obtain⟨_,hlen,hcap⟩:=hcond
    obtain⟨elems,hel,_⟩:=ac6.1 h
    obtain⟨h1,h2⟩:=IT hel
    by_cases h0:len=0
    ·subst h0
     exact⟨[],by simp,.one rfl (.slice0 (some a) cap)⟩
    ·-- an element's cells
     have hcell:∀i,i<len→∃cs,w.cells? 0 (a.add (i*(sz+1))) (sz+1)=some cs∧∃z:α,wf z∧Ba (gh w).H (encA z) cs:=by
      intro i hi
      obtain⟨y,e1,e2⟩:=h2 i i (by simp [hi])
      obtain⟨cs,e3,e4⟩:=ac6.1 e2
      rw [he] at e3
      exact⟨cs,e3,r.get (by omega) e4⟩
     have ha:a=⟨a.block,a.off,none⟩:=by
      obtain⟨cs,e1,_⟩:=hcell 0 (by omega)
      obtain⟨l1,l2⟩:=Ii e1
      have:=l2 0 (by omega)
      rw [ag8 (by omega)] at this
      have:=VM this
      simpa [Addr.add] using this
     obtain⟨l,hl,hp⟩:=F_ (p:=fun i (z:α)=>∃cs,w.cells? 0 (a.add (i*(sz+1))) (sz+1)=some cs∧wf z∧Ba (gh w).H (encA z) cs) len fun i hi=>by
      obtain⟨cs,e1,z,e2,e3⟩:=hcell i hi
      exact⟨z,cs,e1,e2,e3⟩
     have key:∀(i j:Nat) (row:List lS) (v:lS),(l.map encA)[i]?=some row→row[j]?=some v →
       (gh w).H a.block (a.off+(i*(sz+1)+j))=some ((w.cell? ⟨a.block,a.off+(i*(sz+1)+j),none⟩).getD undef)∧v.mZ=true∧pS (gh w).H v ((w.cell? ⟨a.block,a.off+(i*(sz+1)+j),none⟩).getD undef):=by
      intro i j row v hi hj
      simp only [ak4,ah7] at hi
      obtain⟨z,hz,rfl⟩:=hi
      obtain⟨cs,e1,_,e3⟩:=hp i z hz
      obtain⟨l1,l2⟩:=Ii e1
      have hjlt:j<sz+1:=by rw [←hsz z];exact(ag0.1 hj).1
      have e4:=l2 j hjlt
      rw [add_add _ _ _ ha] at e4
      obtain⟨e5,e6⟩:=e3.2 j v hj
      have:cs[j]?=some (cs.getD j undef):=by rw [ah6,ag8 (by omega)];rfl
      rw [this] at e4
      refine⟨by show w.cell? _=_;rw [e4];rfl,e5,by rw [e4];exact e6⟩
     have hrows:∀row∈l.map encA,row.length=sz+1:=by
      intro row hr
      obtain⟨z,_,rfl⟩:=List.mem_map.1 hr
      exact hsz z
     refine⟨l,⟨by omega,fun z hz=>?_⟩,.one rfl ?_⟩
     ·obtain⟨i,hi⟩:=List.getElem?_of_mem hz
      obtain⟨_,_,e2,_⟩:=hp i z hi
      exact e2
     ·have:=pS.slice (H:=(gh w).H) (l.map encA) a.block a.off cap (sz+1) (fun k=>(w.cell? ⟨a.block,a.off+k,none⟩).getD undef) hrows (by simp;omega)
       (fun i j row v hi hj=>(key i j row v hi hj).1) (fun i j row v hi hj=>(key i j row v hi hj).2.1) (fun i j row v hi hj=>(key i j row v hi hj).2.2)
      rw [←ha] at this
      simpa [hl] using this
   ·cases h
structure UB (P:Program) (n:Nat) (fs:List Field) (off total:Nat) {α:Type}(encA:α→List lS) (wf:α→Prop):Prop where
 get:∀{H:Type}{enc:TypeId×Value→H}{w:World}{sp:Nat→Bool}{held:Bool}{fuel:Nat}{cs:List Value}{xs:List (DataW H×List MemPlace)},fuel≤n→cs.length=total →
  (fs.mapM fun f=>DataW.trod enc P w 0 sp held fuel f.type ((cs.drop f.offset).take (P.cellsOf f.type)))=some xs→∃a:α,wf a∧Ba (gh w).H (encA a) (cs.drop off)
theorem UB.nil {P:Program}{n total:Nat}:UB P n [] total total (fun _:Unit=>[]) (fun _=>True):=by
 refine⟨?_⟩
 intro H enc w sp held fuel cs xs _ hl h
 refine⟨(),trivial,?_⟩
 rw [List.drop_eq_nil_of_le (by omega)]
 exact .nil _
theorem UB.cons {P:Program}{n off total sz:Nat}{f:Field}{fs:List Field}{α β:Type}{encA:α→List lS}{wfA:α→Prop}{encB:β→List lS}{wfB:β→Prop}
  (ho:f.offset=off) (hs:P.cellsOf f.type=sz) (r:Rd P n f.type encA wfA) (rs:UB P n fs (off+sz) total encB wfB):UB P n (f::fs) off total (fun z:α×β=>encA z.1++encB z.2) (fun z=>wfA z.1∧wfB z.2):=by
 refine⟨?_⟩
 intro H enc w sp held fuel cs xs hf hl h
 simp only [List.mapM_cons,Option.bind_eq_bind,ac6] at h
 obtain⟨x,h1,ys,h2,_⟩:=h
 obtain⟨a,wa,ra⟩:=r.get hf h1
 obtain⟨b,wb,rb⟩:=rs.get hf hl h2
 refine⟨(a,b),⟨wa,wb⟩,?_⟩
 rw [ho,hs] at ra
 have:cs.drop off=(cs.drop off).take sz++cs.drop (off+sz):=by rw [←List.drop_drop,List.take_append_drop]
 rw [this]
 exact ra.append rb
theorem Rd.struct {P:Program}{n:Nat}{t:TypeId}{fs:Array Field}{α:Type}{encA:α→List lS}{wf:α→Prop}{total:Nat}(ht:P.underlying t=some (.struct fs)) (hc:P.cellsOf t=total)
  (r:UB P n fs.toList 0 total encA wf):Rd P (n+1) t encA wf:=by
 refine⟨?_⟩
 intro H enc w sp held fuel cs x hf h
 cases fuel with
 | zero=>simp [DataW.trod] at h
 | succ m =>
  unfold DataW.trod at h
  rw [ht] at h
  split at h <;> try (simp at *;done)
  rename_i fs' cs' hu
  cases hu
  split at h
  ·rename_i hlen
   simp only [ah7] at h
   obtain⟨xs,h1,_⟩:=h
   obtain⟨a,wa,ra⟩:=r.get (by omega) (by rw [hlen,hc]) h1
   exact⟨a,wa,by simpa using ra⟩
  ·cases h
theorem Rd.to {P:Program}{n:Nat}{t:TypeId}{α β:Type}{encA:α→List lS}{wfA:α→Prop}{encB:β→List lS}{wfB:β→Prop}(r:Rd P n t encA wfA) (g:α→β) (he:∀a,encB (g a)=encA a) (hw:∀a,wfA a→wfB (g a)):Rd P n t encB wfB:=by
 refine⟨?_⟩
 intro H enc w sp held fuel cs x hf h
 obtain⟨a,wa,ra⟩:=r.get hf h
 exact⟨g a,hw a wa,by rw [he];exact ra⟩
theorem Rd.mono {P:Program}{n m:Nat}{t:TypeId}{α:Type}{encA:α→List lS}{wfA:α→Prop}(hnm:m≤n) (r:Rd P n t encA wfA):Rd P m t encA wfA:=by
 refine⟨?_⟩
 intro H enc w sp held fuel cs x hf h
 exact r.get (by omega) h
theorem Rd.arg {P:Program}{t:TypeId}{α:Type}{encA:α→lS}{wf:α→Prop}(r:∀n,Rd P n t (fun a=>[encA a]) wf) {H:Type}{enc:TypeId×Value→H}{w:World}{sp:Nat→Bool}{held:Bool}{v:Value}{d:DataW H}{ps:List MemPlace}
  (hv:∀C,v≠.agg C) (h:DataW.Trod enc P w 0 sp held t v d ps):∃a,wf a∧mJ (gh w) [] (encA a) v:=by
 obtain⟨fuel,hf⟩:=h
 obtain⟨a,wa,ra⟩:=(r fuel).get (ak5 _) hf
 refine⟨a,wa,.p _ _ ?_⟩
 have:=(ra.2 0 _ rfl).2
 have hc:v.cells=#[v]:=by cases v <;> simp_all [Value.cells]
 rw [hc] at this
 simpa using this
theorem Rd.azU {P:Program}{t:TypeId}{α:Type}{encA:α→List lS}{wf:α→Prop}(r:∀n,Rd P n t encA wf) {H:Type}{enc:TypeId×Value→H}{w:World}{sp:Nat→Bool}{held:Bool}{v:Value}{d:DataW H}{ps:List MemPlace}
  (hv:∃C,v=.agg C) (h:DataW.Trod enc P w 0 sp held t v d ps):∃a,wf a∧mJ (gh w) [] (.agg (encA a)) v:=by
 obtain⟨fuel,hf⟩:=h
 obtain⟨a,wa,ra⟩:=(r fuel).get (ak5 _) hf
 obtain⟨C,rfl⟩:=hv
 refine⟨a,wa,.p _ _ (.agg _ _ (by simpa [Value.cells] using ra.1) fun i v hv=>?_)⟩
 have:=(ra.2 i v hv).2
 rw [ah6] at this
 rw [aj5]
 simpa [Value.cells] using this
end
section
open Go
attribute [simp] ak6 Option.bind_none
theorem F1 {d:Nat}:pZ none d=some d:=(rfl)
@[congr] theorem arJ {α β:Type}{x x':Option α}{f:α→Option β}(h:x=x'):x.bind f=x'.bind f:=by rw [h]
@[congr] theorem abH {x x':Option (nT×lT)}{f g:lS→lT→Option R}(h:x=x'):mR x f g=mR x' f g:=by rw [h]
@[congr] theorem ahE {x x':Option (lS×lT)}{f:lS→lT→Option R}(h:x=x'):mC x f=mC x' f:=by rw [h]
@[congr] theorem ajV {x x':lS}{t e:Option R}(h:x=x'):mH x t e=mH x' t e:=by rw [h]
@[congr] theorem Z_ {w:Bool}{x x':lS}{t e:Option R}(h:x=x'):mE w x t e=mE w x' t e:=by rw [h]
@[congr] theorem ai6 {x x':Ex}{t:Option R}{e:Ex→Option R}(h:x=x'):Ex.nC x t e=Ex.nC x' t e:=by rw [h]
@[congr] theorem acR {i:Nat}{x x':Ex}{t:Option R}{e:Ex→Option R}(h:x=x'):Ex.inBlock i x t e=Ex.inBlock i x' t e:=by rw [h]
@[congr] theorem avK {x x':Ex}{t:Option R}(h:x=x'):Ex.rQ x t=Ex.rQ x' t:=by rw [h]
@[congr] theorem arS {x x':Ex}{t:Option (nT×lT)}{tp:lS→Option (nT×lT)}(h:x=x'):Ex.QO x t tp=Ex.QO x' t tp:=by rw [h]
@[congr] theorem arQ {x x':Ex}{t:Option (nT×lT)}(h:x=x'):Ex.oA x t=Ex.oA x' t:=by rw [h]
@[congr] theorem arN {α:Type}{x x':Bool}{t e:α}(h:x=x'):cond x t e=cond x' t e:=by rw [h]
@[congr] theorem arV {f g:lS→lT→Option R}{x x':R}(h:x=x'):mY f g x=mY f g x':=by rw [h]
section
variable {k k':IntKind}{a b:Int}{x y:Bool}{s t:List UInt8}{v w:lS}{h:lT}{m:Nat}
@[simp] theorem atJ:mP .add (.int k a) (.int k b)=some (.int k (k.wrap (a+b))):=by simp [mP]
@[simp] theorem WI:mP .sub (.int k a) (.int k b)=some (.int k (k.wrap (a-b))):=by simp [mP]
@[simp] theorem WG:mP .mul (.int k a) (.int k b)=some (.int k (k.wrap (a*b))):=by simp [mP]
@[simp] theorem WE:mP .eql (.int k a) (.int k b)=some (.bool (decide (a=b))):=by simp [mP];rfl
@[simp] theorem WH:mP .neq (.int k a) (.int k b)=some (.bool (!decide (a=b))):=by simp [mP,bne];rfl
@[simp] theorem HF:mP .lss (.int k a) (.int k b)=some (.bool (decide (a<b))):=by simp [mP]
@[simp] theorem atM:mP .leq (.int k a) (.int k b)=some (.bool (decide (a≤b))):=by simp [mP]
@[simp] theorem atL:mP .gtr (.int k a) (.int k b)=some (.bool (decide (b<a))):=by simp [mP]
@[simp] theorem atK:mP .geq (.int k a) (.int k b)=some (.bool (decide (b≤a))):=by simp [mP]
@[simp] theorem aq8:mP .add (.str s) (.str t)=if s.length+t.length≤4611686018427387904 then some (.str (s++t)) else none:=(rfl)
@[simp] theorem aq9:mP .eql (.str s) (.str t)=some (.bool (decide (s=t))):=by
 have:(s == t)=decide (s=t):=by by_cases h:s=t <;> simp [h]
 simp [mP,this]
@[simp] theorem arA:mP .neq (.str s) (.str t)=some (.bool (!decide (s=t))):=by
 have:(s == t)=decide (s=t):=by by_cases h:s=t <;> simp [h]
 simp [mP,this]
@[simp] theorem aq6:Oq .eql (.bool x) (.bool y)=some (.bool (decide (x=y))):=by cases x <;> cases y <;> rfl
@[simp] theorem aq7:Oq .neq (.bool x) (.bool y)=some (.bool (!decide (x=y))):=by cases x <;> cases y <;> rfl
@[simp] theorem axY:yD .not (.bool x)=some (.bool (!x)):=(rfl)
@[simp] theorem aa9:yD .neg (.int k a)=some (.int k (k.wrap (0-a))):=(rfl)
@[simp] theorem aaV:Bo k (.int k' a)=some (.int k (k.wrap a)):=(rfl)
@[simp] theorem aj1:nA (.bool x) v w=some (bif x then v else w):=(rfl)
@[simp] theorem arE:CS (.int k a) (.int k' b)=some (.int k (min a b)):=by
 simp only [CS,ah5,lS.int.injEq,true_and]
 by_cases h:b<a <;> simp [h] <;> omega
@[simp] theorem arD:DR (.int k a) (.int k' b)=some (.int k (max a b)):=by
 simp only [DR,ah5,lS.int.injEq,true_and]
 by_cases h:b > a <;> simp [h] <;> omega
@[simp] theorem aaY {rows:List (List lS)}{t:Tok}:nK (.slice rows t)=some (.int .i64 rows.length):=(rfl)
@[simp] theorem ag4:GW (.str s)=some (.int .i64 s.length):=(rfl)
@[simp] theorem l9 {t e:Option R}:mH (.bool x) t e=bif x then t else e:=(rfl)
@[simp] theorem lV {run skip:Option R}:mE true (.bool x) run skip=bif x then run else skip:=(rfl)
@[simp] theorem lU {run skip:Option R}:mE false (.bool x) run skip=bif x then skip else run:=(rfl)
@[simp] theorem Xm {g:Bool}{run skip:Option R}:mE g (.tuple []) run skip=skip:=(rfl)
@[simp] theorem ahR {kv kp:lS→lT→Option R}:mY kv kp (.normal,[v],h)=kv v h:=(rfl)
@[simp] theorem aBb:mM v h=some (.normal,[v],h):=(rfl)
@[simp] theorem ahD {kv kp:lS→lT→Option R}:mR (some (.ret v,h)) kv kp=kv v h:=(rfl)
@[simp] theorem ahF {kv:lS→lT→Option R}:mC (some (v,h)) kv=kv v h:=(rfl)
@[simp] theorem tX {kn:Option R}{ke:Ex→Option R}:Ex.nC .normal kn ke=kn:=(rfl)
@[simp] theorem aqK {kn:Option R}{ke:Ex→Option R}:Ex.nC .ret kn ke=ke .ret:=(rfl)
@[simp] theorem Qd {i:Nat}{kn:Option R}{ke:Ex→Option R}:Ex.nC (.exit i) kn ke=ke (.exit i):=(rfl)
@[simp] theorem aoH {kn:Option R}:Ex.rQ .normal kn=kn:=(rfl)
@[simp] theorem Xq {i:Nat}{kn:Option R}{ke:Ex→Option R}:Ex.inBlock i .normal kn ke=kn:=(rfl)
@[simp] theorem ahX {i:Nat}{kn:Option R}{ke:Ex→Option R}:Ex.inBlock i .ret kn ke=ke .ret:=(rfl)
@[simp] theorem Mr {i j:Nat}{kn:Option R}{ke:Ex→Option R}:Ex.inBlock i (.exit j) kn ke=bif j == i then kn else ke (.exit j):=(rfl)
@[simp] theorem ahN {x:Option (nT×lT)}:Ex.oA .normal x=x:=(rfl)
@[simp] theorem ahC {v:lS}{h:lT}{kv kp:lS→lT→Option R}:mR (some (.pan v,h)) kv kp=kp v h:=(rfl)
@[simp] theorem au1 {v:lS}{l:List lS}{h:lT}{kv kp:lS→lT→Option R}:mY kv kp (.pan v,l,h)=kp v h:=by cases l <;> rfl
@[simp] theorem ayG {v:lS}{h:lT}:Gk v h=some (.pan v,[],h):=(rfl)
@[simp] theorem aqJ {v:lS}{kn:Option R}{ke:Ex→Option R}:Ex.nC (.pan v) kn ke=ke (.pan v):=(rfl)
@[simp] theorem ahW {id:Nat}{v:lS}{kn:Option R}{ke:Ex→Option R}:Ex.inBlock id (.pan v) kn ke=ke (.pan v):=(rfl)
@[simp] theorem ayQ {v:lS}{kn:Option R}:Ex.rQ (.pan v) kn=none:=(rfl)
@[simp] theorem ahP {x:Option (nT×lT)}{xp:lS→Option (nT×lT)}:Ex.QO .normal x xp=x:=(rfl)
@[simp] theorem auU {x:Option (nT×lT)}{xp:lS→Option (nT×lT)}:Ex.QO .ret x xp=x:=(rfl)
@[simp] theorem auT {v:lS}{x:Option (nT×lT)}{xp:lS→Option (nT×lT)}:Ex.QO (.pan v) x xp=xp v:=(rfl)
@[simp] theorem ahM {x:Option R}{xp:lS→Option R}:Ex.QN .normal x xp=x:=(rfl)
@[simp] theorem auR {x:Option R}{xp:lS→Option R}:Ex.QN .ret x xp=x:=(rfl)
@[simp] theorem auQ {v:lS}{x:Option R}{xp:lS→Option R}:Ex.QN (.pan v) x xp=xp v:=(rfl)
@[simp] theorem ahO {x:Option lT}:Ex.W_ .normal x=x:=(rfl)
@[simp] theorem auS {x:Option lT}:Ex.W_ .ret x=x:=(rfl)
@[simp] theorem aiP {x:Option R}:Ex.T7 .ret x=x:=(rfl)
@[simp] theorem Wb {t:Nat}{z:lS}:yK t z .niliface=some (.tuple [z,.bool false]):=(rfl)
@[simp] theorem TI {t t':Nat}{z w:lS}:yK t z (.iface t' w)=some (bif t' == t then .tuple [w,.bool true] else .tuple [z,.bool false]):=(rfl)
@[congr] theorem arP {x x':Ex}{t:Option R}{tp:lS→Option R}(h:x=x'):Ex.QN x t tp=Ex.QN x' t tp:=by rw [h]
@[congr] theorem arR {x x':Ex}{t:Option lT}(h:x=x'):Ex.W_ x t=Ex.W_ x' t:=by rw [h]
@[congr] theorem avI {α β:Type}{x x':Option α}{f:α→β}(h:x=x'):x.map f=x'.map f:=by rw [h]
@[simp] theorem W9 {x:Option (nT×lT)}:Ex.oA .ret x=x:=(rfl)
@[simp] theorem ay0:lS.qJ m h (.int k a)=.int k a:=(rfl)
@[simp] theorem aw3:lS.qJ m h (.bool x)=.bool x:=(rfl)
@[simp] theorem ay4:lS.qJ m h (.str s)=.str s:=(rfl)
@[simp] theorem asU {rows:List (List lS)}:lS.qJ m h (.slice rows .no)=.slice rows .no:=(rfl)
@[simp] theorem ay2:lS.qJ m h (.slice [] .nil)=.slice [] .nil:=(rfl)
@[simp] theorem asV:lS.qJ m h (.tuple [])=.tuple []:=(rfl)
@[simp] theorem aw4:lS.qJ m h .junk=.junk:=(rfl)
@[simp] theorem ay3 {rows:List (List lS)}{id:Nat}:lS.qJ m h (.slice rows (.own id))=bif decide (id<m) then .slice rows (.own id) else .slice rows .no:=(rfl)
@[simp] theorem ayZ {cs:List lS}:lS.qJ m h (.agg cs)=.agg (cs.map (·.oL m h)):=(rfl)
@[simp] theorem awY:lS.oL m h (.int k a)=.int k a:=(rfl)
@[simp] theorem asP:lS.oL m h (.bool x)=.bool x:=(rfl)
@[simp] theorem aw1:lS.oL m h (.str s)=.str s:=(rfl)
@[simp] theorem apW {rows:List (List lS)}:lS.oL m h (.slice rows .no)=.slice rows .no:=(rfl)
@[simp] theorem aw0:lS.oL m h (.slice [] .nil)=.slice [] .nil:=(rfl)
@[simp] theorem Zl {rows:List (List lS)}{id:Nat}:lS.oL m h (.slice rows (.own id))=bif decide (id<m) then .slice rows (.own id) else .slice rows .no:=(rfl)
@[simp] theorem apY {v w:lS}:lS.qJ m h (.tuple [v,w])=.tuple [(match v with | .agg cs=>.agg (cs.map (·.oL m h)) | v=>v.oL m h),(match w with | .agg cs=>.agg (cs.map (·.oL m h)) | v=>v.oL m h)]:=(rfl)
@[simp] theorem as2:lS.l_ (.int k a)=.int k a:=(rfl)
@[simp] theorem aqS:lS.l_ (.bool x)=.bool x:=(rfl)
@[simp] theorem as5:lS.l_ (.str s)=.str s:=(rfl)
@[simp] theorem ajA {rows:List (List lS)}{t:Tok}:lS.l_ (.slice rows t)=.slice rows .no:=(rfl)
@[simp] theorem ajB:lS.l_ (.tuple [])=.tuple []:=(rfl)
@[simp] theorem as1 {cs:List lS}:lS.l_ (.agg cs)=.agg (cs.map lS.pQ):=(rfl)
@[simp] theorem aqQ:lS.pQ (.int k a)=.int k a:=(rfl)
@[simp] theorem ai9:lS.pQ (.bool x)=.bool x:=(rfl)
@[simp] theorem aqR:lS.pQ (.str s)=.str s:=(rfl)
@[simp] theorem agC {rows:List (List lS)}{t:Tok}:lS.pQ (.slice rows t)=.slice rows .no:=(rfl)
@[simp] theorem agD {v w:lS}:lS.l_ (.tuple [v,w])=.tuple [(match v with | .agg cs=>.agg (cs.map lS.pQ) | v=>v.pQ),(match w with | .agg cs=>.agg (cs.map lS.pQ) | v=>v.pQ)]:=(rfl)
@[simp] theorem asZ:o_ m []=some []:=by simp [o_,pC]
theorem Ta {bs:lT}:o_ 0 bs=some []:=by simp [o_,pC]
@[simp] theorem aqL {bs:lT}:o_ 0 bs=some []:=Ta
@[simp] theorem acN {m:Nat}{h:lT}:Ex.qJ m h .normal=.normal:=(rfl)
@[simp] theorem arU {m:Nat}{h:lT}:Ex.qJ m h .ret=.ret:=(rfl)
@[simp] theorem ak2 {m:Nat}{h:lT}{id:Nat}:Ex.qJ m h (.exit id)=.exit id:=(rfl)
@[simp] theorem arT {m:Nat}{h:lT}{v:lS}:Ex.qJ m h (.pan v)=.pan (v.qJ m h):=(rfl)
theorem Fb {e:Ex}{vs:List lS}:mK 0 e vs h=some (e.qJ 0 h,vs.map (·.qJ 0 h),[]):=by simp [mK]
theorem nE:nZ 0 v h=some (.ret (v.qJ 0 h).l_,[]):=by simp [nZ]
def sW (h:lT) (id:Nat):Bool:=match h[id]? with
 | some (.front 0 0)=>true
 | _=>false
@[simp] theorem acV {r:lT}:sW (.front 0 0::r) 0=true:=(rfl)
@[simp] theorem aaA {cs:List lS}{r:lT}:sW (.cells cs::r) 0=false:=(rfl)
@[simp] theorem aaB {n sz:Nat}{r:lT}:sW (.front (n+1) sz::r) 0=false:=(rfl)
@[simp] theorem acU {b:mT}{r:lT}{n:Nat}:sW (b::r) (n+1)=sW r n:=(rfl)
@[simp] theorem ahT {cs:List lS}{r:lT}:oX (.cells cs::r) 0=some cs:=(rfl)
@[simp] theorem ahS {b:mT}{r:lT}{n:Nat}:oX (b::r) (n+1)=oX r n:=(rfl)
@[simp] theorem q_ {n id off:Nat}:mF false n h (.ptr id off)=(oX h id).bind fun cs=>cs[off]?:=by
 simp only [mF,apart,cond_false];cases oX h id <;> rfl
@[simp] theorem ajY {n id off:Nat}:mF true n h (.ptr id off)=(oX h id).bind fun cs=>if off+n≤cs.length then some (.agg ((cs.drop off).take n)) else none:=by
 simp only [mF,apart,cond_true];cases oX h id <;> rfl
@[simp] theorem s4 {n id off:Nat}:mL n h (.ptr id off) v=(oX h id).bind fun cs=>if v.cells.length=n∧off+n≤cs.length∧v.cells.all lS.mZ then some (h.set id (.cells (putCells cs off (qS h (cs.drop off) v.cells)))) else none:=by
 simp only [mL];cases oX h id <;> rfl
@[simp] theorem ah2 {vs:List lS}:qS h [] vs=vs:=(rfl)
@[simp] theorem D8 {os:List lS}:qS h os []=[]:=by cases os <;> rfl
@[simp] theorem AG {o:lS}{os vs:List lS}:qS h (o::os) (v::vs)=tL h o v::qS h os vs:=(rfl)
@[simp] theorem ar1 {o:lS}:tL h o (.int k a)=.int k a:=(rfl)
@[simp] theorem alK {o:lS}:tL h o (.bool x)=.bool x:=(rfl)
@[simp] theorem ar5 {o:lS}:tL h o (.str s)=.str s:=(rfl)
@[simp] theorem ar2 {o:lS}{i:Nat}:tL h o (.map i)=.map i:=(rfl)
@[simp] theorem ar4 {o:lS}{i j:Nat}:tL h o (.ptr i j)=.ptr i j:=(rfl)
@[simp] theorem avB {o:lS}{rows:List (List lS)}:tL h o (.slice rows .no)=.slice rows .no:=by cases rows <;> rfl
@[simp] theorem ar3 {o:lS}{rows:List (List lS)}{id:Nat}:tL h o (.slice rows (.own id))=.slice rows (.own id):=by cases rows <;> rfl
@[simp] theorem U7 {id:Nat}:tL h (.slice [] (.own id)) (.slice [] .nil)=bif sW h id then .slice [] (.own id) else .slice [] .nil:=by
 have e:tL h (.slice [] (.own id)) (.slice [] .nil)=match h[id]? with | some (.front 0 0)=>.slice [] (.own id) | _=>.slice [] .nil:=(rfl)
 rw [e]
 unfold sW
 split <;> rfl
@[simp] theorem alL:tL h (.slice [] .nil) (.slice [] .nil)=.slice [] .nil:=(rfl)
@[simp] theorem QY {rows:List (List lS)}:tL h (.slice rows .no) (.slice [] .nil)=.slice [] .nil:=by cases rows <;> rfl
@[simp] theorem aaW {id o off:Nat}:mG off (.ptr id o)=some (.ptr id (o+off)):=(rfl)
@[simp] theorem Z1 {cs:List lS}{off:Nat}:mG off (.pptr cs)=some (.pptr (cs.drop off)):=(rfl)
@[simp] theorem Z7 {id off:Nat}:mO (.ptr id off)=some (.ptr id off):=(rfl)
@[simp] theorem WN {cs:List lS}:mO (.pptr cs)=some (.pptr cs):=(rfl)
@[simp] theorem UX:lS.cells (.int k a)=[.int k a]:=(rfl)
@[simp] theorem akT:lS.cells (.bool x)=[.bool x]:=(rfl)
@[simp] theorem arM:lS.cells (.str s)=[.str s]:=(rfl)
@[simp] theorem ahJ {rows:List (List lS)}{t:Tok}:lS.cells (.slice rows t)=[.slice rows t]:=(rfl)
@[simp] theorem arK {cs:List lS}:lS.cells (.agg cs)=cs:=(rfl)
@[simp] theorem arL {i:Nat}:lS.cells (.map i)=[.map i]:=(rfl)
@[simp] theorem akQ:lS.mZ (.int k a)=true:=(rfl)
@[simp] theorem ahI:lS.mZ (.bool x)=true:=(rfl)
@[simp] theorem akS:lS.mZ (.str s)=true:=(rfl)
@[simp] theorem Mf {rows:List (List lS)}{t:Tok}:lS.mZ (.slice rows t)=true:=(rfl)
@[simp] theorem akR {i:Nat}:lS.mZ (.map i)=true:=(rfl)
@[simp] theorem alG:lS.o7 (.int k a)=false:=(rfl)
@[simp] theorem ahY:lS.o7 (.bool x)=false:=(rfl)
@[simp] theorem alI:lS.o7 (.str s)=false:=(rfl)
@[simp] theorem acW {rows:List (List lS)}{t:Tok}:lS.o7 (.slice rows t)=false:=(rfl)
@[simp] theorem alF {cs:List lS}:lS.o7 (.agg cs)=false:=(rfl)
@[simp] theorem alH {i:Nat}:lS.o7 (.map i)=false:=(rfl)
@[simp] theorem awZ {i:Nat}:lS.oL m h (.map i)=bif decide (i<m) then .map i else .junk:=(rfl)
@[simp] theorem ay1 {i:Nat}:lS.qJ m h (.map i)=bif decide (i<m) then .map i else .junk:=(rfl)
@[simp] theorem af4 {i o:Nat}:lS.qJ m h (.ptr i o)=lS.oL m h (.ptr i o):=(rfl)
theorem qG {i o:Nat}(hi:i<m):lS.oL m h (.ptr i o)=.ptr i o:=by simp [lS.oL,hi]
theorem SP {i o:Nat}(hi:i<m):lS.qJ m h (.ptr i o)=.ptr i o:=by rw [af4,qG hi]
@[simp] theorem as4 {i o:Nat}:lS.l_ (.ptr i o)=.ptr i o:=(rfl)
@[simp] theorem as3 {i:Nat}:lS.l_ (.map i)=.map i:=(rfl)
@[simp] theorem NI:nQ m h []=some []:=(rfl)
@[simp] theorem pY {cs:List lS}:nQ m h (v::cs)=bif (v.oL m h).mZ then(nQ m h cs).map (v.oL m h::·) else none:=by
 simp only [nQ];cases nQ m h cs <;> rfl
@[simp] theorem NG {cs:List lS}:pX m h (.cells cs)=(nQ m h cs).map .cells:=(rfl)
@[simp] theorem NH {i j:Nat}:pX m h (.front i j)=some (.front i j):=(rfl)
@[simp] theorem ai2:pC m h []=some []:=(rfl)
@[simp] theorem xG {b:mT}{bs:lT}:pC m h (b::bs)=(pX m h b).bind fun b'=>(pC m h bs).map (b'::·):=by
 simp only [pC];cases pX m h b <;> cases pC m h bs <;> rfl
@[simp] theorem Z5 {i:Nat}:tC (.str s) (.int k (i:Int))=(s[i]?).map fun b=>.int .u8 b.toNat:=by simp [tC]
@[simp] theorem WK:tC (.str s) (.int k 0)=(s[0]?).map fun b=>.int .u8 b.toNat:=by simp [tC]
@[simp] theorem WJ {i:Nat}{vs:List lS}:nO i (.tuple vs)=vs[i]?:=(rfl)
end
theorem wrap64 {n:Int}(h1:-9223372036854775808≤n) (h2:n≤9223372036854775807):IntKind.wrap .i64 n=n:=by
 simp [IntKind.wrap,IntKind.signed,IntKind.bits]
 split <;> omega
@[simp] theorem lW {α:Type}{enc:α→List lS}{sz:Nat}{xs:List α}{t:Tok}{k:IntKind}{i:Nat} :
  mI sz (.slice (xs.map enc) t) (.int k (i:Int))=(xs[i]?).bind fun x=>if (enc x).length=sz then some (.pptr (enc x)) else none:=by
 simp only [mI,Int.natCast_nonneg,if_true,Int.toNat_natCast,ak4]
 cases xs[i]? <;> rfl
theorem LZ {sz:Nat}{rows:List (List lS)}{t:Tok}{k:IntKind}{n:Int}:mI sz (.slice rows t) (.int k n)=if 0≤n then(rows[n.toNat]?).bind fun row=>if row.length=sz then some (.pptr row) else none else none:=by
 simp only [mI]
 split
 ·cases rows[n.toNat]? <;> rfl
 ·rfl
@[simp] theorem ajX {n:Nat}{h:lT}{cs:List lS}:mF true n h (.pptr cs)=if n≤cs.length then some (.agg (cs.take n)) else none:=by
 simp [mF,apart]
@[simp] theorem OF {n:Nat}{h:lT}{cs:List lS}:mF false n h (.pptr cs)=cs[0]?:=by
 simp [mF,apart]
theorem oN {P:Program}{A:xO}{f:Nat}{args:List lS}{h:lT}{m:Option (nT×lT)}{r:nT×lT}(he:p9 P A nL (Iq P A) f args h=m) (hm:m=some r):Iq P A f args h=some r:=Xa (he.trans hm)
theorem nN {A:xO}{K:mA}{f:Nat}{args:List lS}{h:lT}{v:lS}(hp:A.pure f=true) (hs:args.all (lS.sM 0)=true) (hk:K f args []=some (.ret v,[])):mW A K f args h=some (.ret v,h):=by
 simp [mW,hp,hs,hk,tW]
end
section
open Go
section
variable {k k':IntKind}{a b:Int}{h:lT}{m n id tot off len sz:Nat}{v w:lS}{cs:List lS}
@[simp] theorem agG:lS.l_ (.vslice id tot off len sz)=.vslice id tot off len sz:=(rfl)
@[simp] theorem aqU:lS.l_ (.vptr id tot off)=.vptr id tot off:=(rfl)
@[simp] theorem aaF:lS.pQ (.vslice id tot off len sz)=.vslice id tot off len sz:=(rfl)
@[simp] theorem acL:lS.cells (.vslice id tot off len sz)=[.vslice id tot off len sz]:=(rfl)
@[simp] theorem Z9:lS.mZ (.vslice id tot off len sz)=true:=(rfl)
@[simp] theorem QK {f:Nat}{x y:List lS}:lS.cells (.func f x y)=[.func f x y]:=(rfl)
@[simp] theorem OP {f:Nat}{x y:List lS}:lS.mZ (.func f x y)=true:=(rfl)
@[simp] theorem aaC:lS.o7 (.vslice id tot off len sz)=false:=(rfl)
@[simp] theorem acX {o:lS}:tL h o (.vslice id tot off len sz)=.vslice id tot off len sz:=(rfl)
theorem yT (hi:id<m):lS.oL m h (.vslice id tot off len sz)=.vslice id tot off len sz:=by simp [lS.oL,hi]
theorem Kr:lS.qJ m h (.vslice id tot off len sz)=lS.oL m h (.vslice id tot off len sz):=(rfl)
theorem Dw (hi:id<m):lS.qJ m h (.vslice id tot off len sz)=.vslice id tot off len sz:=by rw [Kr,yT hi]
@[simp] theorem Z6:nK (.vslice id tot off len sz)=some (.int .i64 len):=(rfl)
@[simp] theorem Wa {i:Nat}{sz':Nat}:mI sz' (.vslice id tot off len sz) (.int k (i:Int))=if i<len∧sz=sz' then some (.vptr id tot (off+i*sz')) else none:=by
 simp [mI]
@[simp] theorem Z2 {o:Nat}:mG o (.vptr id tot off)=some (.vptr id tot (off+o)):=(rfl)
@[simp] theorem WO:mO (.vptr id tot off)=some (.vptr id tot off):=(rfl)
@[simp] theorem lZ:mF false n h (.vptr id tot off)=(oQ h id tot).bind fun x=>x.2[off]?:=by
 simp only [mF,apart,cond_false];cases oQ h id tot <;> rfl
@[simp] theorem lY:mF true n h (.vptr id tot off)=(oQ h id tot).bind fun x=>if off+n≤x.2.length then some (.agg ((x.2.drop off).take n)) else none:=by
 simp only [mF,apart,cond_true];cases oQ h id tot <;> rfl
@[simp] theorem lX:mL n h (.vptr id tot off) v=(oQ h id tot).bind fun x=>if v.cells.length=n∧off+n≤x.2.length∧v.cells.all lS.mZ then some (h.set id (.vec tot x.1 (putCells x.2 off v.cells))) else none:=by
 simp only [mL];cases oQ h id tot <;> rfl
@[simp] theorem acP {r:lT}{tot':Nat}:oQ (.vec tot' sz cs::r) 0 tot=if tot'=tot then some (sz,cs) else none:=(rfl)
@[simp] theorem ahU {bl:mT}{r:lT}:oQ (bl::r) (n+1) tot=oQ r n tot:=(rfl)
@[simp] theorem SO:pX m h (.vec tot sz cs)=(nQ m h cs).map (.vec tot sz):=(rfl)
@[simp] theorem aa2 {rows:List (List lS)}{t:Tok}:sR sz h (.slice rows t)=if rows.all fun r=>r.length == sz then some rows else none:=(rfl)
@[simp] theorem aa3 {rows:List (List lS)}{t:Tok}:xU sz h (.slice rows t)=sR sz h (.slice rows t):=by
 unfold xU
 split
 ·rename_i r hr;rw [hr]
 ·rename_i hr;rw [hr];rfl
@[simp] theorem Z3 {rows:List (List lS)}{t:Tok}:sU h (.slice rows t)=some (.slice rows t,h):=(rfl)
@[simp] theorem ag2:sU h (.int k a)=some (.int k a,h):=(rfl)
@[simp] theorem aaX {x:Bool}:sU h (.bool x)=some (.bool x,h):=(rfl)
@[simp] theorem ag1:sU h (.agg cs)=some (.agg cs,h):=(rfl)
theorem v8 {l:List lS}(hl:∀c∈l,∃k n,c=.int k n):nQ m h l=some l:=by
 induction l with
 | nil=>rfl
 | cons c r ih =>
  obtain⟨k,n,rfl⟩:=hl c (by simp)
  rw [pY,ih fun c hc=>hl c (by simp [hc])]
  rfl
theorem Eh {l:List lS}(hl:∀c∈l,∃k n,c=.int k n):oM l=some l:=by
 induction l with
 | nil=>rfl
 | cons c r ih =>
  obtain⟨k,n,rfl⟩:=hl c (by simp)
  simp only [oM,ih fun c hc=>hl c (by simp [hc]),lS.Bc]
theorem Du:∀{l:List lS},rowsOf l.length 1 l=l.map fun c=>[c]
 | []=>rfl
 | c::r=>by simp [rowsOf,Du (l:=r)]
end
noncomputable section
def Ut {α:Type}(s:List lS×lT) (k:lS→lT→α):α:=k (ac5 s.1 0 .junk) s.2
def uq2 {α:Type}(s:List lS×lT) (k:lS→lS→lT→α):α:=k (ac5 s.1 0 .junk) (ac5 s.1 1 .junk) s.2
def V6 {α:Type}(s:List lS×lT) (k:lS→lS→lS→lT→α):α:=k (ac5 s.1 0 .junk) (ac5 s.1 1 .junk) (ac5 s.1 2 .junk) s.2
def uq4 {α:Type}(s:List lS×lT) (k:lS→lS→lS→lS→lT→α):α:=k (ac5 s.1 0 .junk) (ac5 s.1 1 .junk) (ac5 s.1 2 .junk) (ac5 s.1 3 .junk) s.2
def uq5 {α:Type}(s:List lS×lT) (k:lS→lS→lS→lS→lS→lT→α):α:=k (ac5 s.1 0 .junk) (ac5 s.1 1 .junk) (ac5 s.1 2 .junk) (ac5 s.1 3 .junk) (ac5 s.1 4 .junk) s.2
def uq6 {α:Type}(s:List lS×lT) (k:lS→lS→lS→lS→lS→lS→lT→α):α:=k (ac5 s.1 0 .junk) (ac5 s.1 1 .junk) (ac5 s.1 2 .junk) (ac5 s.1 3 .junk) (ac5 s.1 4 .junk) (ac5 s.1 5 .junk) s.2
def uq7 {α:Type}(s:List lS×lT) (k:lS→lS→lS→lS→lS→lS→lS→lT→α):α:=k (ac5 s.1 0 .junk) (ac5 s.1 1 .junk) (ac5 s.1 2 .junk) (ac5 s.1 3 .junk) (ac5 s.1 4 .junk) (ac5 s.1 5 .junk) (ac5 s.1 6 .junk) s.2
def uq8 {α:Type}(s:List lS×lT) (k:lS→lS→lS→lS→lS→lS→lS→lS→lT→α):α:=k (ac5 s.1 0 .junk) (ac5 s.1 1 .junk) (ac5 s.1 2 .junk) (ac5 s.1 3 .junk) (ac5 s.1 4 .junk) (ac5 s.1 5 .junk) (ac5 s.1 6 .junk) (ac5 s.1 7 .junk) s.2
def uq9 {α:Type}(s:List lS×lT) (k:lS→lS→lS→lS→lS→lS→lS→lS→lS→lT→α):α:=k (ac5 s.1 0 .junk) (ac5 s.1 1 .junk) (ac5 s.1 2 .junk) (ac5 s.1 3 .junk) (ac5 s.1 4 .junk) (ac5 s.1 5 .junk) (ac5 s.1 6 .junk) (ac5 s.1 7 .junk) (ac5 s.1 8 .junk) s.2
def aB9 {α:Type}(s:List lS×lT) (k:lS→lS→lS→lS→lS→lS→lS→lS→lS→lS→lT→α):α:=k (ac5 s.1 0 .junk) (ac5 s.1 1 .junk) (ac5 s.1 2 .junk) (ac5 s.1 3 .junk) (ac5 s.1 4 .junk) (ac5 s.1 5 .junk) (ac5 s.1 6 .junk) (ac5 s.1 7 .junk) (ac5 s.1 8 .junk) (ac5 s.1 9 .junk) s.2
def aCa {α:Type}(s:List lS×lT) (k:lS→lS→lS→lS→lS→lS→lS→lS→lS→lS→lS→lT→α):α:=k (ac5 s.1 0 .junk) (ac5 s.1 1 .junk) (ac5 s.1 2 .junk) (ac5 s.1 3 .junk) (ac5 s.1 4 .junk) (ac5 s.1 5 .junk) (ac5 s.1 6 .junk) (ac5 s.1 7 .junk) (ac5 s.1 8 .junk) (ac5 s.1 9 .junk) (ac5 s.1 10 .junk) s.2
def aCb {α:Type}(s:List lS×lT) (k:lS→lS→lS→lS→lS→lS→lS→lS→lS→lS→lS→lS→lT→α):α:=k (ac5 s.1 0 .junk) (ac5 s.1 1 .junk) (ac5 s.1 2 .junk) (ac5 s.1 3 .junk) (ac5 s.1 4 .junk) (ac5 s.1 5 .junk) (ac5 s.1 6 .junk) (ac5 s.1 7 .junk) (ac5 s.1 8 .junk) (ac5 s.1 9 .junk) (ac5 s.1 10 .junk) (ac5 s.1 11 .junk) s.2
def gq (b:Bool) (t:lS) (x:Option R) (h:lT) (k:lS→lT→Option R):Option R:=(mE b t x (mM (.tuple []) h)).bind (mY k (fun _ _=>none))
def kq0 (K:mA) (f:Nat) (h:lT) (k:lS→lT→Option R):Option R:=mR (K f [] h) k (fun _ _=>none)
def kq1 (K:mA) (f:Nat) (a:lS) (h:lT) (k:lS→lT→Option R):Option R:=mR (K f [(a.l_)] h) k (fun _ _=>none)
def kq2 (K:mA) (f:Nat) (a b:lS) (h:lT) (k:lS→lT→Option R):Option R:=mR (K f [(a.l_),(b.l_)] h) k (fun _ _=>none)
def kq3 (K:mA) (f:Nat) (a b c:lS) (h:lT) (k:lS→lT→Option R):Option R:=mR (K f [(a.l_),(b.l_),(c.l_)] h) k (fun _ _=>none)
def kq4 (K:mA) (f:Nat) (a b c d:lS) (h:lT) (k:lS→lT→Option R):Option R:=mR (K f [(a.l_),(b.l_),(c.l_),(d.l_)] h) k (fun _ _=>none)
def kq5 (K:mA) (f:Nat) (a b c d e:lS) (h:lT) (k:lS→lT→Option R):Option R:=mR (K f [(a.l_),(b.l_),(c.l_),(d.l_),(e.l_)] h) k (fun _ _=>none)
def fq {α:Type}(i:Nat) (x:lS) (h:lT) (k:lS→Option α):Option α:=(mG i x).bind fun t=>(mF false 1 h t).bind k
abbrev OH:=Option (nT×lT)
abbrev St:=List lS×lT
def iq (n:Int):lS:=.int .i64 n
def rH (b:Bool) (t:lS) (x:Option lS) (h:lT) (k:lS→lT→Option R):Option R:=(mE b t (x.bind fun v=>mM v h) (mM (.tuple []) h)).bind (mY k (fun _ _=>none))
def uk1 (K:mA) (f:Nat) (a:lS) (h:lT):Option (nT×lT):=K f [(a.l_)] h
def uk2 (K:mA) (f:Nat) (a b:lS) (h:lT):Option (nT×lT):=K f [(a.l_),(b.l_)] h
def uk3 (K:mA) (f:Nat) (a b c:lS) (h:lT):Option (nT×lT):=K f [(a.l_),(b.l_),(c.l_)] h
def uk4 (K:mA) (f:Nat) (a b c d:lS) (h:lT):Option (nT×lT):=K f [(a.l_),(b.l_),(c.l_),(d.l_)] h
def uk5 (K:mA) (f:Nat) (a b c d e:lS) (h:lT):Option (nT×lT):=K f [(a.l_),(b.l_),(c.l_),(d.l_),(e.l_)] h
def aq (o:BinOp) (x y:lS) (a b:Option R):Option R:=(mP o x y).bind fun t=>mH t a b
end
@[simp ↓] theorem aCc {α:Type}{s:List lS×lT}{k:lS→lT→α}:Ut s k=k (ac5 s.1 0 .junk) s.2:=(rfl)
@[simp ↓] theorem aCd {α:Type}{s:List lS×lT}{k:lS→lS→lT→α}:uq2 s k=k (ac5 s.1 0 .junk) (ac5 s.1 1 .junk) s.2:=(rfl)
@[simp ↓] theorem aCe {α:Type}{s:List lS×lT}{k:lS→lS→lS→lT→α}:V6 s k=k (ac5 s.1 0 .junk) (ac5 s.1 1 .junk) (ac5 s.1 2 .junk) s.2:=(rfl)
@[simp ↓] theorem aCf {α:Type}{s:List lS×lT}{k:lS→lS→lS→lS→lT→α}:uq4 s k=k (ac5 s.1 0 .junk) (ac5 s.1 1 .junk) (ac5 s.1 2 .junk) (ac5 s.1 3 .junk) s.2:=(rfl)
@[simp ↓] theorem aCg {α:Type}{s:List lS×lT}{k:lS→lS→lS→lS→lS→lT→α}:uq5 s k=k (ac5 s.1 0 .junk) (ac5 s.1 1 .junk) (ac5 s.1 2 .junk) (ac5 s.1 3 .junk) (ac5 s.1 4 .junk) s.2:=(rfl)
@[simp ↓] theorem aCi {α:Type}{s:List lS×lT}{k:lS→lS→lS→lS→lS→lS→lT→α}:uq6 s k=k (ac5 s.1 0 .junk) (ac5 s.1 1 .junk) (ac5 s.1 2 .junk) (ac5 s.1 3 .junk) (ac5 s.1 4 .junk) (ac5 s.1 5 .junk) s.2:=(rfl)
@[simp ↓] theorem aCk {α:Type}{s:List lS×lT}{k:lS→lS→lS→lS→lS→lS→lS→lT→α}:uq7 s k=k (ac5 s.1 0 .junk) (ac5 s.1 1 .junk) (ac5 s.1 2 .junk) (ac5 s.1 3 .junk) (ac5 s.1 4 .junk) (ac5 s.1 5 .junk) (ac5 s.1 6 .junk) s.2:=(rfl)
@[simp ↓] theorem aCl {α:Type}{s:List lS×lT}{k:lS→lS→lS→lS→lS→lS→lS→lS→lT→α}:uq8 s k=k (ac5 s.1 0 .junk) (ac5 s.1 1 .junk) (ac5 s.1 2 .junk) (ac5 s.1 3 .junk) (ac5 s.1 4 .junk) (ac5 s.1 5 .junk) (ac5 s.1 6 .junk) (ac5 s.1 7 .junk) s.2:=(rfl)
@[simp ↓] theorem aCn {α:Type}{s:List lS×lT}{k:lS→lS→lS→lS→lS→lS→lS→lS→lS→lT→α}:uq9 s k=k (ac5 s.1 0 .junk) (ac5 s.1 1 .junk) (ac5 s.1 2 .junk) (ac5 s.1 3 .junk) (ac5 s.1 4 .junk) (ac5 s.1 5 .junk) (ac5 s.1 6 .junk) (ac5 s.1 7 .junk) (ac5 s.1 8 .junk) s.2:=(rfl)
@[simp ↓] theorem ay8 {α:Type}{s:List lS×lT}{k:lS→lS→lS→lS→lS→lS→lS→lS→lS→lS→lT→α}:aB9 s k=k (ac5 s.1 0 .junk) (ac5 s.1 1 .junk) (ac5 s.1 2 .junk) (ac5 s.1 3 .junk) (ac5 s.1 4 .junk) (ac5 s.1 5 .junk) (ac5 s.1 6 .junk) (ac5 s.1 7 .junk) (ac5 s.1 8 .junk) (ac5 s.1 9 .junk) s.2:=(rfl)
@[simp ↓] theorem ay9 {α:Type}{s:List lS×lT}{k:lS→lS→lS→lS→lS→lS→lS→lS→lS→lS→lS→lT→α}:aCa s k=k (ac5 s.1 0 .junk) (ac5 s.1 1 .junk) (ac5 s.1 2 .junk) (ac5 s.1 3 .junk) (ac5 s.1 4 .junk) (ac5 s.1 5 .junk) (ac5 s.1 6 .junk) (ac5 s.1 7 .junk) (ac5 s.1 8 .junk) (ac5 s.1 9 .junk) (ac5 s.1 10 .junk) s.2:=(rfl)
@[simp ↓] theorem azA {α:Type}{s:List lS×lT}{k:lS→lS→lS→lS→lS→lS→lS→lS→lS→lS→lS→lS→lT→α}:aCb s k=k (ac5 s.1 0 .junk) (ac5 s.1 1 .junk) (ac5 s.1 2 .junk) (ac5 s.1 3 .junk) (ac5 s.1 4 .junk) (ac5 s.1 5 .junk) (ac5 s.1 6 .junk) (ac5 s.1 7 .junk) (ac5 s.1 8 .junk) (ac5 s.1 9 .junk) (ac5 s.1 10 .junk) (ac5 s.1 11 .junk) s.2:=(rfl)
@[simp ↓] theorem aCL {b:Bool}{t:lS}{x:Option R}{h:lT}{k:lS→lT→Option R}:gq b t x h k=(mE b t x (mM (.tuple []) h)).bind (mY k (fun _ _=>none)):=(rfl)
@[simp ↓] theorem aA5 {K:mA}{f:Nat}{h:lT}{k:lS→lT→Option R}:kq0 K f h k=mR (K f [] h) k (fun _ _=>none):=(rfl)
@[simp ↓] theorem aA6 {K:mA}{f:Nat}{a:lS}{h:lT}{k:lS→lT→Option R}:kq1 K f a h k=mR (K f [(a.l_)] h) k (fun _ _=>none):=(rfl)
@[simp ↓] theorem aA7 {K:mA}{f:Nat}{a b:lS}{h:lT}{k:lS→lT→Option R}:kq2 K f a b h k=mR (K f [(a.l_),(b.l_)] h) k (fun _ _=>none):=(rfl)
@[simp ↓] theorem aA8 {K:mA}{f:Nat}{a b c:lS}{h:lT}{k:lS→lT→Option R}:kq3 K f a b c h k=mR (K f [(a.l_),(b.l_),(c.l_)] h) k (fun _ _=>none):=(rfl)
@[simp ↓] theorem aA9 {K:mA}{f:Nat}{a b c d:lS}{h:lT}{k:lS→lT→Option R}:kq4 K f a b c d h k=mR (K f [(a.l_),(b.l_),(c.l_),(d.l_)] h) k (fun _ _=>none):=(rfl)
@[simp ↓] theorem aBa {K:mA}{f:Nat}{a b c d e:lS}{h:lT}{k:lS→lT→Option R}:kq5 K f a b c d e h k=mR (K f [(a.l_),(b.l_),(c.l_),(d.l_),(e.l_)] h) k (fun _ _=>none):=(rfl)
@[simp ↓] theorem aCJ {α:Type}{i:Nat}{x:lS}{h:lT}{k:lS→Option α}:fq i x h k=(mG i x).bind fun t=>(mF false 1 h t).bind k:=(rfl)
@[simp ↓] theorem aCM {n:Int}:iq n=.int .i64 n:=(rfl)
@[simp ↓] theorem aA2 {b:Bool}{t:lS}{x:Option lS}{h:lT}{k:lS→lT→Option R}:rH b t x h k=(mE b t (x.bind fun v=>mM v h) (mM (.tuple []) h)).bind (mY k (fun _ _=>none)):=(rfl)
@[simp ↓] theorem aB3 {K:mA}{f:Nat}{a:lS}{h:lT}:uk1 K f a h=K f [(a.l_)] h:=(rfl)
@[simp ↓] theorem aB4 {K:mA}{f:Nat}{a b:lS}{h:lT}:uk2 K f a b h=K f [(a.l_),(b.l_)] h:=(rfl)
@[simp ↓] theorem aB6 {K:mA}{f:Nat}{a b c:lS}{h:lT}:uk3 K f a b c h=K f [(a.l_),(b.l_),(c.l_)] h:=(rfl)
@[simp ↓] theorem aB7 {K:mA}{f:Nat}{a b c d:lS}{h:lT}:uk4 K f a b c d h=K f [(a.l_),(b.l_),(c.l_),(d.l_)] h:=(rfl)
@[simp ↓] theorem aB8 {K:mA}{f:Nat}{a b c d e:lS}{h:lT}:uk5 K f a b c d e h=K f [(a.l_),(b.l_),(c.l_),(d.l_),(e.l_)] h:=(rfl)
@[simp ↓] theorem aCy {o:BinOp}{x y:lS}{a b:Option R}:aq o x y a b=(mP o x y).bind fun t=>mH t a b:=(rfl)
end
end Hk
