/-
  The texts Vk.Sub, Vk.Fn, Vk.Lim, Vk.Front, Vk.Simp, Vk.Simp2, one behind another. No conditions.
-/
import Derived.Test.YtgllbnabmglcfaaGreatDoorVk2
import Derived.OpenShut
import Derived.WideKeyArgs
set_option linter.unusedVariables false
set_option linter.unusedSimpArgs false
set_option linter.all false
open Array renaming getD_eq_getD_getElem? → af2
open Bool renaming and_eq_true → am4
open List renaming all_eq_true → am7, getD → aa7, getD_eq_getElem?_getD → ae9, getElem?_append_left → am3, getElem?_append_right → af4, getElem?_eq_getElem → ac6, getElem?_eq_some_iff → ac1, getElem?_map → af7, length_map → ar3, mem_of_getElem? → af3
open Nat renaming le_refl → ai1
open Option renaming bind_eq_some_iff → ab6, bind_some → ai3, map_eq_some_iff → af1
open Option.some renaming injEq → ad0
namespace Hk
section
open Go Go.RowKit
def sameShape:mC→mC→Prop
 | .free,.free=>True
 | .gone,.gone=>True
 | .cells _,.cells _=>True
 | .front n sz t,.front n' sz' t'=>n=n'∧sz=sz'∧t=t'
 | .vec _ _ _,.vec _ _ _=>True
 | .map _,.map _=>True
 | .tcells t _,.tcells t' _=>t'=t
 | _,_=>False
theorem vE {f:Nat→Nat}(b:mC):sameShape b (b.uQ f):=by cases b <;> simp [sameShape,mC.uQ]
structure AU (G:Gh) (h:lD) (G2:Gh) (h2:lD) (f:Nat→Nat) (p:Nat→Bool):Prop where
 hmono:∀b k v,G.H b k=some v→G2.H b k=some v
 mU:∀id b,p id=true→h[id]?=some b→∃b2,h2[f id]?=some b2∧sameShape b b2
 pl:∀id,p id=true→G2.mU (f id)=G.mU id
 cur:∀id,p id=true→G2.cur (f id)=G.cur id
section
variable {G G2:Gh}{h h2:lD}{f:Nat→Nat}{p:Nat→Bool}
theorem AU.live (m:AU G h G2 h2 f p) {id:Nat}(hp:p id=true) (hl:live h id):live h2 (f id):=by
 obtain⟨b,h1,hn⟩:=hl
 obtain⟨b2,h3,h4⟩:=m.mU id b hp h1
 exact⟨b2,h3,by cases b <;> cases b2 <;> simp_all [sameShape]⟩
theorem AU.nf (m:AU G h G2 h2 f p) {id:Nat}(hp:p id=true) (hl:sV h id):sV h2 (f id):=by
 obtain⟨b,h1,hn,hf⟩:=hl
 obtain⟨b2,h3,h4⟩:=m.mU id b hp h1
 exact⟨b2,h3,by cases b <;> cases b2 <;> simp_all [sameShape],by cases b <;> cases b2 <;> simp_all [sameShape]⟩
theorem xJ (m:AU G h G2 h2 f p) {v:lC}{V:Value}(r:lT G h v V) (hok:v.IS p=true):lT G2 h2 (v.zR f) V:=by
 cases r with
 | p v V hp =>
  have e:v.zR f=v:=by cases hp <;> rfl
  rw [e];exact .p _ _ (hp.mono m.hmono)
 | agg cs C hl hh=>cases hok
 | tuple cs C hl hh=>cases hok
 | nil=>exact .nil
 | own rows id n sz V hp hf hn hr hc =>
  have hq:p id=true:=hok
  obtain⟨b2,h3,h4⟩:=m.mU id _ hq hf
  cases b2 <;> simp only [sameShape] at h4
  obtain⟨rfl,rfl,rfl⟩:=h4
  exact .own rows (f id) n sz V (hp.mono m.hmono) h3 hn hr fun e=>by rw [m.cur id hq];exact hc e
 | ownv id V hp hb=>exact .ownv (f id) V (hp.mono m.hmono) (m.nf hok hb)
 | vslice id tot off len sz b cap hl ht hc hv =>
  have hq:p id=true:=hok
  refine .vslice (f id) tot off len sz b cap (m.nf hq hl) ?_ hc ?_
  ·rw [m.cur id hq];exact ht
  ·rw [m.cur id hq];exact hv
 | vptr id tot off b hl ht hv =>
  have hq:p id=true:=hok
  refine .vptr (f id) tot off b (m.nf hq hl) ?_ ?_
  ·rw [m.cur id hq];exact ht
  ·rw [m.cur id hq];exact hv
 | ptr id off hl =>
  have hq:p id=true:=hok
  rw [←m.pl id hq];exact .ptr (f id) off (m.live hq hl)
 | mslice id off len sz cap hl hc =>
  have hq:p id=true:=hok
  rw [←m.pl id hq];exact .mslice (f id) off len sz cap (m.live hq hl) hc
 | mslice0 id off sz cap a=>exact .mslice0 (f id) off sz cap a
 | map id hl =>
  have hq:p id=true:=hok
  rw [←m.pl id hq];exact .map (f id) (m.live hq hl)
 | func g first cap F C hlf hlc hf hc =>
  simp only [lC.IS,am4,List.isEmpty_iff] at hok
  obtain⟨rfl,rfl⟩:=hok
  exact .func g [] [] F C hlf hlc (fun i v hv=>by simp at hv) (fun i v hv=>by simp at hv)
 | iface t v V hh=>cases hok
theorem B1 (m:AU G h G2 h2 f p) {v:lC}{V:Value}(r:lT G h v V) (hok:v.ok p=true):lT G2 h2 (v.uQ f) V:=by
 have agg:∀(cs:List lC) (V:Value),cs.all (lC.IS p)=true→lT G h (.agg cs) V→lT G2 h2 (.agg (cs.map (lC.zR f))) V:=by
  intro cs V hk hx
  obtain⟨C,rfl,hl,hr⟩:=hx.sR
  refine .agg _ _ (by simpa using hl) fun i u hu=>?_
  simp only [af7,af1] at hu
  obtain⟨a,ha,rfl⟩:=hu
  exact xJ m (hr i a ha) (am7.1 hk a (af3 ha))
 cases v with
 | agg cs=>exact agg cs V hok r
 | tuple vs =>
  obtain⟨C,rfl,hl,hr⟩:=r.zX
  simp only [lC.ok,am7] at hok
  refine .tuple _ _ (by simpa using hl) fun i u hu=>?_
  simp only [af7,af1] at hu
  obtain⟨a,ha,rfl⟩:=hu
  have h1:=hr i a ha
  have h2:=hok a (af3 ha)
  cases a <;> first | exact agg _ _ h2 h1 | exact xJ m h1 h2
 | _=>exact xJ m r hok
theorem Br {v:lC}(h:v.mE=true):(v.zR f).mE=true:=by
 cases v <;> first | exact h | rfl | skip
 rename_i rows t
 cases t <;> rfl
theorem v_.uQ {w:World}{id j:Nat}{b:mC}(m:AU G h G2 h2 f p) (hH:G2.H=G.H) (hb:G2.mU j=G.mU id) (hc:G2.cur j=G.cur id) (hok:b.ok p=true)
  (hk:v_ G h w id b):v_ G2 h2 w j (b.uQ f):=by
 cases b with
 | free=>trivial
 | gone=>trivial
 | cells cs =>
  obtain⟨C,e,h1,h2',h3,h4⟩:=hk
  refine⟨C,e,by rw [hb];exact h1,by rw [ar3];exact h2',by rw [hb,hH];exact h3,fun i v hv=>?_⟩
  rw [af7] at hv
  obtain⟨u,hu,rfl⟩:=af1.1 hv
  exact⟨Br (h4 i u hu).1,xJ m (h4 i u hu).2 (am7.1 hok u (af3 hu))⟩
 | tcells t cs =>
  obtain⟨C,h1,h2',h3,h4⟩:=hk
  refine⟨C,by rw [hb];exact h1,by rw [ar3];exact h2',by rw [hb,hH];exact h3,fun i v hv=>?_⟩
  rw [af7] at hv
  obtain⟨u,hu,rfl⟩:=af1.1 hv
  exact⟨Br (h4 i u hu).1,xJ m (h4 i u hu).2 (am7.1 hok u (af3 hu))⟩
 | front n sz t =>
  show v_ G2 h2 w j (.front n sz t)
  simp only [v_] at hk ⊢
  rw [hc,hH];exact hk
 | vec tot sz cs =>
  obtain⟨b,cap,C,e,h1,h2',h3,h4,h5,h6,h7,h8,h9⟩:=hk
  refine⟨b,cap,C,e,by rw [hc];exact h1,h2',h3,h4,h5,h6,by rw [ar3];exact h7,by rw [hH];exact h8,fun i v hv=>?_⟩
  rw [af7] at hv
  obtain⟨u,hu,rfl⟩:=af1.1 hv
  exact⟨Br (h9 i u hu).1,xJ m (h9 i u hu).2 (am7.1 hok u (af3 hu))⟩
 | map es =>
  obtain⟨E,c,h1,h2',h3,h4,h5⟩:=hk
  refine⟨E,c,by rw [hb];exact h1,by rw [ar3];exact h2',by rw [hb,hH];exact h3,fun i kv hv=>?_,h5⟩
  rw [af7] at hv
  obtain⟨u,hu,rfl⟩:=af1.1 hv
  obtain⟨mm,a1,a2,a3,a4⟩:=h4 i u hu
  have hok':(es.all fun e=>e.2.IS p)=true:=hok
  exact⟨mm,a1,a2,by rw [hH];exact a3,xJ m a4 (am7.1 hok' u (af3 hu))⟩
theorem Al {id j:Nat}{b:mC}(hb:G2.mU j=G.mU id) (hc:G2.cur j=G.cur id):mL G2 j (b.uQ f)=mL G id b:=by
 cases b <;> simp [mC.uQ,mL,hb,hc]
end
theorem tW:∀{l:List Nat}{i:Nat},i∈l→l[Ai l i]?=some i
 | [],i,h=>by simp at h
 | a::r,i,h=>by
  unfold Ai
  cases hab:a == i with
  | true =>
   have:a=i:=by simpa using hab
   subst this;rfl
  | false =>
   have hne:a≠i:=by simpa using hab
   have hm:i∈r:=by
    rcases List.mem_cons.1 h with h | h
    ·exact absurd h.symm hne
    ·exact h
   simp only [cond_false,List.getElem?_cons_succ]
   exact tW hm
theorem s7:∀{l:List Nat},sU l=true→∀{i j a:Nat},l[i]?=some a→l[j]?=some a→i=j
 | [],_,i,j,a,h,_=>by simp at h
 | b::r,hd,i,j,a,hi,hj=>by
  simp only [sU,am4,Bool.not_eq_true'] at hd
  have hnb:∀k,r[k]?=some b→False:=fun k hk=>by
   have:=af3 hk
   have h1:r.contains b=true:=by simpa using this
   rw [hd.1] at h1;cases h1
  cases i with
  | zero =>
   cases j with
   | zero=>rfl
   | succ j=>simp at hi hj;subst hi;exact(hnb j hj).elim
  | succ i =>
   cases j with
   | zero=>simp at hi hj;subst hj;exact(hnb i hi).elim
   | succ j=>have:=s7 hd.2 (i:=i) (j:=j) (by simpa using hi) (by simpa using hj);omega
theorem Bm:∀{is:List Nat}{bs:lD}{h:lD}{id:Nat},¬id∈is→(x8 is bs h)[id]?=h[id]?
 | [],_,_,_,_=>rfl
 | i::is,[],_,_,_=>rfl
 | i::is,b::bs,h,id,hn=>by
  rw [x8,Bm (fun hm=>hn (by simp [hm])),List.getElem?_set_ne (fun e=>hn (by simp [e]))]
theorem HV:∀{is:List Nat}{bs:lD}{h:lD}{j id:Nat}{b:mC},sU is=true→is[j]?=some id→bs[j]?=some b→id<h.length→(x8 is bs h)[id]?=some b
 | [],_,_,_,_,_,_,h,_,_=>by simp at h
 | i::is,[],_,_,_,_,_,_,h,_=>by simp at h
 | i::is,c::bs,h,j,id,b,hd,hi,hb,hl=>by
  simp only [sU,am4,Bool.not_eq_true'] at hd
  rw [x8]
  cases j with
  | zero =>
   simp at hi hb;subst hi;subst hb
   rw [Bm (fun hm=>by
    have h1:is.contains i=true:=by simpa using hm
    rw [hd.1] at h1;cases h1)]
   simp [hl]
  | succ j=>exact HV hd.2 (by simpa using hi) (by simpa using hb) (by simpa using hl)
theorem Nf:∀{r acc:List Nat},∃l,KF acc r=acc++l
 | [],acc=>⟨[],by simp [KF]⟩
 | i::r,acc=>by
  obtain⟨l,hl⟩:=Nf (r:=r) (acc:=bif acc.contains i then acc else acc++[i])
  rw [KF,hl]
  cases acc.contains i with
  | true=>exact⟨l,rfl⟩
  | false=>exact⟨i::l,by simp⟩
theorem Pp {G G':Gh}{h h' h2:lD}{w w':World}{v:lC}{V:Value}{r:nB}(hb:Je h.length v h'=some (r,h2)) (x:Ext G h w G' h' w') (i:Inv G' h' w') (hv:lT G' h' v V) :
  pO G h w r h2 (.returned V) w':=by
 unfold Je at hb
 obtain⟨rest,hids⟩:=Nf (r:=reach h' [v]) (acc:=List.range h.length)
 have hids:HO h.length v h'=List.range h.length++rest:=hids
 generalize HO h.length v h'=ids at *
 unfold Vw at hb
 cases ho:v.ok (fun i=>ids.contains i)&&Sv ids h' with
 | false=>rw [ho] at hb;cases hb
 | true =>
  rw [ho] at hb
  simp only [cond_true,ad0,Prod.mk.injEq] at hb
  obtain⟨rfl,rfl⟩:=hb
  simp only [Sv,am4,am7] at ho
  obtain⟨hvok,hdis,hiok⟩:=ho
  have hmem:∀{id:Nat},ids.contains id=true↔id∈ids:=by intro id;simp
  have hblk:∀id,id∈ids→∃b,h'[id]?=some b∧b.ok (fun i=>ids.contains i)=true:=by
   intro id hid
   have:=hiok id hid
   cases hg:h'[id]? with
   | none=>rw [hg] at this;cases this
   | some b=>rw [hg] at this;exact⟨b,rfl,this⟩
  let Gs:Gh:={ H:=G'.H,mU:=fun j=>G'.mU (ids.getD j 0),cur:=fun j=>G'.cur (ids.getD j 0) }
  have getj:∀{j id:Nat},ids[j]?=some id→ids.getD j 0=id:=fun hj=>by rw [ae9,hj];rfl
  have sg:∀{j id:Nat}{b:mC},ids[j]?=some id→h'[id]?=some b→(xQ ids h')[j]?=some (b.uQ (Ai ids)):=by
   intro j id b hj hbb
   unfold xQ
   rw [af7,hj]
   simp [ae9,hbb]
  have m1:AU G' h' Gs (xQ ids h') (Ai ids) (fun i=>ids.contains i):=⟨fun _ _ _ h=>h,fun id b hp hbb=>⟨_,sg (tW (hmem.1 hp)) hbb,vE b⟩,
   fun id hp=>by show G'.mU _=_;rw [getj (tW (hmem.1 hp))],fun id hp=>by show G'.cur _=_;rw [getj (tW (hmem.1 hp))]⟩
  have sinv:∀{j:Nat}{bl:mC},(xQ ids h')[j]?=some bl→∃id b,ids[j]?=some id∧h'[id]?=some b∧b.ok (fun i=>ids.contains i)=true∧bl=b.uQ (Ai ids):=by
   intro j bl hj
   have hj2:=hj
   unfold xQ at hj
   rw [af7] at hj
   obtain⟨id,hid,_⟩:=af1.1 hj
   obtain⟨b,hb1,hb2⟩:=hblk id (af3 hid)
   rw [sg hid hb1] at hj2
   exact⟨id,b,hid,hb1,hb2,(Option.some.inj hj2).symm⟩
  have sown:∀{j id:Nat},ids[j]?=some id→owner Gs (xQ ids h') j=owner G' h' id:=by
   intro j id hj
   obtain⟨b,hb1,_⟩:=hblk id (af3 hj)
   rw [mZ (sg hj hb1),mZ hb1]
   exact Al (by show G'.mU _=_;rw [getj hj]) (by show G'.cur _=_;rw [getj hj])
  have sown2:∀{j b:Nat},owner Gs (xQ ids h') j=some b→∃id,ids[j]?=some id∧owner G' h' id=some b:=by
   intro j b hj
   obtain⟨bl,hbl,_⟩:=oN hj
   obtain⟨id,b0,hid,_⟩:=sinv hbl
   exact⟨id,hid,by rw [←sown hid];exact hj⟩
  have low:∀{j:Nat},j<h.length→ids[j]?=some j:=fun hj=>by
   rw [hids,am3 (by simpa using hj),List.getElem?_range hj]
  have is:Inv Gs (xQ ids h') w':=⟨i.ok,fun j bl hj=>by
    obtain⟨id,b,hid,hb1,hb2,rfl⟩:=sinv hj
    exact(i.mU id b hb1).uQ m1 rfl (by show G'.mU _=_;rw [getj hid]) (by show G'.cur _=_;rw [getj hid]) hb2,
   fun a c b ha hc=>by
    obtain⟨ia,h1,h2⟩:=sown2 ha
    obtain⟨ic,h3,h4⟩:=sown2 hc
    have:=i.inj ia ic b h2 h4
    subst this
    exact s7 hdis h1 h3⟩
  refine⟨Gs,⟨x.os,x.tape,x.output,x.size,fun b hlt hno=>x.frame b hlt hno,x.hmono,fun j b hob hlt=>?_,fun id bl hbl=>?_⟩,is,V,rfl,B1 m1 hv hvok⟩
  ·obtain⟨id,hid,h1⟩:=sown2 hob
   have h2:=x.own id b h1 hlt
   obtain⟨bl,hbl,_⟩:=oN h2
   have hlt2:=(ac1.1 hbl).1
   have:j=id:=s7 hdis hid (low hlt2)
   rw [this];exact h2
  ·have hlt:=(ac1.1 hbl).1
   obtain⟨bl',hb1,hk1⟩:=x.kinds id bl hbl
   refine⟨_,sg (low hlt) hb1,?_⟩
   have e1:Gs.mU id=G'.mU id:=by show G'.mU _=_;rw [getj (low hlt)]
   have e2:Gs.cur id=G'.cur id:=by show G'.cur _=_;rw [getj (low hlt)]
   cases bl <;> cases bl' <;> simp only [mC.uQ,Kind,ar3] at hk1 ⊢ <;> first | exact hk1.elim | (rw [e1,e2];exact hk1) | (rw [e1];exact hk1) | trivial
section
variable {P:Program}{A:wC}{K:lN}
theorem QX {ids:List Nat}{f:Nat}{args:List lC}{h:lD}{r:nB}{h':lD}(hK:pW P A K) (hb:Xu K ids f args h=some (r,h')) {G:Gh}{w:World}{X:Array Value}(i:Inv G h w) (gl:oU A G h w) (hx:vI G h args X) :
  (∀w,(callFunc f X).run P w=.ok (.enter f X) w)∧Calls P f X w (pO G h w r h'):=by
 unfold Xu at hb
 cases ho:J8 ids args h with
 | false=>rw [ho] at hb;cases hb
 | true =>
  rw [ho] at hb
  simp only [cond_true] at hb
  obtain⟨⟨r1,h1⟩,hc,hb⟩:=ab6.1 hb
  unfold Gt at hb
  cases hk:h1.length == ids.length&&(h1.all (mC.ok fun j=>decide (j<ids.length))&&r1.ok fun j=>decide (j<ids.length)) with
  | false=>simp only [hk,cond_false] at hb;cases hb
  | true =>
  simp only [hk,cond_true,ad0,Prod.mk.injEq] at hb
  obtain⟨rfl,rfl⟩:=hb
  simp only [am4,beq_iff_eq,am7] at hk
  obtain⟨hlen,hbok,hrok⟩:=hk
  simp only [J8,am4,am7] at ho
  obtain⟨haok,hdis,hiok⟩:=ho
  have hmem:∀{id:Nat},ids.contains id=true↔id∈ids:=by intro id;simp
  have hblk:∀id,id∈ids→∃b,h[id]?=some b∧b.ok (fun i=>ids.contains i)=true:=by
   intro id hid
   have:=hiok id hid
   cases hg:h[id]? with
   | none=>rw [hg] at this;cases this
   | some b=>rw [hg] at this;exact⟨b,rfl,this⟩
  let Gs:Gh:={ H:=G.H,mU:=fun j=>G.mU (ids.getD j 0),cur:=fun j=>G.cur (ids.getD j 0) }
  have getj:∀{j id:Nat},ids[j]?=some id→ids.getD j 0=id:=fun hj=>by rw [ae9,hj];rfl
  have sg:∀{j id:Nat}{b:mC},ids[j]?=some id→h[id]?=some b→(xQ ids h)[j]?=some (b.uQ (Ai ids)):=by
   intro j id b hj hbb
   unfold xQ
   rw [af7,hj]
   simp [ae9,hbb]
  have m1:AU G h Gs (xQ ids h) (Ai ids) (fun i=>ids.contains i):=⟨fun _ _ _ h=>h,fun id b hp hbb=>⟨_,sg (tW (hmem.1 hp)) hbb,vE b⟩,
   fun id hp=>by show G.mU _=_;rw [getj (tW (hmem.1 hp))],fun id hp=>by show G.cur _=_;rw [getj (tW (hmem.1 hp))]⟩
  have sinv:∀{j:Nat}{bl:mC},(xQ ids h)[j]?=some bl→∃id b,ids[j]?=some id∧h[id]?=some b∧b.ok (fun i=>ids.contains i)=true∧bl=b.uQ (Ai ids):=by
   intro j bl hj
   have hj2:=hj
   unfold xQ at hj
   rw [af7] at hj
   obtain⟨id,hid,_⟩:=af1.1 hj
   obtain⟨b,hb1,hb2⟩:=hblk id (af3 hid)
   rw [sg hid hb1] at hj2
   exact⟨id,b,hid,hb1,hb2,(Option.some.inj hj2).symm⟩
  have sown:∀{j id:Nat},ids[j]?=some id→owner Gs (xQ ids h) j=owner G h id:=by
   intro j id hj
   obtain⟨b,hb1,_⟩:=hblk id (af3 hj)
   rw [mZ (sg hj hb1),mZ hb1]
   exact Al (by show G.mU _=_;rw [getj hj]) (by show G.cur _=_;rw [getj hj])
  have sown2:∀{j b:Nat},owner Gs (xQ ids h) j=some b→∃id,ids[j]?=some id∧owner G h id=some b:=by
   intro j b hj
   obtain⟨bl,hbl,_⟩:=oN hj
   obtain⟨id,b0,hid,_⟩:=sinv hbl
   exact⟨id,hid,by rw [←sown hid];exact hj⟩
  have is:Inv Gs (xQ ids h) w:=⟨i.ok,fun j bl hj=>by
    obtain⟨id,b,hid,hb1,hb2,rfl⟩:=sinv hj
    exact(i.mU id b hb1).uQ m1 rfl (by show G.mU _=_;rw [getj hid]) (by show G.cur _=_;rw [getj hid]) hb2,
   fun a c b ha hc=>by
    obtain⟨ia,h1,h2⟩:=sown2 ha
    obtain⟨ic,h3,h4⟩:=sown2 hc
    have:=i.inj ia ic b h2 h4
    subst this
    exact s7 hdis h1 h3⟩
  have hxs:vI Gs (xQ ids h) (args.map (lC.uQ (Ai ids))) X:=⟨by rw [ar3];exact hx.1,fun j u hu=>by
   rw [af7] at hu
   obtain⟨v,hv,rfl⟩:=af1.1 hu
   exact B1 m1 (hx.2 j v hv) (haok v (af3 hv))⟩
  obtain⟨e1,e2⟩:=hK f _ _ _ _ hc Gs w X is (gl.sub rfl fun j b ho=>by obtain⟨id,_,h2⟩:=sown2 ho;exact⟨id,h2⟩) hxs
  refine⟨e1,Calls.mono e2 fun e w' hpost=>?_⟩
  obtain⟨Ge,x,ie,hpost⟩:=hpost
  let G2:Gh:={ H:=Ge.H,mU:=fun id=>if id∈ids then Ge.mU (Ai ids id) else G.mU id,cur:=fun id=>if id∈ids then Ge.cur (Ai ids id) else G.cur id }
  have idj:∀{j id:Nat},ids[j]?=some id→Ai ids id=j:=fun hj=>s7 hdis (tW (af3 hj)) hj
  have b1:∀{j id:Nat},ids[j]?=some id→G2.mU id=Ge.mU j:=fun hj=>by
   show(if _ then _ else _)=_
   rw [if_pos (af3 hj),idj hj]
  have c1:∀{j id:Nat},ids[j]?=some id→G2.cur id=Ge.cur j:=fun hj=>by
   show(if _ then _ else _)=_
   rw [if_pos (af3 hj),idj hj]
  have b2:∀{id:Nat},¬id∈ids→G2.mU id=G.mU id:=fun hn=>if_neg hn
  have c2:∀{id:Nat},¬id∈ids→G2.cur id=G.cur id:=fun hn=>if_neg hn
  let back:Nat→Nat:=fun j=>ids.getD j 0
  let hN:lD:=x8 ids (h1.map (mC.uQ back)) h
  have gin:∀{j id:Nat}{b:mC},ids[j]?=some id→h1[j]?=some b→hN[id]?=some (b.uQ back):=by
   intro j id b hj hbj
   obtain⟨b0,hb0,_⟩:=hblk id (af3 hj)
   exact HV hdis hj (by rw [af7,hbj];rfl) (ac1.1 hb0).1
  have gout:∀{id:Nat},¬id∈ids→hN[id]?=h[id]?:=fun hn=>Bm hn
  have hjl:∀{j id:Nat},ids[j]?=some id→∃b,h1[j]?=some b:=fun hj=>⟨_,ac6 (by rw [hlen];exact(ac1.1 hj).1)⟩
  have m2:AU Ge h1 G2 hN back (fun j=>decide (j<ids.length)):=by
   have gt:∀{j:Nat},decide (j<ids.length)=true→ids[j]?=some (back j):=fun {j} hp=>by
    have hlt:j<ids.length:=by simpa using hp
    show _=some (ids.getD j 0)
    rw [ae9,ac6 hlt];rfl
   exact⟨fun _ _ _ h=>h,fun j b hp hbj=>⟨_,gin (gt hp) hbj,vE b⟩,fun j hp=>b1 (gt hp),fun j hp=>c1 (gt hp)⟩
  have own2:∀{id b:Nat},owner G2 hN id=some b→(∃j,ids[j]?=some id∧owner Ge h1 j=some b)∨(¬id∈ids∧owner G h id=some b):=by
   intro id b hob
   by_cases hid:id∈ids
   ·obtain⟨j,hj⟩:=List.getElem?_of_mem hid
    obtain⟨bl,hbl⟩:=hjl hj
    refine .inl ⟨j,hj,?_⟩
    rw [mZ (gin hj hbl)] at hob
    rw [mZ hbl,←hob]
    exact(Al (b1 hj) (c1 hj)).symm
   ·refine .inr ⟨hid,?_⟩
    obtain⟨bl,hbl,ho2⟩:=oN hob
    rw [gout hid] at hbl
    rw [mZ hbl,←ho2]
    cases bl <;> simp [mL,b2 hid,c2 hid]
  have xo:∀{id:Nat}{b:Nat},¬id∈ids→owner G h id=some b→w'.heap[b]?=w.heap[b]?∧∀k,Ge.H b k=G.H b k:=by
   intro id b hn hob
   obtain⟨bl,hbl,hob2⟩:=oN hob
   refine x.frame b ((i.mU id bl hbl).lt hob2) fun j hj=>?_
   obtain⟨id2,hj2,ho3⟩:=sown2 hj
   have:=i.inj id id2 b hob ho3
   subst this
   exact hn (af3 hj2)
  have ownS:∀{id b:Nat},owner G2 hN id=some b→b<w.heap.size→owner G h id=some b:=by
   intro id b hob hlt
   rcases own2 hob with ⟨j,hj,h2⟩ | ⟨_,h2⟩
   ·obtain⟨id2,hj2,h3⟩:=sown2 (x.own j b h2 hlt)
    rw [hj] at hj2;cases hj2;exact h3
   ·exact h2
  have kinds:∀id bl,h[id]?=some bl→∃bl',hN[id]?=some bl'∧Kind G G2 id bl bl':=by
   intro id bl hbl
   by_cases hid:id∈ids
   ·obtain⟨j,hj⟩:=List.getElem?_of_mem hid
    obtain⟨bl',hb1,hk1⟩:=x.kinds j _ (sg hj hbl)
    refine⟨_,gin hj hb1,?_⟩
    have e1:Gs.mU j=G.mU id:=by show G.mU _=_;rw [getj hj]
    have e2:Gs.cur j=G.cur id:=by show G.cur _=_;rw [getj hj]
    cases bl <;> cases bl' <;> simp only [mC.uQ,Kind,e1,e2,ar3] at hk1 ⊢ <;> first | exact hk1.elim | (rw [b1 hj,c1 hj];exact hk1) | (rw [b1 hj];exact hk1) | trivial
   ·refine⟨bl,by rw [gout hid];exact hbl,?_⟩
    cases bl <;> simp [Kind,b2 hid,c2 hid]
  have ext:Ext G h w G2 hN w':=⟨x.os,x.tape,x.output,x.size,fun b hlt hno=>x.frame b hlt fun j hj=>by
    obtain⟨id,_,ho3⟩:=sown2 hj
    exact hno id ho3,x.hmono,fun id b hob hlt=>ownS hob hlt,kinds⟩
  refine⟨G2,ext,⟨ie.ok,fun id bl hbl=>?_,fun a c b ha hc=>?_⟩,?_⟩
  ·by_cases hid:id∈ids
   ·obtain⟨j,hj⟩:=List.getElem?_of_mem hid
    obtain⟨b0,hb0⟩:=hjl hj
    have:=gin hj hb0
    have hbl':hN[id]?=some bl:=hbl
    rw [this] at hbl'
    cases hbl'
    exact(ie.mU j b0 hb0).uQ m2 rfl (b1 hj) (c1 hj) (hbok b0 (af3 hb0))
   ·have hbl':h[id]?=some bl:=by rw [←gout hid];exact hbl
    exact(i.mU id bl hbl').EM ext.toMono (b2 hid) (c2 hid) fun b hob=>xo hid (by rw [mZ hbl'];exact hob)
  ·rcases own2 ha with ⟨ja,hja,h2⟩ | ⟨hna,h2⟩
   ·rcases own2 hc with ⟨jc,hjc,h3⟩ | ⟨hnc,h3⟩
    ·have:=ie.inj ja jc b h2 h3
     subst this
     rw [hja] at hjc;exact Option.some.inj hjc
    ·obtain⟨bl,hbl,hob⟩:=oN h3
     have:=ownS ha ((i.mU c bl hbl).lt hob)
     exact i.inj a c b this h3
   ·rcases own2 hc with ⟨jc,hjc,h3⟩ | ⟨hnc,h3⟩
    ·obtain⟨bl,hbl,hob⟩:=oN h2
     have:=ownS hc ((i.mU a bl hbl).lt hob)
     exact i.inj a c b h2 this
    ·exact i.inj a c b h2 h3
  ·cases r1 with
   | ret v=>obtain⟨V,he,hV⟩:=hpost;exact⟨V,he,B1 m2 hV hrok⟩
   | pan v=>obtain⟨V,he,hV⟩:=hpost;exact⟨V,he,B1 m2 hV hrok⟩
end
end
section
open Go Go.RowKit
section
variable {P:Program}{A:wC}{K:lN}{lp:Ut}{G:Gh}{h:lD}{w:World}
theorem Ah {f:Nat}{v:lC}{V:Value}{r:nB}{h' h2:lD}{G':Gh}{w':World}(hb:finish A f h.length v h'=some (r,h2)) (x:Ext G h w G' h' w') (i:Inv G' h' w') (hv:lT G' h' v V) :
  pO G h w r h2 (.returned V) w':=by
 unfold finish at hb
 cases he:A.esc f with
 | true =>
  rw [he] at hb;cases hb
  exact⟨G',x,i,V,rfl,hv⟩
 | false =>
  rw [he] at hb
  simp only [cond_false] at hb
  cases hg:A.grow f with
  | true =>
   rw [hg] at hb
   simp only [cond_true,aoW,af1] at hb
   obtain⟨h3,ht,hb⟩:=hb
   obtain⟨G3,i3,x3,_,hrel,_⟩:=tC x i ht
   cases hb
   exact⟨G3,x3,i3,V,rfl,hrel _ _ hv⟩
  | false =>
   rw [hg] at hb
   cases hz:A.frr f with
   | true =>
    rw [hz] at hb
    simp only [cond_true,cond_false,aoV] at hb
    obtain⟨y,hy,hb⟩:=ab6.1 hb
    obtain⟨G1,i1,x1,r1⟩:=yL i hy hv
    simp only [nJ,af1] at hb
    obtain⟨h3,ht,hb⟩:=hb
    obtain⟨G3,i3,x3,_,hrel,_⟩:=tC (x.trans x1) i1 ht
    cases hb
    exact⟨G3,x3,i3,V,rfl,z6 (hrel _ _ r1)⟩
   | false =>
   rw [hz] at hb
   cases hout:A.out f with
   | true =>
    rw [hout] at hb
    simp only [cond_true,cond_false] at hb
    exact Pp hb x i hv
   | false =>
    rw [hout] at hb
    simp only [cond_false,nJ,af1] at hb
    obtain⟨h3,ht,hb⟩:=hb
    obtain⟨G3,i3,x3,_,hrel,_⟩:=tC x i ht
    cases hb
    exact⟨G3,x3,i3,V,rfl,z6 (hrel _ _ hv)⟩
theorem s6 {ρ:List lC}{x:nB×lD}:∀{l:List ResultVar}{k:List lC→Option (nB×lD)},uC P ρ h l k=some x→∃vs,l.mapM (wF P ρ h)=some vs∧k vs=some x
 | [],k,hb=>⟨[],rfl,hb⟩
 | .tmp t::l,k,hb=>by
  obtain⟨vs,h1,h2⟩:=s6 (l:=l) hb
  exact⟨ρ.getD t .junk::vs,by simp [List.mapM_cons,wF,h1],h2⟩
 | .cell a t::l,k,hb=>by
  simp only [uC] at hb
  split at hb
  ·rename_i g n hg hn
   obtain⟨v,hv,hb⟩:=ab6.1 hb
   obtain⟨vs,h1,h2⟩:=s6 (l:=l) hb
   exact⟨v::vs,by simp only [ae9] at hv;simp [List.mapM_cons,wF,hg,hn,hv,h1],h2⟩
  ·cases hb
theorem WQ (G:Gh) (h:lD) (w:World) (r:nB) (h':lD):∀w',¬pO G h w r h' .outgrown w':=by
 rintro w' ⟨G',_,_,hq⟩
 cases r with
 | ret v=>obtain⟨_,hq,_⟩:=hq;cases hq
 | pan v=>obtain⟨_,hq,_⟩:=hq;cases hq
theorem KY {f:Nat}{fn:Func}{c:Code}{args:List lC}{X:Array Value}{r:nB}{h':lD}(hm:P.follows .mixedOrders=true) (hX:rJ P A) (hK:pW P A K) (hlp:Em lp)
  (hf:P.funcs[f]?=some fn) (hc:fn.body=some c) (hb:KX P A K lp f fn c args h=some (r,h')) (i:Inv G h w) (gl:oU A G h w) (hx:vI G h args X) (hn:args.length≤fn.ntmps) :
  Calls P f X w (pO G h w r h'):=by
 unfold KX at hb
 obtain⟨r0,hr0,hend⟩:=ab6.1 hb
 cases hd:A.dfr f with
 | true =>
  rw [hd] at hr0
  simp only [A5] at hr0
  refine calls_of_wp_defers hf hc ?_
  refine Jc (WQ G h w r h') (cx:={ P,A,K,lp,n:=fn.ntmps,full:=2^fn.ntmps-1,pan:=false,vec:=A.Rp f,frz:=A.frz f,vlit:=A.II f,vmk:=A.vmk f,jt:=A.jt f,lkp:=A.lkp f,rb:=A.rb f,frl:=A.frl f,tb:=A.tb f,ck:=A.ck f }) hm hX hK hlp rfl c _ _ h r0 G w _ hr0 i gl (yA hx hn) (by simp;omega) ?_
  intro a' G' w' he x2 i2 s2
  have hend':uC P (unpack fn.ntmps (q7 fn) r0.2.1) r0.2.2 fn.results.toList (fun vs=>finish A f h.length (oneOf vs) r0.2.2)=some (r,h'):=by
   unfold A2 at hend
   rw [he] at hend
   cases hp:A.pan f <;> rw [hp] at hend <;> exact hend
  obtain⟨vs,hvs,hend'⟩:=s6 hend'
  obtain⟨V,hV,hrel⟩:=vD hvs i2 s2
  exact⟨V,hV,Ah hend' x2 i2 hrel⟩
 | false =>
 rw [hd] at hr0
 simp only [A5] at hr0
 refine calls_of_wp hf hc ?_
 refine sK (cx:={ P,A,K,lp,n:=fn.ntmps,full:=2^fn.ntmps-1,pan:=A.pan f,vec:=A.Rp f,frz:=A.frz f,vlit:=A.II f,vmk:=A.vmk f,jt:=A.jt f,lkp:=A.lkp f,rb:=A.rb f,frl:=A.frl f,tb:=A.tb f,ck:=A.ck f }) hm hX hK hlp c _ _ h _ _ r0 G w _ _ (qN c) hr0 i gl (yA hx hn) (by simp;omega) ?_ (fun _ w' hq=>WQ G h w r h' w' hq)
 have ret:∀(e:Ex) (ρ':List lC) (h1:lD) (G':Gh) (w':World) (a':Act),(e=.normal∨e=.ret)→A2 P A f fn h.length e (unpack fn.ntmps (q7 fn) (pack (q7 fn) ρ')) h1=some (r,h')→Ext G h w G' h1 w'→Inv G' h1 w'→nT (fun a=>a.defers=[]) G' h1 ρ' a'→ρ'.length=fn.ntmps →
   a'.defers=[]∧∃v,(results fn a'.tmps).run P w'=.ok v w'∧pO G h w r h' (.returned v) w':=by
  intro e ρ' h1 G' w' a' he hend h3 h4 s hn'
  have s':=s.pack (L:=q7 fn) hn'
  have hend':uC P (unpack fn.ntmps (q7 fn) (pack (q7 fn) ρ')) h1 fn.results.toList (fun vs=>finish A f h.length (oneOf vs) h1)=some (r,h'):=by
   unfold A2 at hend
   cases hp:A.pan f <;> rw [hp] at hend <;> rcases he with rfl | rfl <;> exact hend
  obtain⟨vs,hvs,hend'⟩:=s6 hend'
  obtain⟨V,hV,hrel⟩:=vD hvs h4 s'
  exact⟨s.df,V,hV,Ah hend' h3 h4 hrel⟩
 refine⟨fun ρ' h1 G' w' a' h2 h3 h4 h5 h6=>?_,fun e ρ' h1 G' w' a' h2 h3 h4 h5 h6=>?_,fun v ρ' h1 G' w' a' V h2 h3 h4 h5 h6=>?_⟩
 ·cases h2
  exact ret _ ρ' h1 G' w' a' (.inl rfl) hend h3 h4 h5 h6
 ·cases h2
  cases e with
  | ret=>exact ret _ ρ' h1 G' w' a' (.inr rfl) hend h3 h4 h5 h6
  | exit id=>unfold A2 at hend;cases hp:A.pan f <;> rw [hp] at hend <;> cases hend
  | _=>trivial
 ·cases h2
  unfold A2 at hend
  cases hp:A.pan f with
  | false=>rw [hp] at hend;cases hend
  | true =>
   rw [hp] at hend
   simp only [cond_true,Ex.Pm] at hend
   cases hkp:A.kp f with
   | true =>
    rw [hkp] at hend
    simp only [cond_true] at hend
    cases hend
    exact⟨h6,G',h3,h4,V,rfl,h5⟩
   | false =>
   rw [hkp] at hend
   simp only [cond_false,Zs,af1] at hend
   obtain⟨h3',ht,hend⟩:=hend
   obtain⟨G3,i3,x3,_,hrel,_⟩:=tC h3 h4 ht
   cases hend
   exact⟨h6,G3,x3,i3,V,rfl,z6 (hrel _ _ h5)⟩
theorem CG:∀{cs:List lC}{xs:List Int},Fk cs=some xs→cs=xs.map (.int .i64)
 | [],xs,hb=>by simp [Fk] at hb;subst hb;rfl
 | v::r,xs,hb=>by
  unfold Fk at hb
  split at hb
  ·rename_i h0;cases h0
  ·rename_i n r' h0
   cases h0
   obtain⟨ys,h1,rfl⟩:=af1.1 hb
   rw [CG h1];rfl
  ·cases hb
theorem NF {g':Nat}{cp:List lC}{F:Value}(hx:lT G h (.func g' [] cp) F):∃C,F=.func (.func g') #[] C∧cp.length=C.size∧∀(i:Nat) (v:lC),cp[i]?=some v→lT G h v (C.getD i undef):=by
 cases hx with
 | p _ _ hp=>cases hp;exact⟨#[],rfl,rfl,by simp⟩
 | func f first cap F C hlf hlc hf hc =>
  have:F=#[]:=by
   obtain⟨l⟩:=F;cases l with
   | nil=>rfl
   | cons a l=>simp at hlf
  subst this
  exact⟨C,rfl,hlc,hc⟩
theorem wW {key:Int→Int}{x y:Int}:qJ key x y=true↔(key x<key y∨(key x=key y∧x≤y)):=by
 unfold qJ;simp
theorem JK {le:Int→Int→Bool}{x:Int}{l:List Int}:(qY le x l).Perm (x::l):=by
 induction l with
 | nil=>exact .refl _
 | cons y r ih =>
  unfold qY
  cases le x y with
  | true=>exact .refl _
  | false=>exact(List.Perm.cons y ih).trans (List.Perm.swap x y r)
theorem tQ {le:Int→Int→Bool}{l:List Int}:(zT le l).Perm l:=by
 induction l with
 | nil=>exact .refl _
 | cons x r ih=>exact JK.trans (List.Perm.cons x ih)
theorem NL {key:Int→Int}{x:Int}{l:List Int}(h:l.Pairwise fun a b=>qJ key a b=true):(qY (qJ key) x l).Pairwise fun a b=>qJ key a b=true:=by
 induction l with
 | nil=>simp [qY]
 | cons y r ih =>
  unfold qY
  rw [List.pairwise_cons] at h
  cases hxy:qJ key x y with
  | true =>
   simp only [cond_true]
   rw [List.pairwise_cons]
   refine⟨fun z hz=>?_,List.pairwise_cons.2 h⟩
   rcases List.mem_cons.1 hz with rfl | hz
   ·exact hxy
   ·have h1:=h.1 z hz
    rw [wW] at *
    omega
  | false =>
   simp only [cond_false]
   rw [List.pairwise_cons]
   refine⟨fun z hz=>?_,ih h.2⟩
   rcases List.mem_cons.1 (JK.mem_iff.1 hz) with rfl | hz
   ·have:¬qJ key z y=true:=by rw [hxy];decide
    rw [wW] at *
    omega
   ·exact h.1 z hz
theorem DS {key:Int→Int}{l:List Int}:(zT (qJ key) l).Pairwise fun a b=>qJ key a b=true:=by
 induction l with
 | nil=>exact .nil
 | cons x r ih=>exact NL ih
theorem Xq {key:Int→Int}{l:List Int}:zT (qJ key) l=l.mergeSort (qJ key):=by
 have h2:(l.mergeSort (qJ key)).Pairwise fun a b=>qJ key a b=true:=List.pairwise_mergeSort (fun a b c h1 h2=>by rw [wW] at *;omega) (fun a b=>by rw [Bool.or_eq_true,wW,wW];omega) l
 exact List.Perm.eq_of_pairwise (fun a b _ _ h1 h2=>by rw [wW] at *;omega) DS h2 (tQ.trans (List.mergeSort_perm _ _).symm)
theorem Ou {f g:Nat}{args:List lC}{r:nB}{h':lD}{X:Array Value}(hS:GD P f g) (hb:FL g args h=some (r,h')) (i:Inv G h w) (hx:vI G h args X) :
  (∀w,(callFunc f X).run P w=.ok (.enter f X) w)∧Calls P f X w (pO G h w r h'):=by
 refine⟨fun w=>hS.1 X w,?_⟩
 unfold FL at hb
 split at hb
 case h_3=>cases hb
 ·rename_i tok g' cp
  split at hb
  case isFalse=>cases hb
  rename_i hg
  subst hg
  cases hb
  obtain⟨C,hF,_⟩:=NF (hx.2 1 _ rfl)
  obtain⟨a,cap,hA⟩:∃a cap,X.getD 0 undef=.slice a 0 cap:=by
   have:=(hx.2 0 _ rfl).rH
   generalize X.getD 0 undef=V0 at this
   cases this with
   | slice0 a cap=>exact⟨a,cap,rfl⟩
   | slice rows b off cap sz V _ _ _ _ _=>exact⟨_,cap,rfl⟩
  have hXe:X=#[.slice a 0 cap,.func (.func g') #[] C]:=by
   obtain⟨l⟩:=X
   match l,hx.1,hA,hF with
   | [x,y],_,h0,h1=>simp at h0 h1;subst h0;subst h1;rfl
  rw [hXe]
  refine Calls.mono (hS.2.1 a cap #[] C w) fun e w' hp=>?_
  obtain⟨rfl,rfl⟩:=hp
  exact⟨G,Ext.refl G _ _,i,_,rfl,.p _ _ (.tuple [] #[] rfl (by simp))⟩
 ·rename_i id tot n g' pid po
  split at hb
  case h_2=>cases hb
  rename_i x cs hgv hpc
  split at hb
  case h_2=>cases hb
  rename_i rows tok xs hcs hxs
  split at hb
  case isFalse=>cases hb
  rename_i hcond
  obtain⟨rfl,hne,hx1,hn0,hnl,hnm,hrows,hkeys⟩:=hcond
  cases hb
  have hid:=qX hgv
  rw [hx1] at hid
  obtain⟨Cf,hF,hFl,hFc⟩:=NF (hx.2 1 _ rfl)
  obtain⟨b,cap,hA,hnf,htot,hlc,hv⟩:=(hx.2 0 _ rfl).pY
  obtain⟨b',cap',C,e0,g1,g2,g3,g4,g5,g6,g7,g8,g9⟩:=i.mU id _ hid
  obtain⟨l0,cap0,k1,k2,k3,k4⟩:=hv (by rw [g1];rfl)
  have hcur:=g1
  rw [g1] at k1
  simp only [Value.slice.injEq,ad0,Addr.mk.injEq] at k1
  obtain⟨⟨rfl,_⟩,_,rfl⟩:=k1
  have hP:=(hFc 0 _ rfl).sF
  obtain⟨Cp,ep,p1,p2,p3,p4⟩:=i.mU pid _ hpc
  have hXe:X=#[.slice (some ⟨b',0,none⟩) n cap,.func (.func g') #[] #[.pointer (some ⟨G.mU pid,po,none⟩)]]:=by
   have hCf:Cf=#[.pointer (some ⟨G.mU pid,po,none⟩)]:=by
    obtain⟨l⟩:=Cf
    match l,hFl,hP with
    | [x],_,h0=>simp at h0;rw [h0.1]
   subst hCf
   obtain⟨l⟩:=X
   match l,hx.1,hA,hF with
   | [x,y],_,h0,h1=>simp at h0 h1;subst h0;subst h1;rfl
  have hxl:xs.length=n:=by
   have:=congrArg List.length (CG hxs)
   simp at this;omega
  have hcell:∀(j:Nat) (m:Int),xs[j]?=some m→x.2[j]?=some (.int .i64 m):=by
   intro j m hj
   have h1:(x.2.take n)[j]?=some (.int .i64 m):=by rw [CG hxs,af7,hj];rfl
   rw [List.getElem?_take] at h1
   split at h1
   ·exact h1
   ·cases h1
  have hne0:xs≠[]:=by intro h0;rw [h0] at hxl;simp at hxl;omega
  have hkey:∀y∈xs,0≤y∧∃row,rows[y.toNat]?=some row∧row[0]?=some (.int .i64 ((vZ rows y).getD 0)):=by
   intro y hy
   have:=am7.1 hkeys y hy
   unfold vZ at this ⊢
   split at this
   ·rename_i h0
    rw [if_pos h0]
    split at this
    ·rename_i a r hr
     exact⟨h0,_,hr,rfl⟩
    ·cases this
   ·cases this
  have hsl:=(p4 po _ hcs).2.rH
  obtain⟨sb,so,cp,hVc,hrow⟩:∃sb so cp,Cp.getD po undef=.slice (some ⟨sb,so,none⟩) rows.length cp∧∀(y:Nat) (row:List lC) (v:Int),rows[y]?=some row→row[0]?=some (.int .i64 v)→G.H sb (so+y*2)=some (.int .i64 v):=by
   generalize hCv:Cp.getD po undef=Vc at hsl
   cases hsl with
   | slice0 a cap =>
    exfalso
    obtain⟨y,hy⟩:=List.exists_mem_of_ne_nil _ hne0
    obtain⟨_,row,h1,_⟩:=hkey y hy
    simp at h1
   | slice _ sb so cp sz V hr hc hH hk hV =>
    refine⟨sb,so,cp,rfl,fun y row v h1 h2=>?_⟩
    have hrl:=hr row (af3 h1)
    have hr2:row.length=2:=by have:=am7.1 hrows row (af3 h1);simpa using this
    have h3:=hH y 0 row _ h1 h2
    have h4:=hV y 0 row _ h1 h2
    have h5:sz=2:=by omega
    subst h5
    rw [Nat.add_zero] at h3 h4
    generalize V (y*2)=Vy at h3 h4
    cases h4
    exact h3
  have hpb:G.mU pid≠b':=by
   intro he
   refine hne (i.inj pid id b' ?_ ?_)
   ·unfold owner;rw [hpc,he]
   ·unfold owner;rw [hid];show(G.cur id).ownBlock=_;rw [hcur];rfl
  have hsb:sb≠b':=by
   intro he
   obtain⟨y,hy⟩:=List.exists_mem_of_ne_nil _ hne0
   obtain⟨_,row,h1,h2⟩:=hkey y hy
   have:=hrow _ row _ h1 h2
   rw [he,g8] at this;cases this
  have hpcell:w.cell? ⟨G.mU pid,po,none⟩=some (.slice (some ⟨sb,so,none⟩) rows.length cp):=by
   rw [←hVc]
   have hpl:po<Cp.size:=by have:=(ac1.1 hcs).1;omega
   rw [cell_of w _ po p1,af2,Array.getElem?_eq_getElem hpl];rfl
  have hlen1:x.2.length=tot:=by simpa using g7
  rw [hXe]
  have hS2:=hS.2.2 w b' cap C e0 xs (G.mU pid) po sb so rows.length cp (fun y=>(vZ rows y).getD 0) g2 hne0 (by omega)
   (fun j m hj=>by
    have h1:=(g9 j _ (hcell j m hj)).2.pB
    have hjl:j<C.size:=by have:=(ac1.1 (hcell j m hj)).1;omega
    rw [af2,Array.getElem?_eq_getElem hjl] at h1
    rw [Array.getElem?_eq_getElem hjl]
    simpa using h1)
   hpcell hpb hsb (fun y hy=>by
    obtain⟨h0,row,h1,h2⟩:=hkey y hy
    exact⟨h0,(ac1.1 h1).1,i.ok _ _ _ (hrow _ row _ h1 h2)⟩)
  rw [hxl] at hS2
  refine Calls.mono hS2 fun e w' hp=>?_
  obtain⟨rfl,q1,q2,q3,os,q4⟩:=hp
  rw [Xq]
  generalize hzs:xs.mergeSort (qJ fun y=>(vZ rows y).getD 0)=zs at *
  have hzl:zs.length=n:=by rw [←hzs,List.length_mergeSort,hxl]
  have hw:=i.IP (off:=0) (vs:=zs.map (.int .i64)) (U:=zs.map (Value.int .i64)) hid hcur g2 (by simp;omega) (by simp) (fun j u hu=>by
   rw [af7] at hu
   obtain⟨m,hm,rfl⟩:=af1.1 hu
   refine⟨rfl,?_⟩
   rw [ae9,af7,hm]
   exact .p _ _ (.int _ _))
  have hrw:(C.toList.take 0++zs.map (Value.int .i64)++C.toList.drop (0+(zs.map (Value.int .i64)).length)).toArray=(zs.map (Value.int .i64)++C.toList.drop n).toArray:=by simp [hzl]
  rw [hrw] at hw
  generalize hw1:w.setRow b' (zs.map (Value.int .i64)++C.toList.drop n).toArray=w1 at *
  have e1:w1.os=w.os:=by rw [←hw1];rfl
  have e2:w1.tape=w.tape:=by rw [←hw1];rfl
  have e3:w1.output=w.output:=by rw [←hw1];rfl
  have key:=hw.1.push (G':=G) (ext:=[]) (w':=w') (q1.trans e1.symm) (q2.trans e2.symm) (q3.trans e3.symm) (by rw [q4];simp) (fun k hk=>by rw [q4];exact Array.getElem?_append_left hk) (fun _ _=>rfl) (fun _ _=>rfl) (fun _ _ _ h=>h) (fun _ _ _=>rfl)
   (fun b k v hb hv=>by have:=hw.1.wY (b:=b) (k:=k) (v:=v) hv;omega)
   (fun j bl hj=>by simp at hj) (fun j bl b hj=>by simp at hj) (fun j j' bl bl' b hj=>by simp at hj)
  rw [List.append_nil] at key
  exact⟨G,hw.2.trans key.2,key.1,_,rfl,.p _ _ (.tuple [] #[] rfl (by simp))⟩
theorem N9 {f:Nat}{k:Yu}{args:List lC}{r:nB}{h':lD}{X:Array Value}(hP:ab8 P A f k) (hb:N8 A.bld k args h=some (r,h')) (i:Inv G h w) (gl:oU A G h w) (hx:vI G h args X) :
  (∀w,(callFunc f X).run P w=.ok (.enter f X) w)∧Calls P f X w (pO G h w r h'):=by
 cases k with
 | fn g =>
  obtain⟨p1,p2⟩:=hP
  refine⟨fun w=>p1 X w,?_⟩
  simp only [N8] at hb
  obtain⟨v,hv,hb⟩:=af1.1 hb
  cases hb
  refine Calls.mono (p2 G h w args X v i gl hx.1 hx.2 hv) fun e w' hp=>?_
  obtain⟨⟨V,rfl,hV⟩,q1,q2,q3,os,q4⟩:=hp
  have key:=i.push (G':=G) (ext:=[]) (w':=w') q1 q2 q3 (by rw [q4];simp) (fun k hk=>by rw [q4];exact Array.getElem?_append_left hk) (fun _ _=>rfl) (fun _ _=>rfl) (fun _ _ _ h=>h) (fun _ _ _=>rfl)
   (fun b k v hb hv=>by have:=i.wY (b:=b) (k:=k) (v:=v) hv;omega)
   (fun j bl hj=>by simp at hj) (fun j bl b hj=>by simp at hj) (fun j j' bl bl' b hj=>by simp at hj)
  rw [List.append_nil] at key
  exact⟨G,key.2,key.1,V,rfl,.p _ _ hV⟩
 | _=>exact hP.elim
theorem Tm (hm:P.follows .mixedOrders=true) (hX:rJ P A) (hK:pW P A (mH A K)) (hlp:Em lp):pW P A (qG P A lp K):=by
 intro f args h r h' hb G w X i gl hx
 unfold qG at hb
 cases hpr:A.prm f with
 | some k =>
  simp only [hpr] at hb
  exact N9 (hX.2.2 f k hpr) hb i gl hx
 | none =>
 simp only [hpr] at hb
 cases hsf:A.srf f with
 | some g =>
  simp only [hsf] at hb
  exact Ou (hX.2.1 f g hsf) hb i hx
 | none =>
 simp only [hsf] at hb
 cases hf:P.funcs[f]? with
 | none=>rw [hf] at hb;cases hb
 | some fn =>
  simp only [hf] at hb
  cases hc:fn.body with
  | none=>rw [hc] at hb;cases hb
  | some c =>
   simp only [hc] at hb
   cases hg:decide (args.length≤fn.ntmps)&&!(fn.name == "runtime.NumGoroutine") with
   | false=>rw [hg] at hb;cases hb
   | true =>
    rw [hg] at hb
    simp only [am4,decide_eq_true_eq,Bool.not_eq_true'] at hg
    have key:Calls P f X w (pO G h w r h'):=by
     exact KY hm hX hK hlp hf hc hb i gl hx hg.1
    refine⟨fun w=>?_,key⟩
    have hne:¬fn.name = "runtime.NumGoroutine" := by simpa using hg.2
    simp [callFunc,Sem.run_bind,hf,hc,hne,Sem.run_pure]
theorem Inv.empty (i:Inv G h w):Inv G [] w:=⟨i.ok,fun id bl hb=>by simp at hb,fun a b c ha=>by simp [owner] at ha⟩
theorem HT {out:Bool}{r1 r:nB}{h1 h':lD}{e:Ending}{w':World}(hb:tA out h (r1,h1)=some (r,h')) (i:Inv G h w) (hpost:pO G [] w r1 h1 e w'):pO G h w r h' e w':=by
 obtain⟨G',x,i',hpost⟩:=hpost
 have fr:∀b,b<w.heap.size→w'.heap[b]?=w.heap[b]?∧∀k,G'.H b k=G.H b k:=fun b hb=>x.frame b hb fun id=>by simp [owner]
 have new:∀{j b:Nat},owner G' h1 j=some b→¬b<w.heap.size:=fun ho hlt=>by
  have:=x.own _ _ ho hlt
  simp [owner] at this
 have hcase:(h1=[]∧r=r1∧h'=h)∨(h1.all (mC.ok fun j=>decide (j<h1.length))=true∧r1.ok (fun j=>decide (j<h1.length))=true∧r=r1.uQ (fun j=>h.length+j)∧h'=h++h1.map (mC.uQ fun j=>h.length+j)):=by
  unfold tA at hb
  cases h1 with
  | nil=>cases hb;exact .inl ⟨rfl,rfl,rfl⟩
  | cons b t =>
   simp only at hb
   cases hc:out&&((b::t).all (mC.ok fun j=>decide (j<(b::t).length))&&r1.ok fun j=>decide (j<(b::t).length)) with
   | false=>rw [hc] at hb;cases hb
   | true =>
    rw [hc] at hb
    simp only [am4] at hc
    cases hb
    exact .inr ⟨hc.2.1,hc.2.2,rfl,rfl⟩
 rcases hcase with ⟨rfl,rfl,rfl⟩ | ⟨hbok,hrok,rfl,rfl⟩
 ·let G2:Gh:={ G' with mU:=G.mU,cur:=G.cur }
  have mono:AT G h' G2 h':=⟨x.hmono,fun id bl hb=>⟨bl,hb,by cases bl <;> simp [Kind,G2]⟩⟩
  have key:∀{v:lC}{V:Value},lT G' [] v V→lT G2 h' v V:=by
   intro v V r
   have nl:∀id,¬live ([]:lD) id:=fun id ⟨b,hb,_⟩=>by simp at hb
   induction r with
   | p v V hp=>exact .p v V hp
   | agg cs C hl _ ih=>exact .agg cs C hl ih
   | tuple cs C hl _ ih=>exact .tuple cs C hl ih
   | nil=>exact .nil
   | own rows id n sz V hp hf=>simp at hf
   | ownv id V hp hb=>obtain⟨b,hb,_⟩:=hb;simp at hb
   | vslice id tot off len sz b cap hb=>obtain⟨b,hb,_⟩:=hb;simp at hb
   | vptr id tot off b hb=>obtain⟨b,hb,_⟩:=hb;simp at hb
   | ptr id off hl=>exact absurd hl (nl id)
   | mslice id off len sz cap hl=>exact absurd hl (nl id)
   | mslice0 id off sz cap a=>exact .mslice0 id off sz cap a
   | map id hl=>exact absurd hl (nl id)
   | func f first cap F C hlf hlc _ _ ih1 ih2=>exact .func f first cap F C hlf hlc ih1 ih2
   | iface t v V _ ih=>exact .iface t v V ih
  refine⟨G2,⟨x.os,x.tape,x.output,x.size,fun b hb _=>fr b hb,x.hmono,fun id b ho _=>ho,mono.kinds⟩,⟨i'.ok,fun id bl hb=>?_,fun a b c ha hb=>i.inj a b c ha hb⟩,?_⟩
  ·refine(i.mU id bl hb).EM mono rfl rfl fun b ho=>?_
   exact fr b ((i.mU id bl hb).lt ho)
  ·cases r with
   | ret v=>obtain⟨V,he,hV⟩:=hpost;exact⟨V,he,key hV⟩
   | pan v=>obtain⟨V,he,hV⟩:=hpost;exact⟨V,he,key hV⟩
 ·simp only [am7] at hbok
  let G2:Gh:={ H:=G'.H,mU:=fun id=>if id<h.length then G.mU id else G'.mU (id-h.length),cur:=fun id=>if id<h.length then G.cur id else G'.cur (id-h.length) }
  let sh:Nat→Nat:=fun j=>h.length+j
  have b1:∀{id:Nat},id<h.length→G2.mU id=G.mU id:=fun hl=>if_pos hl
  have c1:∀{id:Nat},id<h.length→G2.cur id=G.cur id:=fun hl=>if_pos hl
  have b2:∀{j:Nat},G2.mU (sh j)=G'.mU j:=fun {j}=>by
   show(if _ then _ else _)=_
   rw [if_neg (by show ¬h.length+j<h.length;omega)];congr 1;show h.length+j-h.length=j;omega
  have c2:∀{j:Nat},G2.cur (sh j)=G'.cur j:=fun {j}=>by
   show(if _ then _ else _)=_
   rw [if_neg (by show ¬h.length+j<h.length;omega)];congr 1;show h.length+j-h.length=j;omega
  let hN:lD:=h++h1.map (mC.uQ sh)
  have g1:∀{id:Nat},id<h.length→hN[id]?=h[id]?:=fun hl=>am3 hl
  have g2:∀{j:Nat},hN[sh j]?=(h1[j]?).map (mC.uQ sh):=fun {j}=>by
   show(h++_)[h.length+j]?=_
   rw [af4 (by omega),Nat.add_sub_cancel_left,af7]
  have m2:AU G' h1 G2 hN sh (fun j=>decide (j<h1.length)):=⟨fun _ _ _ h=>h,fun j b _ hb=>⟨_,by rw [g2,hb];rfl,vE b⟩,fun _ _=>b2,fun _ _=>c2⟩
  have own2:∀{id b:Nat},owner G2 hN id=some b→(id<h.length∧owner G h id=some b)∨(∃j,id=sh j∧owner G' h1 j=some b):=by
   intro id b ho
   obtain⟨bl,hbl,ho2⟩:=oN ho
   by_cases hl:id<h.length
   ·refine .inl ⟨hl,?_⟩
    rw [g1 hl] at hbl
    rw [mZ hbl,←ho2]
    cases bl <;> simp [mL,b1 hl,c1 hl]
   ·have e:id=sh (id-h.length):=by show id=h.length+(id-h.length);omega
    refine .inr ⟨id-h.length,e,?_⟩
    rw [e,g2] at hbl
    obtain⟨b0,hb0,rfl⟩:=af1.1 hbl
    have e3:=Al (G:=G') (G2:=G2) (f:=sh) (id:=id-h.length) (j:=sh (id-h.length)) (b:=b0) b2 c2
    rw [←e] at e3
    rw [mZ hb0,←e3]
    exact ho2
  have kinds:∀id bl,h[id]?=some bl→∃bl',hN[id]?=some bl'∧Kind G G2 id bl bl':=by
   intro id bl hbl
   have hl:=(ac1.1 hbl).1
   refine⟨bl,by rw [g1 hl];exact hbl,?_⟩
   cases bl <;> simp [Kind,b1 hl,c1 hl]
  have ext:Ext G h w G2 hN w':=⟨x.os,x.tape,x.output,x.size,fun b hb _=>fr b hb,x.hmono,fun id b ho hlt=>by
   rcases own2 ho with ⟨_,h2⟩ | ⟨j,_,h2⟩
   ·exact h2
   ·exact absurd hlt (new h2),kinds⟩
  refine⟨G2,ext,⟨i'.ok,fun id bl hbl=>?_,fun a c b ha hc=>?_⟩,?_⟩
  ·have hbl:hN[id]?=some bl:=hbl
   by_cases hl:id<h.length
   ·rw [g1 hl] at hbl
    exact(i.mU id bl hbl).EM ext.toMono (b1 hl) (c1 hl) fun b ho=>fr b ((i.mU id bl hbl).lt ho)
   ·have e:id=sh (id-h.length):=by show id=h.length+(id-h.length);omega
    rw [e,g2] at hbl
    obtain⟨b0,hb0,rfl⟩:=af1.1 hbl
    rw [e]
    exact(i'.mU _ b0 hb0).uQ m2 rfl b2 c2 (hbok b0 (af3 hb0))
  ·rcases own2 ha with ⟨hla,h2⟩ | ⟨ja,rfl,h2⟩
   ·rcases own2 hc with ⟨hlc,h3⟩ | ⟨jc,rfl,h3⟩
    ·exact i.inj a c b h2 h3
    ·obtain⟨bl,hbl,hob⟩:=oN h2
     exact absurd ((i.mU a bl hbl).lt hob) (new h3)
   ·rcases own2 hc with ⟨hlc,h3⟩ | ⟨jc,rfl,h3⟩
    ·obtain⟨bl,hbl,hob⟩:=oN h3
     exact absurd ((i.mU c bl hbl).lt hob) (new h2)
    ·rw [i'.inj ja jc b h2 h3]
  ·cases r1 with
   | ret v=>obtain⟨V,he,hV⟩:=hpost;exact⟨V,he,B1 m2 hV hrok⟩
   | pan v=>obtain⟨V,he,hV⟩:=hpost;exact⟨V,he,B1 m2 hV hrok⟩
theorem Nu (hK:pW P A K):pW P A (mH A K):=by
 intro f args h r h' hb G w X i gl hx
 unfold mH at hb
 cases hp:A.pure f with
 | false =>
  rw [hp] at hb
  cases hsb:A.sub f with
  | false=>rw [hsb] at hb;exact hK f args h r h' hb G w X i gl hx
  | true=>rw [hsb] at hb;exact QX hK hb i gl hx
 | true =>
  rw [hp] at hb
  simp only [cond_true] at hb
  cases hs:args.all (lC.rU 0) with
  | false=>rw [hs] at hb;cases hb
  | true =>
   rw [hs] at hb
   simp only [cond_true] at hb
   obtain⟨⟨r1,h1⟩,hc,hb⟩:=ab6.1 hb
   simp only [am7] at hs
   have l:Left G h G [] 0:=⟨fun _ _ _ h=>h,rfl,rfl,fun id hid=>absurd hid (by omega),fun id n sz t hid=>absurd hid (by omega),fun id hid=>absurd hid (by omega)⟩
   have hx0:vI G [] args X:=⟨hx.1,fun j u hu=>uB l (hs u (af3 hu)) (hx.2 j u hu)⟩
   obtain⟨e1,e2⟩:=hK f args [] _ _ hc G w X i.empty (gl.sub rfl fun id b ho=>by simp [owner] at ho) hx0
   refine⟨e1,Calls.mono e2 fun e w' hpost=>?_⟩
   exact HT hb i hpost
theorem JE (hm:P.follows .mixedOrders=true) (hX:rJ P A) (hlp:Em lp):∀n,pW P A (MQ P A lp n)
 | 0=>fun f args h r h' hb=>by simp [MQ] at hb
 | n+1=>fun f args h r h' hb=>Tm hm hX (Nu (JE hm hX hlp n)) hlp f args h r h' hb
end
end
noncomputable section
open Go Go.RowKit
def Ev (p:Nat→Prop):Prop:=∃N,∀n,N≤n→p n
theorem Ev.of {p:Nat→Prop}(h:∀n,p n):Ev p:=⟨0,fun n _=>h n⟩
theorem Ev.imp {p q:Nat→Prop}(h:Ev p) (hi:∀n,p n→q n):Ev q:=let ⟨N,hN⟩:=h;⟨N,fun n hn=>hi n (hN n hn)⟩
theorem Ev.and {p q:Nat→Prop}(h:Ev p) (h':Ev q):Ev fun n=>p n∧q n :=
 let ⟨N,hN⟩:=h;let ⟨M,hM⟩:=h';⟨max N M,fun n hn=>⟨hN n (by omega),hM n (by omega)⟩⟩
theorem HE {F:List lC×lD→Option R}:∀{n:Nat}{s:List lC×lD}{r:R},qC n F s=some r→qC (n+1) F s=some r
 | 0,s,r,h=>by simp [qC] at h
 | n+1,s,r,h=>by
  rw [qC] at h ⊢
  obtain⟨r1,h1,h2⟩:=ab6.1 h
  rw [h1]
  simp only [ai3]
  cases he:r1.1 with
  | normal=>rw [he] at h2;exact HE h2
  | _=>rw [he] at h2;exact h2
theorem FE {F:List lC×lD→Option R}{n m:Nat}{s:List lC×lD}{r:R}(hnm:n≤m) (h:qC n F s=some r):qC m F s=some r:=by
 induction hnm with
 | refl=>exact h
 | step _ ih=>exact HE ih
open Classical in
def mX (F:List lC×lD→Option R) (s:List lC×lD):Option R :=
 if h:∃n r,qC n F s=some r then some (Classical.choose (Classical.choose_spec h)) else none
theorem x5 {F:List lC×lD→Option R}{s:List lC×lD}{r:R}:mX F s=some r↔∃n,qC n F s=some r:=by
 unfold mX
 constructor
 ·intro h
  split at h
  ·rename_i hx
   cases h
   exact⟨_,Classical.choose_spec (Classical.choose_spec hx)⟩
  ·cases h
 ·rintro⟨n,hn⟩
  have hx:∃n r,qC n F s=some r:=⟨n,r,hn⟩
  rw [dif_pos hx]
  have h1:=Classical.choose_spec (Classical.choose_spec hx)
  have h2:=FE (Nat.le_max_left _ n) h1
  have h3:=FE (Nat.le_max_right (Classical.choose hx) n) hn
  rw [h2] at h3
  exact h3
theorem agN:Em mX:=fun _ _ _ h=>x5.1 h
theorem nM (F:List lC×lD→Option R) (s:List lC×lD):mX F s=(F s).bind fun r=>r.1.mO (mX F r.2) fun e=>some (e,r.2):=by
 apply Option.ext
 intro r
 rw [x5]
 constructor
 ·rintro⟨n,hn⟩
  cases n with
  | zero=>simp [qC] at hn
  | succ n =>
   rw [qC] at hn
   obtain⟨r1,h1,h2⟩:=ab6.1 hn
   rw [h1]
   simp only [ai3]
   cases he:r1.1 with
   | normal=>rw [he] at h2;exact x5.2 ⟨n,h2⟩
   | _=>rw [he] at h2;exact h2
 ·intro h
  obtain⟨r1,h1,h2⟩:=ab6.1 h
  cases he:r1.1 with
  | normal =>
   rw [he] at h2
   obtain⟨n,hn⟩:=x5.1 h2
   exact⟨n+1,by rw [qC,h1];simp only [ai3,he];exact hn⟩
  | _ =>
   rw [he] at h2
   exact⟨1,by rw [qC,h1];simp only [ai3,he];exact h2⟩
theorem ZN {F:List lC×lD→Option R}{Fn:Nat→List lC×lD→Option R}(hF:∀s r,F s=some r→Ev fun n=>Fn n s=some r) {s:List lC×lD}{r:R}(h:mX F s=some r) :
  Ev fun n=>mX (Fn n) s=some r:=by
 obtain⟨m,hm⟩:=x5.1 h
 have key:∀(m:Nat) (s:List lC×lD),qC m F s=some r→Ev fun n=>qC m (Fn n) s=some r:=by
  intro m
  induction m with
  | zero=>intro s h;simp [qC] at h
  | succ m ih =>
   intro s h
   rw [qC] at h
   obtain⟨r1,h1,h2⟩:=ab6.1 h
   cases he:r1.1 with
   | normal =>
    rw [he] at h2
    refine((hF _ _ h1).and (ih _ h2)).imp fun n hn=>?_
    rw [qC,hn.1];simp only [ai3,he];exact hn.2
   | _ =>
    rw [he] at h2
    refine(hF _ _ h1).imp fun n hn=>?_
    rw [qC,hn];simp only [ai3,he];exact h2
 exact(key m s hm).imp fun n hn=>x5.2 ⟨m,hn⟩
section
variable {cx:Cx}{o:Oper}{ρ:List lC}{h:lD}{kv kp:lC→lD→Option R}{r:R}{ids:List Nat}{ops:List Oper}
theorem Vv {kvn kpn:Nat→lC→lD→Option R}(hv:∀v h r,kv v h=some r→Ev fun n=>kvn n v h=some r) (hp:∀v h r,kp v h=some r→Ev fun n=>kpn n v h=some r) {r0:R}
  (hb:l9 kv kp r0=some r):Ev fun n=>l9 (kvn n) (kpn n) r0=some r:=by
 obtain⟨e,l,h⟩:=r0
 cases e with
 | normal =>
  match l with
  | []=>cases hb
  | [v]=>exact hv v h r hb
  | _::_::_=>cases hb
 | pan v=>exact hp v h r hb
 | exit _=>cases hb
 | ret=>cases hb
def z_ (K:lN) (Kn:Nat→lN):Prop:=∀f args h r,K f args h=some r→Ev fun n=>Kn n f args h=some r
theorem Vq {lp':Ut}{K':lN}{rsv:Option Nat}(hne:∀c f,o.op=.call c→c.callee=.value f→False) (hni:∀c f m,o.op=.call c→c.callee=.invoke f m→False):evalOp { cx with K:=K',lp:=lp' } o rsv ρ h kv kp=evalOp cx o rsv ρ h kv kp:=by
 unfold evalOp nD
 cases ho:o.op with
 | call c =>
  simp only []
  cases hc:c.callee with
  | value f=>exact(hne c f ho hc).elim
  | builtin b=>rfl
  | invoke f m=>exact(hni c f m ho hc).elim
 | makeFunc b f c=>cases b <;> rfl
 | makeMap t r=>cases r <;> rfl
 | typeAssert x xt t ok=>cases ok <;> rfl
 | slice t x lo hi mx=>cases mx <;> rfl
 | assign x=>cases zJ x <;> rfl
 | _=>rfl
theorem CK {lp':Ut}{Kn:Nat→lN}{kvn kpn:Nat→lC→lD→Option R}{rsv:Option Nat}(hK:z_ cx.K Kn) (hv:∀v h r,kv v h=some r→Ev fun n=>kvn n v h=some r)
  (hp:∀v h r,kp v h=some r→Ev fun n=>kpn n v h=some r) (hb:evalOp cx o rsv ρ h kv kp=some r):Ev fun n=>evalOp { cx with K:=Kn n,lp:=lp' } o rsv ρ h (kvn n) (kpn n)=some r:=by
 rw [uV] at hb
 obtain⟨r0,h1,h2⟩:=ab6.1 hb
 have key:Ev fun n=>evalOp { cx with K:=Kn n,lp:=lp' } o rsv ρ h lV FA=some r0:=by
  by_cases hne:∃c f,o.op=.call c∧c.callee=.value f
  ·obtain⟨c,f,ho,hc⟩:=hne
   simp only [evalOp,nD,ho,hc] at h1 ⊢
   obtain⟨g,hg,h1⟩:=ab6.1 h1
   cases hext:cx.A.ext g.1 with
   | some ek =>
    refine Ev.of fun n=>?_
    simp only [hg,ai3,qQ,hext] at h1 ⊢
    exact h1
   | none =>
    simp only [qQ,hext] at h1 ⊢
    unfold lY at h1 ⊢
    obtain⟨r1,hk,h1⟩:=ab6.1 h1
    refine(hK _ _ _ _ hk).imp fun n hn=>?_
    simp only [hg,ai3,hext,hn]
    exact h1
  ·by_cases hni:∃c f m,o.op=.call c∧c.callee=.invoke f m
   ·obtain⟨c,f,m,ho,hc⟩:=hni
    simp only [evalOp,nD,ho,hc] at h1 ⊢
    obtain⟨g,hg,h1⟩:=ab6.1 h1
    cases hext:cx.A.ext g.1 with
    | some ek =>
     refine Ev.of fun n=>?_
     simp only [hg,ai3,qQ,hext] at h1 ⊢
     exact h1
    | none =>
     simp only [qQ,hext] at h1 ⊢
     unfold lY at h1 ⊢
     obtain⟨r1,hk,h1⟩:=ab6.1 h1
     refine(hK _ _ _ _ hk).imp fun n hn=>?_
     simp only [hg,ai3,hext,hn]
     exact h1
   ·refine Ev.of fun n=>?_
    rw [Vq (fun c f ho hc=>hne ⟨c,f,ho,hc⟩) (fun c f m ho hc=>hni ⟨c,f,m,ho,hc⟩)]
    exact h1
 refine(key.and (Vv hv hp h2)).imp fun n hn=>?_
 rw [uV,hn.1]
 exact hn.2
theorem A6 {lp':Ut}{Kn:Nat→lN}{kvn kpn:Nat→lC→lD→Option R}(hK:z_ cx.K Kn) (hv:∀v h r,kv v h=some r→Ev fun n=>kvn n v h=some r)
  (hp:∀v h r,kp v h=some r→Ev fun n=>kpn n v h=some r) (hb:nH cx o ids ρ h kv kp=some r):Ev fun n=>nH { cx with K:=Kn n,lp:=lp' } o ids ρ h (kvn n) (kpn n)=some r:=by
 unfold nH at hb ⊢
 cases hc:cx.ck with
 | true =>
  simp only [hc,cond_true] at hb ⊢
  exact CK (lp':=lp') hK (fun v h' r hk=>by
   obtain⟨h1,h2⟩:=Dn.1 hk
   exact(hv v _ r h2).imp fun n hn=>Dn.2 ⟨h1,hn⟩) hp hb
 | false =>
  simp only [hc,cond_false] at hb ⊢
  exact CK (lp':=lp') hK (fun v h' r hk=>hv v _ r hk) (fun v h' r hk=>hp v _ r hk) hb
theorem NA {lp':Ut}{Kn:Nat→lN}{m:Nat}{kvn:Nat→lC→lD→Option R}(hK:z_ cx.K Kn) (hv:∀v h r,kv v h=some r→Ev fun n=>kvn n v h=some r)
  (hb:u_ cx o m ids ρ h kv=some r):Ev fun n=>u_ { cx with K:=Kn n,lp:=lp' } o m ids ρ h (kvn n)=some r:=by
 unfold u_ at hb ⊢
 cases hs:(h.take m).all (u9 m) with
 | false=>rw [hs] at hb;cases hb
 | true =>
  rw [hs] at hb
  simp only [cond_true] at hb ⊢
  obtain⟨r0,h1,h2⟩:=ab6.1 hb
  have e1:Ev fun n=>nH { cx with K:=Kn n,lp:=lp' } o ids (ρ.map (Bt m)) (h.take m) lV FA=some r0 :=
   A6 (kvn:=fun _=>lV) (kpn:=fun _=>FA) hK (fun _ _ _ h=>Ev.of fun _=>h) (fun _ _ _ h=>Ev.of fun _=>h) h1
  have e2:Ev fun n=>Tp m h (kvn n) r0=some r:=by
   unfold Tp at h2 ⊢
   split at h2
   ·rename_i v t
    cases hl:t.length == m with
    | false=>rw [hl] at h2;cases h2
    | true=>rw [hl] at h2;exact hv _ _ _ h2
   ·cases h2
  refine(e1.and e2).imp fun n hn=>?_
  rw [hn.1]
  exact hn.2
theorem KZ {lp':Ut}{Kn:Nat→lN}{kvn kpn:Nat→lC→lD→Option R}(hK:z_ cx.K Kn) (hv:∀v h r,kv v h=some r→Ev fun n=>kvn n v h=some r)
  (hp:∀v h r,kp v h=some r→Ev fun n=>kpn n v h=some r) (hb:rF cx ops o ids ρ h kv kp=some r):Ev fun n=>rF { cx with K:=Kn n,lp:=lp' } ops o ids ρ h (kvn n) (kpn n)=some r:=by
 have L:nH cx o ids ρ h kv kp=some r→Ev fun n=>nH { cx with K:=Kn n,lp:=lp' } o ids ρ h (kvn n) (kpn n)=some r :=
  fun hb=>A6 hK hv hp hb
 simp only [x4] at hb ⊢
 unfold wU at hb ⊢
 cases hg:o.guard with
 | none=>simp only [hg] at hb ⊢;exact L hb
 | some jw =>
  obtain⟨j,want⟩:=jw
  simp only [hg] at hb ⊢
  cases hd:(ops[j]?).bind (·.dst) with
  | none=>simp only [hd] at hb;cases hb
  | some d =>
   simp only [hd] at hb ⊢
   generalize ρ.getD d .junk=x at hb ⊢
   split at hb
   ·rename_i g
    cases want <;> cases g <;> simp only [cond_true,cond_false] at hb ⊢
    ·exact L hb
    ·exact hv _ _ _ hb
    ·exact hv _ _ _ hb
    ·exact L hb
   ·exact hv _ _ _ hb
   ·cases hb
theorem Jb {lp':Ut}{Kn:Nat→lN}{m:Nat}{it:Item}{kvn kpn:Nat→lC→lD→Option R}(hK:z_ cx.K Kn) (hv:∀v h r,kv v h=some r→Ev fun n=>kvn n v h=some r)
  (hp:∀v h r,kp v h=some r→Ev fun n=>kpn n v h=some r) (hb:nY cx ops m it ids ρ h kv kp=some r):Ev fun n=>nY { cx with K:=Kn n,lp:=lp' } ops m it ids ρ h (kvn n) (kpn n)=some r:=by
 unfold nY at hb ⊢
 cases hr:it.rsv with
 | some j =>
  simp only [hr] at hb ⊢
  cases hf:qU it.o with
  | false=>rw [hf] at hb;cases hb
  | true =>
   rw [hf] at hb
   exact CK (kpn:=fun _ _ _=>none) hK hv (fun _ _ _ h=>by cases h) hb
 | none =>
  simp only [hr] at hb ⊢
  cases hh:it.hid with
  | true =>
   simp only [hh,cond_true] at hb ⊢
   cases hf:uG it.o with
   | false=>rw [hf] at hb;cases hb
   | true =>
    rw [hf] at hb
    exact NA hK hv hb
  | false =>
   simp only [hh,cond_false] at hb ⊢
   exact KZ hK hv hp hb
theorem vB {lp':Ut}{m:Nat}{Kn:Nat→lN}{k:List lC→lD→Option R}{kn:Nat→List lC→lD→Option R}{kpn:Nat→lC→lD→Option R}(hK:z_ cx.K Kn)
  (hk:∀ρ h r,k ρ h=some r→Ev fun n=>kn n ρ h=some r) (hp:∀v h r,kp v h=some r→Ev fun n=>kpn n v h=some r):∀(items:List Item) (seen ρ:List lC) (h:lD) (r:R),
  oA cx ops m items seen ρ h k kp=some r→Ev fun n=>oA { cx with K:=Kn n,lp:=lp' } ops m items seen ρ h (kn n) (kpn n)=some r:=by
 intro items
 induction items with
 | nil=>intro seen ρ h r hb;exact hk _ _ _ hb
 | cons it rest ih =>
  intro seen ρ h r hb
  simp only [oA,uW] at hb ⊢
  exact Jb hK (fun v h' r hb=>ih _ _ _ _ hb) hp hb
theorem Hm {lp':Ut}{Kn:Nat→lN}{k:List lC→lD→Option R}{kn:Nat→List lC→lD→Option R}{kp:lC→lD→Option R}{kpn:Nat→lC→lD→Option R}{draw:Bool}(hK:z_ cx.K Kn)
  (hk:∀ρ h r,k ρ h=some r→Ev fun n=>kn n ρ h=some r) (hkp:∀v h r,kp v h=some r→Ev fun n=>kpn n v h=some r) (hb:tN cx ops draw ρ h k kp=some r):Ev fun n=>tN { cx with K:=Kn n,lp:=lp' } ops draw ρ h (kn n) (kpn n)=some r:=by
 unfold tN at hb ⊢
 cases draw with
 | false=>exact vB hK (fun ρ h r hb=>hk _ _ _ hb) (fun v h r hb=>hkp _ _ _ hb) _ _ _ _ _ hb
 | true =>
  simp only [] at hb ⊢
  cases hd:Ad ops with
  | none=>simp only [hd] at hb;cases hb
  | some items =>
   simp only [hd] at hb ⊢
   exact vB (cx:={ cx with rb:=false }) hK (fun ρ h r hb=>hk _ _ _ hb) (fun v h r hb=>hkp _ _ _ hb) _ _ _ _ _ hb
end
theorem Jy {v:lC}{t e:Option R}{tn en:Nat→Option R}{r:R}(ht:t=some r→Ev fun n=>tn n=some r) (he:e=some r→Ev fun n=>en n=some r) (hb:lS v t e=some r) :
  Ev fun n=>lS v (tn n) (en n)=some r:=by
 unfold lS at hb ⊢
 split at hb
 ·rename_i b;cases b
  ·exact he hb
  ·exact ht hb
 ·cases hb
theorem Az {e:Ex}{x:Option R}{f:Ex→Option R}{xn:Nat→Option R}{fn:Nat→Ex→Option R}{r:R}(hx:x=some r→Ev fun n=>xn n=some r) (hf:∀e,f e=some r→Ev fun n=>fn n e=some r)
  (hb:e.mO x f=some r):Ev fun n=>e.mO (xn n) (fn n)=some r:=by
 cases e with
 | normal=>exact hx hb
 | _=>exact hf _ hb
theorem aaI {e:Ex}{x:Option R}{xn:Nat→Option R}{r:R}(hx:x=some r→Ev fun n=>xn n=some r) (hb:e.qZ x=some r):Ev fun n=>e.qZ (xn n)=some r:=by
 cases e with
 | normal=>exact hx hb
 | _=>cases hb
theorem A_ {id:Nat}{e:Ex}{x:Option R}{f:Ex→Option R}{xn:Nat→Option R}{fn:Nat→Ex→Option R}{r:R}(hx:x=some r→Ev fun n=>xn n=some r) (hf:∀e,f e=some r→Ev fun n=>fn n e=some r)
  (hb:e.inBlock id x f=some r):Ev fun n=>e.inBlock id (xn n) (fn n)=some r:=by
 cases e with
 | normal=>exact hx hb
 | exit j =>
  simp only [Ex.inBlock] at hb ⊢
  cases hj:j == id with
  | true=>rw [hj] at hb;exact hx hb
  | false=>rw [hj] at hb;exact hf _ hb
 | _=>exact hf _ hb
theorem rM {cx:Cx}{Kn:Nat→lN}(hK:z_ cx.K Kn) (hlp:∀F s r,cx.lp F s=some r→mX F s=some r):∀(c:Code) (L:Nat) (ρ:List lC) (h:lD) (kn:List lC→lD→Option R) (ke:Ex→List lC→lD→Option R)
  (knn:Nat→List lC→lD→Option R) (ken:Nat→Ex→List lC→lD→Option R) (r:R),
  (∀ρ h r,kn ρ h=some r→Ev fun n=>knn n ρ h=some r)→(∀e ρ h r,ke e ρ h=some r→Ev fun n=>ken n e ρ h=some r)→evalCode cx c L ρ h kn ke=some r→Ev fun n=>evalCode { cx with K:=Kn n,lp:=mX } c L ρ h (knn n) (ken n)=some r:=by
 obtain⟨P,A,K,lp,nt,full,pan,vec,frz,vlit,vmk,jt,lkp,rb,frl,tb⟩:=cx
 dsimp only at hlp
 intro c
 induction c with
 | skip=>intro L ρ h kn ke knn ken r hk he hb;exact hk _ _ _ hb
 | region id ops draw=>intro L ρ h kn ke knn ken r hk he hb;exact Hm hK hk (kpn:=fun n=>apH pan (ken n) ρ) (fun v h r hb=>by cases pan <;> first | exact he _ _ _ _ hb | cases hb) hb
 | seq x y ihx ihy =>
  intro L ρ h kn ke knn ken r hk he hb
  simp only [evalCode] at hb ⊢
  exact ihx _ ρ h _ _ _ _ r (fun ρ h r hb=>ihy _ _ _ _ _ _ _ _ hk he hb) he hb
 | cond c x y ihx ihy =>
  intro L ρ h kn ke knn ken r hk he hb
  simp only [evalCode] at hb ⊢
  cases hf:tU x&&tU y with
  | true =>
   simp only [hf,cond_true] at hb ⊢
   obtain⟨r0,h1,h2⟩:=ab6.1 hb
   have e1:=Jy (ihx L ρ h _ _ (fun _=>CJ jt h.length L .normal) (fun _=>CJ jt h.length L) r0 (fun ρ h r hb=>Ev.of fun _=>hb) (fun e ρ h r hb=>Ev.of fun _=>hb)) (ihy L ρ h _ _ (fun _=>CJ jt h.length L .normal) (fun _=>CJ jt h.length L) r0 (fun ρ h r hb=>Ev.of fun _=>hb) (fun e ρ h r hb=>Ev.of fun _=>hb)) h1
   have e2:Ev fun n=>(bif pan || (leaves [] x || leaves [] y) then r0.1.mO (knn n (unpack nt L r0.2.1) r0.2.2) fun e=>ken n e (unpack nt L r0.2.1) r0.2.2 else r0.1.qZ (knn n (unpack nt L r0.2.1) r0.2.2))=some r:=by
    cases hl:pan || (leaves [] x || leaves [] y) with
    | true=>rw [hl] at h2;exact Az (hk _ _ _) (fun e=>he e _ _ _) h2
    | false=>rw [hl] at h2;exact aaI (hk _ _ _) h2
   refine(e1.and e2).imp fun n hn=>?_
   rw [ab6]
   exact⟨r0,hn.1,hn.2⟩
  | false =>
   simp only [hf,cond_false] at hb ⊢
   exact Jy (ihx L ρ h _ _ knn ken r hk he) (ihy L ρ h _ _ knn ken r hk he) hb
 | block id c ih =>
  intro L ρ h kn ke knn ken r hk he hb
  simp only [evalCode] at hb ⊢
  cases hf:decide (2≤yT id c+bif tU c then 1 else 0) with
  | true =>
   simp only [hf,cond_true] at hb ⊢
   obtain⟨r0,h1,h2⟩:=ab6.1 hb
   refine((ih L ρ h _ _ (fun _=>CJ jt h.length L .normal) (fun _=>CJ jt h.length L) r0 (fun ρ h r hb=>Ev.of fun _=>hb) (fun e ρ h r hb=>Ev.of fun _=>hb) h1).and (A_ (hk _ _ _) (fun e=>he e _ _ _) h2)).imp fun n hn=>?_
   rw [ab6]
   exact⟨r0,hn.1,hn.2⟩
  | false =>
   simp only [hf,cond_false] at hb ⊢
   exact ih L ρ h _ _ knn (fun n e ρ' h'=>e.inBlock id (knn n ρ' h') fun e=>ken n e ρ' h') r hk (fun e ρ' h' r hb=>A_ (hk _ _ _) (fun e=>he e _ _ _) hb) hb
 | loop c ih =>
  intro L ρ h kn ke knn ken r hk he hb
  simp only [evalCode] at hb ⊢
  obtain⟨r0,h1,h2⟩:=ab6.1 hb
  refine((ZN (fun s r hb=>ih _ _ _ _ _ (fun _=>A3 lkp h.length (L ||| ue full c) .normal) (fun _=>A3 lkp h.length (L ||| ue full c)) _ (fun ρ h r hb=>Ev.of fun _=>hb) (fun e ρ h r hb=>Ev.of fun _=>hb) hb) (hlp _ _ _ h1)).and
   (Az (x:=none) (xn:=fun _=>none) (fun h=>by cases h) (fun e=>he e _ _ _) h2)).imp fun n hn=>?_
  rw [ab6]
  exact⟨r0,hn.1,hn.2⟩
 | scope c ih=>intro L ρ h kn ke knn ken r hk he hb;exact ih L ρ h kn ke knn ken r hk he hb
 | label l=>intro L ρ h kn ke knn ken r hk he hb;exact hk _ _ _ hb
 | exit id=>intro L ρ h kn ke knn ken r hk he hb;exact he _ _ _ _ hb
 | ret=>intro L ρ h kn ke knn ken r hk he hb;exact he _ _ _ _ hb
 | _=>intro L ρ h kn ke knn ken r hk he hb;simp [evalCode] at hb
theorem NC {cx:Cx}{Kn:Nat→lN}(hK:z_ cx.K Kn) (hlp:∀F s r,cx.lp F s=some r→mX F s=some r) {g:Nat}{caps:List lC}{pv:Option lC}{h h':lD}(hb:tH cx g caps pv h=some h') :
  Ev fun n=>tH { cx with K:=Kn n,lp:=mX } g caps pv h=some h':=by
 unfold tH at hb ⊢
 cases hf:cx.P.funcs[g]? with
 | none=>rw [hf] at hb;cases hb
 | some fn =>
  simp only [hf] at hb ⊢
  split at hb
  ·rename_i id ops c hbody
   split at hb
   ·rename_i o os hops
    cases hc:(BT o&&decide (caps.length≤fn.ntmps)&&fn.results.isEmpty&&!(fn.name == "runtime.NumGoroutine")) with
    | false=>rw [hc] at hb;cases hb
    | true =>
     rw [hc] at hb
     simp only [cond_true] at hb ⊢
     obtain⟨r0,h1,h2⟩:=ab6.1 hb
     have e1:=vB (cx:={ cx with n:=fn.ntmps,full:=2^fn.ntmps-1,pan:=false }) (lp':=mX) (ops:=ops.toList) (kp:=fun _ _=>none) (kpn:=fun _ _ _=>none)
      (kn:=fun n ρ' h'=>evalCode { cx with K:=Kn n,lp:=mX,n:=fn.ntmps,full:=2^fn.ntmps-1,pan:=false } c 0 ρ' h' (Co 0) (Cn 0)) hK
      (fun ρ h r hb=>rM (cx:={ cx with n:=fn.ntmps,full:=2^fn.ntmps-1,pan:=false }) hK hlp c 0 ρ h _ _ (fun _=>Co 0) (fun _=>Cn 0) r (fun ρ h r hb=>Ev.of fun _=>hb) (fun e ρ h r hb=>Ev.of fun _=>hb) hb)
      (fun _ _ _ h=>by cases h) _ _ _ _ _ h1
     refine e1.imp fun n hn=>?_
     rw [ab6]
     exact⟨r0,hn,h2⟩
   ·cases hb
  ·cases hb
theorem K_ {cx:Cx}{Kn:Nat→lN}(hK:z_ cx.K Kn) (hlp:∀F s r,cx.lp F s=some r→mX F s=some r) {b:Code}{L:Nat}{fv:lC}{ρ:List lC}{h:lD}{r:R}(hb:xB cx b L fv ρ h=some r) :
  Ev fun n=>xB { cx with K:=Kn n,lp:=mX } b L fv ρ h=some r:=by
 unfold xB at hb ⊢
 cases hok:Bi L b with
 | false=>rw [hok] at hb;cases hb
 | true =>
  rw [hok] at hb
  simp only [cond_true] at hb ⊢
  obtain⟨g,hg,hb⟩:=ab6.1 hb
  simp only [hg,ai3]
  obtain⟨r0,h1,h2⟩:=ab6.1 hb
  have e1:=rM (cx:={ cx with pan:=true }) hK hlp b L ρ h _ _ (fun _=>Co L) (fun _=>Cn L) r0 (fun ρ h r hb=>Ev.of fun _=>hb) (fun e ρ h r hb=>Ev.of fun _=>hb) h1
  have e2:Ev fun n=>r0.1.Pl ((tH { cx with K:=Kn n,lp:=mX } g.1 (g.2.1++g.2.2) none r0.2.2).map fun h2=>((.ret,r0.2.1,h2):R)) (fun v=>(tH { cx with K:=Kn n,lp:=mX } g.1 (g.2.1++g.2.2) (some v) r0.2.2).map fun h2=>((.ret,pack L ρ,h2):R))=some r:=by
   have key:∀{pv:Option lC}{pk:List lC},((tH cx g.1 (g.2.1++g.2.2) pv r0.2.2).map fun h2=>((.ret,pk,h2):R))=some r→Ev fun n=>((tH { cx with K:=Kn n,lp:=mX } g.1 (g.2.1++g.2.2) pv r0.2.2).map fun h2=>((.ret,pk,h2):R))=some r:=by
    intro pv pk hx
    obtain⟨h3,e3,e4⟩:=af1.1 hx
    exact(NC hK hlp e3).imp fun n hn=>by rw [hn];exact congrArg some e4
   cases he:r0.1 with
   | normal=>rw [he] at h2;exact key h2
   | ret=>rw [he] at h2;exact key h2
   | exit id=>rw [he] at h2;cases h2
   | pan v=>rw [he] at h2;exact key h2
  refine(e1.and e2).imp fun n hn=>?_
  rw [ab6]
  exact⟨r0,hn.1,hn.2⟩
theorem NB {cx:Cx}{Kn:Nat→lN}(hK:z_ cx.K Kn) (hlp:∀F s r,cx.lp F s=some r→mX F s=some r):∀(c:Code) (L:Nat) (ρ:List lC) (h:lD) (r:R),qP cx c L ρ h=some r →
  Ev fun n=>qP { cx with K:=Kn n,lp:=mX } c L ρ h=some r:=by
 intro c
 induction c with
 | seq x y ihx ihy =>
  intro L ρ h r hb
  have piece:evalCode cx x (L ||| ue cx.full y) ρ h (fun ρ' h'=>qP cx y L ρ' h') (JS L)=some r →
    Ev fun n=>evalCode { cx with K:=Kn n,lp:=mX } x (L ||| ue cx.full y) ρ h (fun ρ' h'=>qP { cx with K:=Kn n,lp:=mX } y L ρ' h') (JS L)=some r:=fun hb =>
   rM hK hlp x _ ρ h _ _ (fun n ρ' h'=>qP { cx with K:=Kn n,lp:=mX } y L ρ' h') (fun _=>JS L) r (fun ρ h r hb=>ihy L ρ h r hb) (fun e ρ h r hb=>Ev.of fun _=>hb) hb
  cases x with
  | region id ops draw =>
   cases draw with
   | true=>simp only [qP] at hb ⊢;exact piece hb
   | false =>
    simp only [qP] at hb ⊢
    cases hl:zE ops.toList with
    | none=>simp only [hl] at hb ⊢;exact piece hb
    | some f =>
     simp only [hl] at hb ⊢
     exact vB (lp':=mX) (kpn:=fun _ _ _=>none) (kn:=fun n ρ' h'=>xB { cx with K:=Kn n,lp:=mX } y L (pP cx.A ρ' f) ρ' h') hK (fun ρ h r hb=>K_ hK hlp hb) (fun _ _ _ h=>by cases h) _ _ _ _ _ hb
  | _=>simp only [qP] at hb ⊢;exact piece hb
 | _=>intro L ρ h r hb;simp [qP] at hb
theorem KW {cx:Cx}{Kn:Nat→lN}(hK:z_ cx.K Kn) (hlp:∀F s r,cx.lp F s=some r→mX F s=some r) {d:Bool}{c:Code}{L:Nat}{ρ:List lC}{h:lD}{r:R}(hb:A5 cx d c L ρ h=some r) :
  Ev fun n=>A5 { cx with K:=Kn n,lp:=mX } d c L ρ h=some r:=by
 cases d with
 | true=>exact NB (cx:={ cx with pan:=false }) hK hlp c L ρ h r hb
 | false=>exact rM hK hlp c L ρ h _ _ (fun _=>Co L) (fun _=>Cn L) r (fun ρ h r hb=>Ev.of fun _=>hb) (fun e ρ h r hb=>Ev.of fun _=>hb) hb
theorem JA {A:wC}{K:lN}{Kn:Nat→lN}(hK:z_ K Kn):z_ (mH A K) fun n=>mH A (Kn n):=by
 intro f args h r hb
 unfold mH at hb ⊢
 cases hp:A.pure f with
 | false =>
  simp only [hp,cond_false] at hb ⊢
  cases hsb:A.sub f with
  | false=>simp only [hsb,cond_false] at hb ⊢;exact hK _ _ _ _ hb
  | true =>
   simp only [hsb,cond_true] at hb ⊢
   unfold akI Xu at hb ⊢
   cases ho:J8 (reach h args) args h with
   | false=>simp only [ho,cond_false] at hb;cases hb
   | true =>
    simp only [ho,cond_true] at hb ⊢
    obtain⟨r0,h1,h2⟩:=ab6.1 hb
    refine(hK _ _ _ _ h1).imp fun n hn=>?_
    rw [ab6]
    exact⟨r0,hn,h2⟩
 | true =>
  simp only [hp,cond_true] at hb ⊢
  cases hs:args.all (lC.rU 0) with
  | false=>simp only [hs,cond_false] at hb;cases hb
  | true =>
   simp only [hs,cond_true] at hb ⊢
   obtain⟨r0,h1,h2⟩:=ab6.1 hb
   refine(hK _ _ _ _ h1).imp fun n hn=>?_
   rw [ab6]
   exact⟨r0,hn,h2⟩
theorem Gb {P:Program}{A:wC}{lp:Ut}{K:lN}{Kn:Nat→lN}(hlp:∀F s r,lp F s=some r→mX F s=some r) (hK:z_ K Kn):z_ (qG P A lp K) fun n=>qG P A mX (Kn n):=by
 intro f args h r hb
 unfold qG at hb ⊢
 cases hpr:A.prm f with
 | some k =>
  simp only [hpr] at hb ⊢
  exact⟨0,fun n _=>hb⟩
 | none =>
 simp only [hpr] at hb ⊢
 cases hsf:A.srf f with
 | some g =>
  simp only [hsf] at hb
  exact⟨0,fun n _=>hb⟩
 | none =>
 simp only [hsf] at hb ⊢
 cases hf:P.funcs[f]? with
 | none=>simp only [hf] at hb;cases hb
 | some fn =>
  simp only [hf] at hb ⊢
  cases hc:fn.body with
  | none=>simp only [hc] at hb;cases hb
  | some c =>
   simp only [hc] at hb ⊢
   cases hg:decide (args.length≤fn.ntmps)&&!(fn.name == "runtime.NumGoroutine") with
   | false=>simp only [hg,cond_false] at hb;cases hb
   | true =>
    simp only [hg,cond_true] at hb ⊢
    simp only [KX] at hb ⊢
    obtain⟨r0,h1,h2⟩:=ab6.1 hb
    refine(KW (cx:={ P,A,K:=mH A K,lp,n:=fn.ntmps,full:=2^fn.ntmps-1,pan:=A.pan f,vec:=A.Rp f,frz:=A.frz f,vlit:=A.II f,vmk:=A.vmk f,jt:=A.jt f,lkp:=A.lkp f,rb:=A.rb f,frl:=A.frl f,tb:=A.tb f,ck:=A.ck f }) (JA hK) hlp h1).imp fun n hn=>?_
    rw [ab6]
    exact⟨r0,hn,h2⟩
open Classical in
def IQ (P:Program) (A:wC):lN:=fun f args h =>
 if hx:∃r,Ev fun n=>MQ P A mX n f args h=some r then some (Classical.choose hx) else none
theorem BQ {P:Program}{A:wC}{f:Nat}{args:List lC}{h:lD}{r:nB×lD}:IQ P A f args h=some r↔Ev fun n=>MQ P A mX n f args h=some r:=by
 unfold IQ
 constructor
 ·intro hb
  split at hb
  ·rename_i hx;cases hb;exact Classical.choose_spec hx
  ·cases hb
 ·intro hb
  have hx:∃r,Ev fun n=>MQ P A mX n f args h=some r:=⟨r,hb⟩
  rw [dif_pos hx]
  obtain⟨N,hN⟩:=(Classical.choose_spec hx).and hb
  obtain⟨e1,e2⟩:=hN N (ai1 _)
  rw [e1] at e2
  exact e2
theorem Vp {P:Program}{A:wC}{f:Nat}{args:List lC}{h:lD}{r:nB×lD}(hb:qG P A mX (IQ P A) f args h=some r):IQ P A f args h=some r:=by
 rw [BQ]
 obtain⟨N,hN⟩:=Gb (lp:=mX) (Kn:=fun n=>MQ P A mX n) (fun _ _ _ h=>h) (fun f args h r hb=>BQ.1 hb) f args h r hb
 refine⟨N+1,fun n hn=>?_⟩
 cases n with
 | zero=>omega
 | succ n=>exact hN n (by omega)
theorem Dq {P:Program}{A:wC}(m:Nat):∀(n f:Nat) (args:List lC) (h:lD) (r:nB×lD),MQ P A (qC m) n f args h=some r→IQ P A f args h=some r:=by
 have hlp:∀F s r,qC m F s=some r→mX F s=some r:=fun F s r h=>x5.2 ⟨m,h⟩
 have key:∀n,z_ (MQ P A (qC m) n) fun k=>MQ P A mX k:=by
  intro n
  induction n with
  | zero=>intro f args h r hb;cases hb
  | succ n ih =>
   intro f args h r hb
   obtain⟨N,hN⟩:=Gb hlp ih f args h r hb
   refine⟨N+1,fun k hk=>?_⟩
   cases k with
   | zero=>omega
   | succ k=>exact hN k (by omega)
 exact fun n f args h r hb=>BQ.2 (key n f args h r hb)
theorem Tn {P:Program}{A:wC}(hm:P.follows .mixedOrders=true) (hX:rJ P A):pW P A (IQ P A):=by
 intro f args h r h' hb
 obtain⟨N,hN⟩:=BQ.1 hb
 exact JE hm hX agN N f args h r h' (hN N (ai1 _))
end
section
open Go Go.RowKit Go.ChangeShapes
def gh (W:World):Gh:={ H:=fun b k=>W.cell? ⟨b,k,none⟩,mU:=fun _=>0,cur:=fun _=>.slice none 0 0 }
theorem agB (W:World):Inv (gh W) [] W:=⟨fun _ _ _ h=>h,fun id bl hb=>by simp at hb,fun a b c ha=>by simp [owner] at ha⟩
theorem Pf {P:Program}{A:wC}{f:Nat}{args:List lC}{X:Array Value}{W:World}(hm:P.follows .mixedOrders=true) (hX:rJ P A) (h:IQ P A f args []=some (.ret (.bool true),[]))
  (gl:oU A (gh W) [] W) (hx:vI (gh W) [] args X):Calls P f X W fun e W'=>e=.returned (.bool true)∧Below W.heap.size W W':=by
 refine((Tn hm hX f args [] _ _ h (gh W) W X (agB W) gl hx).2).mono fun e W' hpost=>?_
 obtain⟨G',x,_,V,rfl,hV⟩:=hpost
 refine⟨by rw [hV.uE],x.os,x.tape,x.output,x.size,fun k hk=>(x.frame k hk fun id=>by simp [owner]).1⟩
section
variable {H:Type}{enc:TypeId×Value→H}{P:Program}
theorem Cw (hl:laidOutB P=true) {W W':World}{sp':Nat→Bool}(hb:Below W.heap.size W W'):∀{ts:List TypeId}{vs:List Value}{ds:List (DataW H)}{ps:List MemPlace},
  (∀t∈ts,P.readableRec t=true∧t<P.types.size)→DataW.TrodAll enc P W 0 (fun _=>true) true ts vs ds ps→(∀p∈ps,p.block<W.heap.size)→(∀p∈ps,sp' p.block=true)→DataW.TrodAll enc P W' 0 sp' true ts vs ds ps
 | [],[],[],_,_,h,_,_=>h
 | _::_,_::_,_::_,_,ht,⟨p,q,h1,h2,e⟩,hlt,hs =>
  ⟨p,q,WideElems.Trod_stays hl (ht _ (by simp)).1 (ht _ (by simp)).2 h1 (fun x hx=>hb.same (hlt x (by rw [e];exact List.mem_append_left _ hx))) (fun x hx=>hs x (by rw [e];exact List.mem_append_left _ hx)),
   Cw hl hb (fun t h=>ht t (by simp [h])) h2 (fun x hx=>hlt x (by rw [e];exact List.mem_append_right _ hx)) (fun x hx=>hs x (by rw [e];exact List.mem_append_right _ hx)),e⟩
theorem TX {f:Func}{s:ChangeSpec}{apart fresh handsOn again:Bool}{W W':World}{args:Array Value}{tb:TypeId}{ds gs:List (DataW H)}{before:List MemPlace}
  (hl:laidOutB P=true) (ht:∀t∈f.params.toList,P.readableRec t=true∧t<P.types.size) (hr:f.resultTypes=#[tb]) (htb:P.underlying tb=some .bool) (hv:s.vars=[])
  (hW:DataW.Whole enc P f.params.toList s.vars apart W args.toList ds gs before) (hb:Below W.heap.size W W')
  (h1:(s.fn H (ds++gs)).results=[.lit (.bool true)]) (h2:(s.fn H (ds++gs)).args=ds) (h3:(s.fn H (ds++gs)).vars=[]):s.post enc P f apart fresh handsOn again W args (Value.bool true) W':=by
 have hlt:=hW.lt
 have hold:∀p∈before,(fun b=>decide (b<W.heap.size)) p.block=true:=fun p hp=>by simpa using hlt p hp
 have hW':=hW
 obtain⟨p,q,hA,hV,hps,hz,hn⟩:=hW
 rw [hv] at hV
 obtain⟨rfl,rfl⟩:=trodVars_none hV
 simp only [List.append_nil] at hps h1 h2 h3
 subst hps
 have hargs:∀sp:Nat→Bool,(∀x∈before,sp x.block=true)→DataW.TrodAll enc P W' 0 sp true f.params.toList args.toList (s.fn H ds).args before:=by
  intro sp hs;rw [h2];exact Cw hl hb ht hA hlt hs
 have hres:∀(b:Nat) (sp:Nat→Bool) (hd:Bool),DataW.TrodAll enc P W' b sp hd f.resultTypes.toList ((Value.bool true).resultList f.resultTypes.size) (s.fn H ds).results []:=by
  intro b sp hd;rw [h1,hr];exact trodAll_mk1 (shut_bool htb true)
 have hvars:∀sp:Nat→Bool,DataW.TrodVars enc P W' sp s.vars (s.fn H ds).vars []:=by
  intro sp;rw [h3,hv];rfl
 refine⟨ds,[],before,[],before,[],hW',by simpa using hres _ _ _,by simpa using hargs _ hold,by simpa using hvars _,World.keptBut_mono (fun p hp=>⟨hp,?_⟩) (hb.frame (·∈before)),fun _=>?_⟩
 ·exact Or.inr (by simpa using hp)
 ·refine⟨ok_one hr rfl (okWide_bool_mk htb true),_,_,([]++before)++[],⟨[]++before,[],trodAll_append (hargs _ (fun _ _=>rfl)) (hres _ _ _),hvars _,rfl,?_,?_⟩,?_⟩
  ·intro b off hp
   have hp':MemPlace.cell b off∈before:=by simpa using hp
   rw [hb.frozen (p:=⟨b,off,none⟩) (hlt _ hp')]
   exact hz b off hp'
  ·intro ha
   simpa using hn ha
  ·intro p hp _
   simpa using hp
end
def AL (H:Nat→Nat→Option Value) (cs:List lC) (vs:List Value):Prop:=cs.length=vs.length∧∀(i:Nat) (v:lC),cs[i]?=some v→v.mE=true∧oQ H v (vs.getD i undef)
theorem AL.append {H:Nat→Nat→Option Value}{a b:List lC}{x y:List Value}(h:AL H a x) (h':AL H b y):AL H (a++b) (x++y):=by
 refine⟨by simp [h.1,h'.1],fun i v hv=>?_⟩
 rw [ae9]
 by_cases hi:i<a.length
 ·rw [am3 hi] at hv
  rw [am3 (by rw [←h.1];exact hi)]
  have:=h.2 i v hv
  rwa [ae9] at this
 ·rw [af4 (by omega)] at hv
  rw [af4 (by rw [←h.1];omega),←h.1]
  have:=h'.2 _ v hv
  rwa [ae9] at this
theorem AL.nil (H:Nat→Nat→Option Value):AL H [] []:=⟨rfl,by simp⟩
theorem AL.one {H:Nat→Nat→Option Value}{v:lC}{V:Value}(hk:v.mE=true) (h:oQ H v V):AL H [v] [V] :=
 ⟨rfl,fun i u hu=>by cases i with
  | zero=>simp at hu;subst hu;exact⟨hk,h⟩
  | succ i=>simp at hu⟩
structure Rd (P:Program) (n:Nat) (t:TypeId) {α:Type}(encA:α→List lC) (wf:α→Prop):Prop where
 get:∀{H:Type}{enc:TypeId×Value→H}{w:World}{sp:Nat→Bool}{held:Bool}{fuel:Nat}{cs:List Value}{x:DataW H×List MemPlace},fuel≤n →
  DataW.trod enc P w 0 sp held fuel t cs=some x→∃a:α,wf a∧AL (gh w).H (encA a) cs
theorem Rd.int {P:Program}{n:Nat}{t:TypeId}{k:IntKind}(ht:P.underlying t=some (.int k)):Rd P n t (fun z:Int=>[.int k z]) (fun z=>(Lit.int k z).wf=true):=by
 refine⟨?_⟩
 intro H enc w sp held fuel cs x _ h
 obtain⟨z,hx,_,hw⟩:=DataW.trod_int ht h
 exact⟨z,hw,by rw [hx];exact .one rfl (.int _ _)⟩
theorem Rd.bool {P:Program}{n:Nat}{t:TypeId}(ht:P.underlying t=some .bool):Rd P n t (fun z:Bool=>[.bool z]) (fun _=>True):=by
 refine⟨?_⟩
 intro H enc w sp held fuel cs x _ h
 cases fuel with
 | zero=>simp [DataW.trod] at h
 | succ m =>
  unfold DataW.trod at h
  rw [ht] at h
  split at h <;> try (simp at *;done)
  rename_i b _
  exact⟨b,trivial,.one rfl (.bool _)⟩
theorem Rd.str {P:Program}{n:Nat}{t:TypeId}(ht:P.underlying t=some .string):Rd P n t (fun z:List UInt8=>[.str z]) (fun z=>z.length≤maxLen):=by
 refine⟨?_⟩
 intro H enc w sp held fuel cs x _ h
 obtain⟨s,hx,_,hs⟩:=DataW.trod_string ht h
 refine⟨s.data.toList,by simpa using hs,?_⟩
 have:(⟨s.data.toList.toArray⟩:ByteArray)=s:=by cases s;simp
 rw [hx]
 have r:=oQ.str (H:=(gh w).H) s.data.toList
 rw [this] at r
 exact .one rfl r
theorem HK {α β:Type}{f:α→Option β}:∀{l:List α}{ys:List β},l.mapM f=some ys→ys.length=l.length∧∀(i:Nat) (x:α),l[i]?=some x→∃y,ys[i]?=some y∧f x=some y
 | [],ys,h=>by simp at h;subst h;simp
 | a::l,ys,h=>by
  simp only [List.mapM_cons,Option.bind_eq_bind,ab6] at h
  obtain⟨y,hy,zs,hzs,h⟩:=h
  simp only [Option.pure_def,ad0] at h;subst h
  obtain⟨h1,h2⟩:=HK hzs
  refine⟨by simp [h1],fun i x hx=>?_⟩
  cases i with
  | zero=>simp at hx;subst hx;exact⟨y,rfl,hy⟩
  | succ i=>simpa using h2 i x (by simpa using hx)
theorem Fu {α:Type}{p:Nat→α→Prop}:∀(n:Nat),(∀i,i<n→∃a,p i a)→∃l:List α,l.length=n∧∀(i:Nat) (a:α),l[i]?=some a→p i a
 | 0,_=>⟨[],rfl,by simp⟩
 | n+1,h=>by
  obtain⟨l,h1,h2⟩:=Fu n fun i hi=>h i (by omega)
  obtain⟨a,ha⟩:=h n (by omega)
  refine⟨l++[a],by simp [h1],fun i b hb=>?_⟩
  by_cases hi:i<l.length
  ·rw [am3 hi] at hb;exact h2 i b hb
  ·rw [af4 (by omega)] at hb
   have:i-l.length=0:=by
    by_cases h0:i-l.length=0
    ·exact h0
    ·rw [List.getElem?_eq_none (by simp;omega)] at hb;cases hb
   rw [this] at hb
   simp at hb;subst hb
   have:i=n:=by omega
   subst this;exact ha
theorem Ha {w:World}{base:Nat}{a:Addr}{n:Nat}{cs:List Value}(h:w.cells? base a n=some cs):cs.length=n∧∀i,i<n→w.cell? (a.add i)=cs[i]?:=by
 unfold World.cells? at h
 split at h
 ·obtain⟨h1,h2⟩:=HK h
  refine⟨by simpa using h1,fun i hi=>?_⟩
  obtain⟨y,e1,e2⟩:=h2 i i (by simp [hi])
  rw [e2,e1]
 ·cases h
theorem Ua {w:World}{a:Addr}{v:Value}(h:w.cell? a=some v):a=⟨a.block,a.off,none⟩:=by
 unfold World.cell? at h
 split at h
 ·split at h
  ·cases h
  ·rename_i hs
   obtain⟨b,o,s⟩:=a
   cases s with
   | none=>rfl
   | some _=>simp at hs
 ·cases h
theorem add_add (a:Addr) (i j:Nat) (h:a=⟨a.block,a.off,none⟩):(a.add i).add j=⟨a.block,a.off+(i+j),none⟩:=by
 rw [h,add_plain,add_plain]
 simp [Nat.add_assoc]
theorem Rd.slice {P:Program}{n:Nat}{t e:TypeId}{α:Type}{encA:α→List lC}{wf:α→Prop}{sz:Nat}(ht:P.underlying t=some (.slice e)) (he:P.cellsOf e=sz+1) (hsz:∀a,(encA a).length=sz+1) (r:Rd P n e encA wf) :
  Rd P (n+1) t (fun z:List α=>[.slice (z.map encA) .no]) (fun z=>z.length≤maxLen∧∀a∈z,wf a):=by
 refine⟨?_⟩
 intro H enc w sp held fuel cs x hf h
 cases fuel with
 | zero=>simp [DataW.trod] at h
 | succ m =>
  unfold DataW.trod at h
  rw [ht] at h
  split at h <;> try (simp at *;done)
  ·refine⟨[],by simp,.one rfl (.slice0 none 0)⟩
  ·rename_i e' a len cap hu
   cases hu
   split at h
   ·rename_i hcond
    obtain⟨_,hlen,hcap⟩:=hcond
    obtain⟨elems,hel,_⟩:=ab6.1 h
    obtain⟨h1,h2⟩:=HK hel
    by_cases h0:len=0
    ·subst h0
     exact⟨[],by simp,.one rfl (.slice0 (some a) cap)⟩
    ·-- an element's cells
     have hcell:∀i,i<len→∃cs,w.cells? 0 (a.add (i*(sz+1))) (sz+1)=some cs∧∃z:α,wf z∧AL (gh w).H (encA z) cs:=by
      intro i hi
      obtain⟨y,e1,e2⟩:=h2 i i (by simp [hi])
      obtain⟨cs,e3,e4⟩:=ab6.1 e2
      rw [he] at e3
      exact⟨cs,e3,r.get (by omega) e4⟩
     have ha:a=⟨a.block,a.off,none⟩:=by
      obtain⟨cs,e1,_⟩:=hcell 0 (by omega)
      obtain⟨l1,l2⟩:=Ha e1
      have:=l2 0 (by omega)
      rw [ac6 (by omega)] at this
      have:=Ua this
      simpa [Addr.add] using this
     obtain⟨l,hl,hp⟩:=Fu (p:=fun i (z:α)=>∃cs,w.cells? 0 (a.add (i*(sz+1))) (sz+1)=some cs∧wf z∧AL (gh w).H (encA z) cs) len fun i hi=>by
      obtain⟨cs,e1,z,e2,e3⟩:=hcell i hi
      exact⟨z,cs,e1,e2,e3⟩
     have key:∀(i j:Nat) (row:List lC) (v:lC),(l.map encA)[i]?=some row→row[j]?=some v →
       (gh w).H a.block (a.off+(i*(sz+1)+j))=some ((w.cell? ⟨a.block,a.off+(i*(sz+1)+j),none⟩).getD undef)∧v.mE=true∧oQ (gh w).H v ((w.cell? ⟨a.block,a.off+(i*(sz+1)+j),none⟩).getD undef):=by
      intro i j row v hi hj
      simp only [af7,af1] at hi
      obtain⟨z,hz,rfl⟩:=hi
      obtain⟨cs,e1,_,e3⟩:=hp i z hz
      obtain⟨l1,l2⟩:=Ha e1
      have hjlt:j<sz+1:=by rw [←hsz z];exact(ac1.1 hj).1
      have e4:=l2 j hjlt
      rw [add_add _ _ _ ha] at e4
      obtain⟨e5,e6⟩:=e3.2 j v hj
      have:cs[j]?=some (cs.getD j undef):=by rw [ae9,ac6 (by omega)];rfl
      rw [this] at e4
      refine⟨by show w.cell? _=_;rw [e4];rfl,e5,by rw [e4];exact e6⟩
     have hrows:∀row∈l.map encA,row.length=sz+1:=by
      intro row hr
      obtain⟨z,_,rfl⟩:=List.mem_map.1 hr
      exact hsz z
     refine⟨l,⟨by omega,fun z hz=>?_⟩,.one rfl ?_⟩
     ·obtain⟨i,hi⟩:=List.getElem?_of_mem hz
      obtain⟨_,_,e2,_⟩:=hp i z hi
      exact e2
     ·have:=oQ.slice (H:=(gh w).H) (l.map encA) a.block a.off cap (sz+1) (fun k=>(w.cell? ⟨a.block,a.off+k,none⟩).getD undef) hrows (by simp;omega)
       (fun i j row v hi hj=>(key i j row v hi hj).1) (fun i j row v hi hj=>(key i j row v hi hj).2.1) (fun i j row v hi hj=>(key i j row v hi hj).2.2)
      rw [←ha] at this
      simpa [hl] using this
   ·cases h
structure SR (P:Program) (n:Nat) (fs:List Field) (off total:Nat) {α:Type}(encA:α→List lC) (wf:α→Prop):Prop where
 get:∀{H:Type}{enc:TypeId×Value→H}{w:World}{sp:Nat→Bool}{held:Bool}{fuel:Nat}{cs:List Value}{xs:List (DataW H×List MemPlace)},fuel≤n→cs.length=total →
  (fs.mapM fun f=>DataW.trod enc P w 0 sp held fuel f.type ((cs.drop f.offset).take (P.cellsOf f.type)))=some xs→∃a:α,wf a∧AL (gh w).H (encA a) (cs.drop off)
theorem SR.nil {P:Program}{n total:Nat}:SR P n [] total total (fun _:Unit=>[]) (fun _=>True):=by
 refine⟨?_⟩
 intro H enc w sp held fuel cs xs _ hl h
 refine⟨(),trivial,?_⟩
 rw [List.drop_eq_nil_of_le (by omega)]
 exact .nil _
theorem SR.cons {P:Program}{n off total sz:Nat}{f:Field}{fs:List Field}{α β:Type}{encA:α→List lC}{wfA:α→Prop}{encB:β→List lC}{wfB:β→Prop}
  (ho:f.offset=off) (hs:P.cellsOf f.type=sz) (r:Rd P n f.type encA wfA) (rs:SR P n fs (off+sz) total encB wfB):SR P n (f::fs) off total (fun z:α×β=>encA z.1++encB z.2) (fun z=>wfA z.1∧wfB z.2):=by
 refine⟨?_⟩
 intro H enc w sp held fuel cs xs hf hl h
 simp only [List.mapM_cons,Option.bind_eq_bind,ab6] at h
 obtain⟨x,h1,ys,h2,_⟩:=h
 obtain⟨a,wa,ra⟩:=r.get hf h1
 obtain⟨b,wb,rb⟩:=rs.get hf hl h2
 refine⟨(a,b),⟨wa,wb⟩,?_⟩
 rw [ho,hs] at ra
 have:cs.drop off=(cs.drop off).take sz++cs.drop (off+sz):=by rw [←List.drop_drop,List.take_append_drop]
 rw [this]
 exact ra.append rb
theorem Rd.struct {P:Program}{n:Nat}{t:TypeId}{fs:Array Field}{α:Type}{encA:α→List lC}{wf:α→Prop}{total:Nat}(ht:P.underlying t=some (.struct fs)) (hc:P.cellsOf t=total)
  (r:SR P n fs.toList 0 total encA wf):Rd P (n+1) t encA wf:=by
 refine⟨?_⟩
 intro H enc w sp held fuel cs x hf h
 cases fuel with
 | zero=>simp [DataW.trod] at h
 | succ m =>
  unfold DataW.trod at h
  rw [ht] at h
  split at h <;> try (simp at *;done)
  rename_i fs' cs' hu
  cases hu
  split at h
  ·rename_i hlen
   simp only [af1] at h
   obtain⟨xs,h1,_⟩:=h
   obtain⟨a,wa,ra⟩:=r.get (by omega) (by rw [hlen,hc]) h1
   exact⟨a,wa,by simpa using ra⟩
  ·cases h
theorem Rd.to {P:Program}{n:Nat}{t:TypeId}{α β:Type}{encA:α→List lC}{wfA:α→Prop}{encB:β→List lC}{wfB:β→Prop}(r:Rd P n t encA wfA) (g:α→β) (he:∀a,encB (g a)=encA a) (hw:∀a,wfA a→wfB (g a)):Rd P n t encB wfB:=by
 refine⟨?_⟩
 intro H enc w sp held fuel cs x hf h
 obtain⟨a,wa,ra⟩:=r.get hf h
 exact⟨g a,hw a wa,by rw [he];exact ra⟩
theorem Rd.mono {P:Program}{n m:Nat}{t:TypeId}{α:Type}{encA:α→List lC}{wfA:α→Prop}(hnm:m≤n) (r:Rd P n t encA wfA):Rd P m t encA wfA:=by
 refine⟨?_⟩
 intro H enc w sp held fuel cs x hf h
 exact r.get (by omega) h
theorem Rd.as8 {P:Program}{t:TypeId}{α:Type}{encA:α→List lC}{wf:α→Prop}(r:∀n,Rd P n t encA wf) {H:Type}{enc:TypeId×Value→H}{w:World}{sp:Nat→Bool}{held:Bool}{v:Value}{d:DataW H}{ps:List MemPlace}
  (hv:∃C,v=.agg C) (h:DataW.Trod enc P w 0 sp held t v d ps):∃a,wf a∧lT (gh w) [] (.agg (encA a)) v:=by
 obtain⟨fuel,hf⟩:=h
 obtain⟨a,wa,ra⟩:=(r fuel).get (ai1 _) hf
 obtain⟨C,rfl⟩:=hv
 refine⟨a,wa,.p _ _ (.agg _ _ (by simpa [Value.cells] using ra.1) fun i v hv=>?_)⟩
 have:=(ra.2 i v hv).2
 rw [ae9] at this
 rw [af2]
 simpa [Value.cells] using this
end
section
open Go
attribute [simp] ai3 Option.bind_none
theorem Fi {d:Nat}:pE none d=some d:=(rfl)
@[congr] theorem alV {α β:Type}{x x':Option α}{f:α→Option β}(h:x=x'):x.bind f=x'.bind f:=by rw [h]
@[congr] theorem YT {x x':Option (nB×lD)}{f g:lC→lD→Option R}(h:x=x'):lY x f g=lY x' f g:=by rw [h]
@[congr] theorem acR {x x':Option (lC×lD)}{f:lC→lD→Option R}(h:x=x'):lQ x f=lQ x' f:=by rw [h]
@[congr] theorem aeY {x x':lC}{t e:Option R}(h:x=x'):lS x t e=lS x' t e:=by rw [h]
@[congr] theorem Yb {w:Bool}{x x':lC}{t e:Option R}(h:x=x'):lJ w x t e=lJ w x' t e:=by rw [h]
@[congr] theorem ad9 {x x':Ex}{t:Option R}{e:Ex→Option R}(h:x=x'):Ex.mO x t e=Ex.mO x' t e:=by rw [h]
@[congr] theorem Zv {i:Nat}{x x':Ex}{t:Option R}{e:Ex→Option R}(h:x=x'):Ex.inBlock i x t e=Ex.inBlock i x' t e:=by rw [h]
@[congr] theorem apB {x x':Ex}{t:Option R}(h:x=x'):Ex.qZ x t=Ex.qZ x' t:=by rw [h]
@[congr] theorem al3 {x x':Ex}{t:Option (nB×lD)}{tp:lC→Option (nB×lD)}(h:x=x'):Ex.Pm x t tp=Ex.Pm x' t tp:=by rw [h]
@[congr] theorem al1 {x x':Ex}{t:Option (nB×lD)}(h:x=x'):Ex.nR x t=Ex.nR x' t:=by rw [h]
@[congr] theorem alZ {α:Type}{x x':Bool}{t e:α}(h:x=x'):cond x t e=cond x' t e:=by rw [h]
@[congr] theorem al6 {f g:lC→lD→Option R}{x x':R}(h:x=x'):l9 f g x=l9 f g x':=by rw [h]
section
variable {k k':IntKind}{a b:Int}{x y:Bool}{s t:List UInt8}{v w:lC}{h:lD}{m:Nat}
@[simp] theorem anL:lZ .add (.int k a) (.int k b)=some (.int k (k.wrap (a+b))):=by simp [lZ]
@[simp] theorem U0:lZ .sub (.int k a) (.int k b)=some (.int k (k.wrap (a-b))):=by simp [lZ]
@[simp] theorem UY:lZ .mul (.int k a) (.int k b)=some (.int k (k.wrap (a*b))):=by simp [lZ]
@[simp] theorem UX:lZ .eql (.int k a) (.int k b)=some (.bool (decide (a=b))):=by simp [lZ];rfl
@[simp] theorem UZ:lZ .neq (.int k a) (.int k b)=some (.bool (!decide (a=b))):=by simp [lZ,bne];rfl
@[simp] theorem GM:lZ .lss (.int k a) (.int k b)=some (.bool (decide (a<b))):=by simp [lZ]
@[simp] theorem anO:lZ .leq (.int k a) (.int k b)=some (.bool (decide (a≤b))):=by simp [lZ]
@[simp] theorem anN:lZ .gtr (.int k a) (.int k b)=some (.bool (decide (b<a))):=by simp [lZ]
@[simp] theorem anM:lZ .geq (.int k a) (.int k b)=some (.bool (decide (b≤a))):=by simp [lZ]
@[simp] theorem alK:lZ .add (.str s) (.str t)=if s.length+t.length≤4611686018427387904 then some (.str (s++t)) else none:=(rfl)
@[simp] theorem alL:lZ .eql (.str s) (.str t)=some (.bool (decide (s=t))):=by
 have:(s == t)=decide (s=t):=by by_cases h:s=t <;> simp [h]
 simp [lZ,this]
@[simp] theorem alM:lZ .neq (.str s) (.str t)=some (.bool (!decide (s=t))):=by
 have:(s == t)=decide (s=t):=by by_cases h:s=t <;> simp [h]
 simp [lZ,this]
@[simp] theorem alI:M7 .eql (.bool x) (.bool y)=some (.bool (decide (x=y))):=by cases x <;> cases y <;> rfl
@[simp] theorem alJ:M7 .neq (.bool x) (.bool y)=some (.bool (!decide (x=y))):=by cases x <;> cases y <;> rfl
@[simp] theorem arG:xX .not (.bool x)=some (.bool (!x)):=(rfl)
@[simp] theorem YO:xX .neg (.int k a)=some (.int k (k.wrap (0-a))):=(rfl)
@[simp] theorem Yz:AW k (.int k' a)=some (.int k (k.wrap a)):=(rfl)
@[simp] theorem ae4:mJ (.bool x) v w=some (bif x then v else w):=(rfl)
@[simp] theorem alQ:Ck (.int k a) (.int k' b)=some (.int k (min a b)):=by
 simp only [Ck,ad0,lC.int.injEq,true_and]
 by_cases h:b<a <;> simp [h] <;> omega
@[simp] theorem alP:Dj (.int k a) (.int k' b)=some (.int k (max a b)):=by
 simp only [Dj,ad0,lC.int.injEq,true_and]
 by_cases h:b > a <;> simp [h] <;> omega
@[simp] theorem YC {rows:List (List lC)}{t:Tok}:mP (.slice rows t)=some (.int .i64 rows.length):=(rfl)
@[simp] theorem acI:F9 (.str s)=some (.int .i64 s.length):=(rfl)
@[simp] theorem lM {t e:Option R}:lS (.bool x) t e=bif x then t else e:=(rfl)
@[simp] theorem lF {run skip:Option R}:lJ true (.bool x) run skip=bif x then run else skip:=(rfl)
@[simp] theorem lE {run skip:Option R}:lJ false (.bool x) run skip=bif x then skip else run:=(rfl)
@[simp] theorem VC {g:Bool}{run skip:Option R}:lJ g (.tuple []) run skip=skip:=(rfl)
@[simp] theorem ac2 {kv kp:lC→lD→Option R}:l9 kv kp (.normal,[v],h)=kv v h:=(rfl)
@[simp] theorem au3:lV v h=some (.normal,[v],h):=(rfl)
@[simp] theorem acQ {kv kp:lC→lD→Option R}:lY (some (.ret v,h)) kv kp=kv v h:=(rfl)
@[simp] theorem acS {kv:lC→lD→Option R}:lQ (some (v,h)) kv=kv v h:=(rfl)
@[simp] theorem tB {kn:Option R}{ke:Ex→Option R}:Ex.mO .normal kn ke=kn:=(rfl)
@[simp] theorem akW {kn:Option R}{ke:Ex→Option R}:Ex.mO .ret kn ke=ke .ret:=(rfl)
@[simp] theorem OL {i:Nat}{kn:Option R}{ke:Ex→Option R}:Ex.mO (.exit i) kn ke=ke (.exit i):=(rfl)
@[simp] theorem ai0 {kn:Option R}:Ex.qZ .normal kn=kn:=(rfl)
@[simp] theorem VG {i:Nat}{kn:Option R}{ke:Ex→Option R}:Ex.inBlock i .normal kn ke=kn:=(rfl)
@[simp] theorem ac8 {i:Nat}{kn:Option R}{ke:Ex→Option R}:Ex.inBlock i .ret kn ke=ke .ret:=(rfl)
@[simp] theorem Lc {i j:Nat}{kn:Option R}{ke:Ex→Option R}:Ex.inBlock i (.exit j) kn ke=bif j == i then kn else ke (.exit j):=(rfl)
@[simp] theorem acY {x:Option (nB×lD)}:Ex.nR .normal x=x:=(rfl)
@[simp] theorem acP {v:lC}{h:lD}{kv kp:lC→lD→Option R}:lY (some (.pan v,h)) kv kp=kp v h:=(rfl)
@[simp] theorem aoU {v:lC}{l:List lC}{h:lD}{kv kp:lC→lD→Option R}:l9 kv kp (.pan v,l,h)=kp v h:=by cases l <;> rfl
@[simp] theorem arY {v:lC}{h:lD}:FA v h=some (.pan v,[],h):=(rfl)
@[simp] theorem akV {v:lC}{kn:Option R}{ke:Ex→Option R}:Ex.mO (.pan v) kn ke=ke (.pan v):=(rfl)
@[simp] theorem ac7 {id:Nat}{v:lC}{kn:Option R}{ke:Ex→Option R}:Ex.inBlock id (.pan v) kn ke=ke (.pan v):=(rfl)
@[simp] theorem ar7 {v:lC}{kn:Option R}:Ex.qZ (.pan v) kn=none:=(rfl)
@[simp] theorem ac0 {x:Option (nB×lD)}{xp:lC→Option (nB×lD)}:Ex.Pm .normal x xp=x:=(rfl)
@[simp] theorem aoP {x:Option (nB×lD)}{xp:lC→Option (nB×lD)}:Ex.Pm .ret x xp=x:=(rfl)
@[simp] theorem aoO {v:lC}{x:Option (nB×lD)}{xp:lC→Option (nB×lD)}:Ex.Pm (.pan v) x xp=xp v:=(rfl)
@[simp] theorem acX {x:Option R}{xp:lC→Option R}:Ex.Pl .normal x xp=x:=(rfl)
@[simp] theorem aoM {x:Option R}{xp:lC→Option R}:Ex.Pl .ret x xp=x:=(rfl)
@[simp] theorem aoL {v:lC}{x:Option R}{xp:lC→Option R}:Ex.Pl (.pan v) x xp=xp v:=(rfl)
@[simp] theorem acZ {x:Option lD}:Ex.Vo .normal x=x:=(rfl)
@[simp] theorem aoN {x:Option lD}:Ex.Vo .ret x=x:=(rfl)
@[simp] theorem adX {x:Option R}:Ex.Sf .ret x=x:=(rfl)
@[simp] theorem Uv {t:Nat}{z:lC}:xV t z .niliface=some (.tuple [z,.bool false]):=(rfl)
@[simp] theorem RO {t t':Nat}{z w:lC}:xV t z (.iface t' w)=some (bif t' == t then .tuple [w,.bool true] else .tuple [z,.bool false]):=(rfl)
@[congr] theorem al0 {x x':Ex}{t:Option R}{tp:lC→Option R}(h:x=x'):Ex.Pl x t tp=Ex.Pl x' t tp:=by rw [h]
@[congr] theorem al2 {x x':Ex}{t:Option lD}(h:x=x'):Ex.Vo x t=Ex.Vo x' t:=by rw [h]
@[congr] theorem ao8 {α β:Type}{x x':Option α}{f:α→β}(h:x=x'):x.map f=x'.map f:=by rw [h]
@[simp] theorem Vn {x:Option (nB×lD)}:Ex.nR .ret x=x:=(rfl)
@[simp] theorem asG:lC.pV m h (.int k a)=.int k a:=(rfl)
@[simp] theorem aqO:lC.pV m h (.bool x)=.bool x:=(rfl)
@[simp] theorem asK:lC.pV m h (.str s)=.str s:=(rfl)
@[simp] theorem am1 {rows:List (List lC)}:lC.pV m h (.slice rows .no)=.slice rows .no:=(rfl)
@[simp] theorem asI:lC.pV m h (.slice [] .nil)=.slice [] .nil:=(rfl)
@[simp] theorem am2:lC.pV m h (.tuple [])=.tuple []:=(rfl)
@[simp] theorem aqP:lC.pV m h .junk=.junk:=(rfl)
@[simp] theorem asJ {rows:List (List lC)}{id:Nat}:lC.pV m h (.slice rows (.own id))=bif decide (id<m) then .slice rows (.own id) else .slice rows .no:=(rfl)
@[simp] theorem asF {cs:List lC}:lC.pV m h (.agg cs)=.agg (cs.map (·.nO m h)):=(rfl)
@[simp] theorem aqJ:lC.nO m h (.int k a)=.int k a:=(rfl)
@[simp] theorem amW:lC.nO m h (.bool x)=.bool x:=(rfl)
@[simp] theorem aqM:lC.nO m h (.str s)=.str s:=(rfl)
@[simp] theorem akC {rows:List (List lC)}:lC.nO m h (.slice rows .no)=.slice rows .no:=(rfl)
@[simp] theorem aqL:lC.nO m h (.slice [] .nil)=.slice [] .nil:=(rfl)
@[simp] theorem Xm {rows:List (List lC)}{id:Nat}:lC.nO m h (.slice rows (.own id))=bif decide (id<m) then .slice rows (.own id) else .slice rows .no:=(rfl)
@[simp] theorem akE {v w:lC}:lC.pV m h (.tuple [v,w])=.tuple [(match v with | .agg cs=>.agg (cs.map (·.nO m h)) | v=>v.nO m h),(match w with | .agg cs=>.agg (cs.map (·.nO m h)) | v=>v.nO m h)]:=(rfl)
@[simp] theorem am9:lC.lL (.int k a)=.int k a:=(rfl)
@[simp] theorem ak4:lC.lL (.bool x)=.bool x:=(rfl)
@[simp] theorem anC:lC.lL (.str s)=.str s:=(rfl)
@[simp] theorem aeD {rows:List (List lC)}{t:Tok}:lC.lL (.slice rows t)=.slice rows .no:=(rfl)
@[simp] theorem aeE:lC.lL (.tuple [])=.tuple []:=(rfl)
@[simp] theorem am8 {cs:List lC}:lC.lL (.agg cs)=.agg (cs.map lC.oX):=(rfl)
@[simp] theorem ak2:lC.oX (.int k a)=.int k a:=(rfl)
@[simp] theorem aeC:lC.oX (.bool x)=.bool x:=(rfl)
@[simp] theorem ak3:lC.oX (.str s)=.str s:=(rfl)
@[simp] theorem abX {rows:List (List lC)}{t:Tok}:lC.oX (.slice rows t)=.slice rows .no:=(rfl)
@[simp] theorem abY {v w:lC}:lC.lL (.tuple [v,w])=.tuple [(match v with | .agg cs=>.agg (cs.map lC.oX) | v=>v.oX),(match w with | .agg cs=>.agg (cs.map lC.oX) | v=>v.oX)]:=(rfl)
@[simp] theorem am6:oD m []=some []:=by simp [oD,oG]
theorem Rj {bs:lD}:oD 0 bs=some []:=by simp [oD,oG]
@[simp] theorem akY {bs:lD}:oD 0 bs=some []:=Rj
@[simp] theorem Zr {m:Nat}{h:lD}:Ex.pV m h .normal=.normal:=(rfl)
@[simp] theorem al5 {m:Nat}{h:lD}:Ex.pV m h .ret=.ret:=(rfl)
@[simp] theorem afZ {m:Nat}{h:lD}{id:Nat}:Ex.pV m h (.exit id)=.exit id:=(rfl)
@[simp] theorem al4 {m:Nat}{h:lD}{v:lC}:Ex.pV m h (.pan v)=.pan (v.pV m h):=(rfl)
theorem EB {e:Ex}{vs:List lC}:lX 0 e vs h=some (e.pV 0 h,vs.map (·.pV 0 h),[]):=by simp [lX]
theorem mS:nJ 0 v h=some (.ret (v.pV 0 h).lL,[]):=by simp [nJ]
def sD (h:lD) (id:Nat):Bool:=match h[id]? with
 | some (.front 0 0)=>true
 | _=>false
@[simp] theorem Zz {r:lD}:sD (.front 0 0::r) 0=true:=(rfl)
@[simp] theorem Yc {cs:List lC}{r:lD}:sD (.cells cs::r) 0=false:=(rfl)
@[simp] theorem Yd {n sz:Nat}{r:lD}:sD (.front (n+1) sz::r) 0=false:=(rfl)
@[simp] theorem Zy {b:mC}{r:lD}{n:Nat}:sD (b::r) (n+1)=sD r n:=(rfl)
@[simp] theorem ac4 {cs:List lC}{r:lD}:nW (.cells cs::r) 0=some cs:=(rfl)
@[simp] theorem ac3 {b:mC}{r:lD}{n:Nat}:nW (b::r) (n+1)=nW r n:=(rfl)
@[simp] theorem qL {n id off:Nat}:lP false n h (.ptr id off)=(nW h id).bind fun cs=>cs[off]?:=by
 simp only [lP,apart,cond_false];cases nW h id <;> rfl
@[simp] theorem ae1 {n id off:Nat}:lP true n h (.ptr id off)=(nW h id).bind fun cs=>if off+n≤cs.length then some (.agg ((cs.drop off).take n)) else none:=by
 simp only [lP,apart,cond_true];cases nW h id <;> rfl
@[simp] theorem sJ {n id off:Nat}:lW n h (.ptr id off) v=(nW h id).bind fun cs=>if v.cells.length=n∧off+n≤cs.length∧v.cells.all lC.mE then some (h.set id (.cells (putCells cs off (pM h (cs.drop off) v.cells)))) else none:=by
 simp only [lW];cases nW h id <;> rfl
@[simp] theorem adD {vs:List lC}:pM h [] vs=vs:=(rfl)
@[simp] theorem Dy {os:List lC}:pM h os []=[]:=by cases os <;> rfl
@[simp] theorem Aj {o:lC}{os vs:List lC}:pM h (o::os) (v::vs)=sX h o v::pM h os vs:=(rfl)
@[simp] theorem amA {o:lC}:sX h o (.int k a)=.int k a:=(rfl)
@[simp] theorem agH {o:lC}:sX h o (.bool x)=.bool x:=(rfl)
@[simp] theorem amE {o:lC}:sX h o (.str s)=.str s:=(rfl)
@[simp] theorem amB {o:lC}{i:Nat}:sX h o (.map i)=.map i:=(rfl)
@[simp] theorem amD {o:lC}{i j:Nat}:sX h o (.ptr i j)=.ptr i j:=(rfl)
@[simp] theorem ao1 {o:lC}{rows:List (List lC)}:sX h o (.slice rows .no)=.slice rows .no:=by cases rows <;> rfl
@[simp] theorem amC {o:lC}{rows:List (List lC)}{id:Nat}:sX h o (.slice rows (.own id))=.slice rows (.own id):=by cases rows <;> rfl
@[simp] theorem Ts {id:Nat}:sX h (.slice [] (.own id)) (.slice [] .nil)=bif sD h id then .slice [] (.own id) else .slice [] .nil:=by
 have e:sX h (.slice [] (.own id)) (.slice [] .nil)=match h[id]? with | some (.front 0 0)=>.slice [] (.own id) | _=>.slice [] .nil:=(rfl)
 rw [e]
 unfold sD
 split <;> rfl
@[simp] theorem agJ:sX h (.slice [] .nil) (.slice [] .nil)=.slice [] .nil:=(rfl)
@[simp] theorem Pu {rows:List (List lC)}:sX h (.slice rows .no) (.slice [] .nil)=.slice [] .nil:=by cases rows <;> rfl
@[simp] theorem YA {id o off:Nat}:lO off (.ptr id o)=some (.ptr id (o+off)):=(rfl)
@[simp] theorem X2 {cs:List lC}{off:Nat}:lO off (.pptr cs)=some (.pptr (cs.drop off)):=(rfl)
@[simp] theorem X8 {id off:Nat}:l_ (.ptr id off)=some (.ptr id off):=(rfl)
@[simp] theorem U4 {cs:List lC}:l_ (.pptr cs)=some (.pptr cs):=(rfl)
@[simp] theorem Tj:lC.cells (.int k a)=[.int k a]:=(rfl)
@[simp] theorem afT:lC.cells (.bool x)=[.bool x]:=(rfl)
@[simp] theorem alY:lC.cells (.str s)=[.str s]:=(rfl)
@[simp] theorem acV {rows:List (List lC)}{t:Tok}:lC.cells (.slice rows t)=[.slice rows t]:=(rfl)
@[simp] theorem alW {cs:List lC}:lC.cells (.agg cs)=cs:=(rfl)
@[simp] theorem alX {i:Nat}:lC.cells (.map i)=[.map i]:=(rfl)
@[simp] theorem afQ:lC.mE (.int k a)=true:=(rfl)
@[simp] theorem acU:lC.mE (.bool x)=true:=(rfl)
@[simp] theorem afS:lC.mE (.str s)=true:=(rfl)
@[simp] theorem KQ {rows:List (List lC)}{t:Tok}:lC.mE (.slice rows t)=true:=(rfl)
@[simp] theorem afR {i:Nat}:lC.mE (.map i)=true:=(rfl)
@[simp] theorem agD:lC.oC (.int k a)=false:=(rfl)
@[simp] theorem ac9:lC.oC (.bool x)=false:=(rfl)
@[simp] theorem agF:lC.oC (.str s)=false:=(rfl)
@[simp] theorem ZA {rows:List (List lC)}{t:Tok}:lC.oC (.slice rows t)=false:=(rfl)
@[simp] theorem agC {cs:List lC}:lC.oC (.agg cs)=false:=(rfl)
@[simp] theorem agE {i:Nat}:lC.oC (.map i)=false:=(rfl)
@[simp] theorem aqK {i:Nat}:lC.nO m h (.map i)=bif decide (i<m) then .map i else .junk:=(rfl)
@[simp] theorem asH {i:Nat}:lC.pV m h (.map i)=bif decide (i<m) then .map i else .junk:=(rfl)
@[simp] theorem abQ {i o:Nat}:lC.pV m h (.ptr i o)=lC.nO m h (.ptr i o):=(rfl)
theorem pR {i o:Nat}(hi:i<m):lC.nO m h (.ptr i o)=.ptr i o:=by simp [lC.nO,hi]
theorem QW {i o:Nat}(hi:i<m):lC.pV m h (.ptr i o)=.ptr i o:=by rw [abQ,pR hi]
@[simp] theorem anB {i o:Nat}:lC.lL (.ptr i o)=.ptr i o:=(rfl)
@[simp] theorem anA {i:Nat}:lC.lL (.map i)=.map i:=(rfl)
@[simp] theorem Mq:mW m h []=some []:=(rfl)
@[simp] theorem pD {cs:List lC}:mW m h (v::cs)=bif (v.nO m h).mE then(mW m h cs).map (v.nO m h::·) else none:=by
 simp only [mW];cases mW m h cs <;> rfl
@[simp] theorem Mo {cs:List lC}:pC m h (.cells cs)=(mW m h cs).map .cells:=(rfl)
@[simp] theorem Mp {i j:Nat}:pC m h (.front i j)=some (.front i j):=(rfl)
@[simp] theorem ad7:oG m h []=some []:=(rfl)
@[simp] theorem wQ {b:mC}{bs:lD}:oG m h (b::bs)=(pC m h b).bind fun b'=>(oG m h bs).map (b'::·):=by
 simp only [oG];cases pC m h b <;> cases oG m h bs <;> rfl
@[simp] theorem X6 {i:Nat}:sS (.str s) (.int k (i:Int))=(s[i]?).map fun b=>.int .u8 b.toNat:=by simp [sS]
@[simp] theorem U2:sS (.str s) (.int k 0)=(s[0]?).map fun b=>.int .u8 b.toNat:=by simp [sS]
@[simp] theorem U1 {i:Nat}{vs:List lC}:nI i (.tuple vs)=vs[i]?:=(rfl)
end
theorem wrap64 {n:Int}(h1:-9223372036854775808≤n) (h2:n≤9223372036854775807):IntKind.wrap .i64 n=n:=by
 simp [IntKind.wrap,IntKind.signed,IntKind.bits]
 split <;> omega
@[simp] theorem lG {α:Type}{enc:α→List lC}{sz:Nat}{xs:List α}{t:Tok}{k:IntKind}{i:Nat} :
  lU sz (.slice (xs.map enc) t) (.int k (i:Int))=(xs[i]?).bind fun x=>if (enc x).length=sz then some (.pptr (enc x)) else none:=by
 simp only [lU,Int.natCast_nonneg,if_true,Int.toNat_natCast,af7]
 cases xs[i]? <;> rfl
theorem KI {sz:Nat}{rows:List (List lC)}{t:Tok}{k:IntKind}{n:Int}:lU sz (.slice rows t) (.int k n)=if 0≤n then(rows[n.toNat]?).bind fun row=>if row.length=sz then some (.pptr row) else none else none:=by
 simp only [lU]
 split
 ·cases rows[n.toNat]? <;> rfl
 ·rfl
@[simp] theorem ae0 {n:Nat}{h:lD}{cs:List lC}:lP true n h (.pptr cs)=if n≤cs.length then some (.agg (cs.take n)) else none:=by
 simp [lP,apart]
@[simp] theorem Nj {n:Nat}{h:lD}{cs:List lC}:lP false n h (.pptr cs)=cs[0]?:=by
 simp [lP,apart]
theorem oF {P:Program}{A:wC}{f:Nat}{args:List lC}{h:lD}{m:Option (nB×lD)}{r:nB×lD}(he:qG P A mX (IQ P A) f args h=m) (hm:m=some r):IQ P A f args h=some r:=Vp (he.trans hm)
theorem nG {A:wC}{K:lN}{f:Nat}{args:List lC}{h:lD}{v:lC}(hp:A.pure f=true) (hs:args.all (lC.rU 0)=true) (hk:K f args []=some (.ret v,[])):mH A K f args h=some (.ret v,h):=by
 simp [mH,hp,hs,hk,tA]
end
section
open Go
section
variable {k k':IntKind}{a b:Int}{h:lD}{m n id tot off len sz:Nat}{v w:lC}{cs:List lC}
@[simp] theorem ab1:lC.lL (.vslice id tot off len sz)=.vslice id tot off len sz:=(rfl)
@[simp] theorem ak6:lC.lL (.vptr id tot off)=.vptr id tot off:=(rfl)
@[simp] theorem Yj:lC.oX (.vslice id tot off len sz)=.vslice id tot off len sz:=(rfl)
@[simp] theorem Zp:lC.cells (.vslice id tot off len sz)=[.vslice id tot off len sz]:=(rfl)
@[simp] theorem Ya:lC.mE (.vslice id tot off len sz)=true:=(rfl)
@[simp] theorem Pg {f:Nat}{x y:List lC}:lC.cells (.func f x y)=[.func f x y]:=(rfl)
@[simp] theorem Nw {f:Nat}{x y:List lC}:lC.mE (.func f x y)=true:=(rfl)
@[simp] theorem Ye:lC.oC (.vslice id tot off len sz)=false:=(rfl)
@[simp] theorem ZB {o:lC}:sX h o (.vslice id tot off len sz)=.vslice id tot off len sz:=(rfl)
theorem yC (hi:id<m):lC.nO m h (.vslice id tot off len sz)=.vslice id tot off len sz:=by simp [lC.nO,hi]
theorem Jl:lC.pV m h (.vslice id tot off len sz)=lC.nO m h (.vslice id tot off len sz):=(rfl)
theorem C3 (hi:id<m):lC.pV m h (.vslice id tot off len sz)=.vslice id tot off len sz:=by rw [Jl,yC hi]
@[simp] theorem X7:mP (.vslice id tot off len sz)=some (.int .i64 len):=(rfl)
@[simp] theorem Uu {i:Nat}{sz':Nat}:lU sz' (.vslice id tot off len sz) (.int k (i:Int))=if i<len∧sz=sz' then some (.vptr id tot (off+i*sz')) else none:=by
 simp [lU]
@[simp] theorem X3 {o:Nat}:lO o (.vptr id tot off)=some (.vptr id tot (off+o)):=(rfl)
@[simp] theorem U5:l_ (.vptr id tot off)=some (.vptr id tot off):=(rfl)
@[simp] theorem lK:lP false n h (.vptr id tot off)=(nV h id tot).bind fun x=>x.2[off]?:=by
 simp only [lP,apart,cond_false];cases nV h id tot <;> rfl
@[simp] theorem lI:lP true n h (.vptr id tot off)=(nV h id tot).bind fun x=>if off+n≤x.2.length then some (.agg ((x.2.drop off).take n)) else none:=by
 simp only [lP,apart,cond_true];cases nV h id tot <;> rfl
@[simp] theorem lH:lW n h (.vptr id tot off) v=(nV h id tot).bind fun x=>if v.cells.length=n∧off+n≤x.2.length∧v.cells.all lC.mE then some (h.set id (.vec tot x.1 (putCells x.2 off v.cells))) else none:=by
 simp only [lW];cases nV h id tot <;> rfl
@[simp] theorem Zt {r:lD}{tot':Nat}:nV (.vec tot' sz cs::r) 0 tot=if tot'=tot then some (sz,cs) else none:=(rfl)
@[simp] theorem ac5 {bl:mC}{r:lD}:nV (bl::r) (n+1) tot=nV r n tot:=(rfl)
@[simp] theorem QV:pC m h (.vec tot sz cs)=(mW m h cs).map (.vec tot sz):=(rfl)
@[simp] theorem YG {rows:List (List lC)}{t:Tok}:qS sz h (.slice rows t)=if rows.all fun r=>r.length == sz then some rows else none:=(rfl)
@[simp] theorem YH {rows:List (List lC)}{t:Tok}:w9 sz h (.slice rows t)=qS sz h (.slice rows t):=by
 unfold w9
 split
 ·rename_i r hr;rw [hr]
 ·rename_i hr;rw [hr];rfl
@[simp] theorem X4 {rows:List (List lC)}{t:Tok}:sB h (.slice rows t)=some (.slice rows t,h):=(rfl)
@[simp] theorem acG:sB h (.int k a)=some (.int k a,h):=(rfl)
@[simp] theorem YB {x:Bool}:sB h (.bool x)=some (.bool x,h):=(rfl)
@[simp] theorem acF:sB h (.agg cs)=some (.agg cs,h):=(rfl)
theorem vF {l:List lC}(hl:∀c∈l,∃k n,c=.int k n):mW m h l=some l:=by
 induction l with
 | nil=>rfl
 | cons c r ih =>
  obtain⟨k,n,rfl⟩:=hl c (by simp)
  rw [pD,ih fun c hc=>hl c (by simp [hc])]
  rfl
theorem DI {l:List lC}(hl:∀c∈l,∃k n,c=.int k n):nP l=some l:=by
 induction l with
 | nil=>rfl
 | cons c r ih =>
  obtain⟨k,n,rfl⟩:=hl c (by simp)
  simp only [nP,ih fun c hc=>hl c (by simp [hc]),lC.AN]
theorem C0:∀{l:List lC},rowsOf l.length 1 l=l.map fun c=>[c]
 | []=>rfl
 | c::r=>by simp [rowsOf,C0 (l:=r)]
end
noncomputable section
def uq1 {α:Type}(s:List lC×lD) (k:lC→lD→α):α:=k (aa7 s.1 0 .junk) s.2
def uq2 {α:Type}(s:List lC×lD) (k:lC→lC→lD→α):α:=k (aa7 s.1 0 .junk) (aa7 s.1 1 .junk) s.2
def uq3 {α:Type}(s:List lC×lD) (k:lC→lC→lC→lD→α):α:=k (aa7 s.1 0 .junk) (aa7 s.1 1 .junk) (aa7 s.1 2 .junk) s.2
def uq4 {α:Type}(s:List lC×lD) (k:lC→lC→lC→lC→lD→α):α:=k (aa7 s.1 0 .junk) (aa7 s.1 1 .junk) (aa7 s.1 2 .junk) (aa7 s.1 3 .junk) s.2
def uq5 {α:Type}(s:List lC×lD) (k:lC→lC→lC→lC→lC→lD→α):α:=k (aa7 s.1 0 .junk) (aa7 s.1 1 .junk) (aa7 s.1 2 .junk) (aa7 s.1 3 .junk) (aa7 s.1 4 .junk) s.2
def uq6 {α:Type}(s:List lC×lD) (k:lC→lC→lC→lC→lC→lC→lD→α):α:=k (aa7 s.1 0 .junk) (aa7 s.1 1 .junk) (aa7 s.1 2 .junk) (aa7 s.1 3 .junk) (aa7 s.1 4 .junk) (aa7 s.1 5 .junk) s.2
def uq7 {α:Type}(s:List lC×lD) (k:lC→lC→lC→lC→lC→lC→lC→lD→α):α:=k (aa7 s.1 0 .junk) (aa7 s.1 1 .junk) (aa7 s.1 2 .junk) (aa7 s.1 3 .junk) (aa7 s.1 4 .junk) (aa7 s.1 5 .junk) (aa7 s.1 6 .junk) s.2
def uq8 {α:Type}(s:List lC×lD) (k:lC→lC→lC→lC→lC→lC→lC→lC→lD→α):α:=k (aa7 s.1 0 .junk) (aa7 s.1 1 .junk) (aa7 s.1 2 .junk) (aa7 s.1 3 .junk) (aa7 s.1 4 .junk) (aa7 s.1 5 .junk) (aa7 s.1 6 .junk) (aa7 s.1 7 .junk) s.2
def uq9 {α:Type}(s:List lC×lD) (k:lC→lC→lC→lC→lC→lC→lC→lC→lC→lD→α):α:=k (aa7 s.1 0 .junk) (aa7 s.1 1 .junk) (aa7 s.1 2 .junk) (aa7 s.1 3 .junk) (aa7 s.1 4 .junk) (aa7 s.1 5 .junk) (aa7 s.1 6 .junk) (aa7 s.1 7 .junk) (aa7 s.1 8 .junk) s.2
def awN {α:Type}(s:List lC×lD) (k:lC→lC→lC→lC→lC→lC→lC→lC→lC→lC→lD→α):α:=k (aa7 s.1 0 .junk) (aa7 s.1 1 .junk) (aa7 s.1 2 .junk) (aa7 s.1 3 .junk) (aa7 s.1 4 .junk) (aa7 s.1 5 .junk) (aa7 s.1 6 .junk) (aa7 s.1 7 .junk) (aa7 s.1 8 .junk) (aa7 s.1 9 .junk) s.2
def awO {α:Type}(s:List lC×lD) (k:lC→lC→lC→lC→lC→lC→lC→lC→lC→lC→lC→lD→α):α:=k (aa7 s.1 0 .junk) (aa7 s.1 1 .junk) (aa7 s.1 2 .junk) (aa7 s.1 3 .junk) (aa7 s.1 4 .junk) (aa7 s.1 5 .junk) (aa7 s.1 6 .junk) (aa7 s.1 7 .junk) (aa7 s.1 8 .junk) (aa7 s.1 9 .junk) (aa7 s.1 10 .junk) s.2
def awP {α:Type}(s:List lC×lD) (k:lC→lC→lC→lC→lC→lC→lC→lC→lC→lC→lC→lC→lD→α):α:=k (aa7 s.1 0 .junk) (aa7 s.1 1 .junk) (aa7 s.1 2 .junk) (aa7 s.1 3 .junk) (aa7 s.1 4 .junk) (aa7 s.1 5 .junk) (aa7 s.1 6 .junk) (aa7 s.1 7 .junk) (aa7 s.1 8 .junk) (aa7 s.1 9 .junk) (aa7 s.1 10 .junk) (aa7 s.1 11 .junk) s.2
def gq (b:Bool) (t:lC) (x:Option R) (h:lD) (k:lC→lD→Option R):Option R:=(lJ b t x (lV (.tuple []) h)).bind (l9 k (fun _ _=>none))
def kq0 (K:lN) (f:Nat) (h:lD) (k:lC→lD→Option R):Option R:=lY (K f [] h) k (fun _ _=>none)
def kq1 (K:lN) (f:Nat) (a:lC) (h:lD) (k:lC→lD→Option R):Option R:=lY (K f [(a.lL)] h) k (fun _ _=>none)
def kq2 (K:lN) (f:Nat) (a b:lC) (h:lD) (k:lC→lD→Option R):Option R:=lY (K f [(a.lL),(b.lL)] h) k (fun _ _=>none)
def kq3 (K:lN) (f:Nat) (a b c:lC) (h:lD) (k:lC→lD→Option R):Option R:=lY (K f [(a.lL),(b.lL),(c.lL)] h) k (fun _ _=>none)
def kq4 (K:lN) (f:Nat) (a b c d:lC) (h:lD) (k:lC→lD→Option R):Option R:=lY (K f [(a.lL),(b.lL),(c.lL),(d.lL)] h) k (fun _ _=>none)
def kq5 (K:lN) (f:Nat) (a b c d e:lC) (h:lD) (k:lC→lD→Option R):Option R:=lY (K f [(a.lL),(b.lL),(c.lL),(d.lL),(e.lL)] h) k (fun _ _=>none)
def fq {α:Type}(i:Nat) (x:lC) (h:lD) (k:lC→Option α):Option α:=(lO i x).bind fun t=>(lP false 1 h t).bind k
def iq (n:Int):lC:=.int .i64 n
def gpq (b:Bool) (t:lC) (x:Option lC) (h:lD) (k:lC→lD→Option R):Option R:=(lJ b t (x.bind fun v=>lV v h) (lV (.tuple []) h)).bind (l9 k (fun _ _=>none))
def uk1 (K:lN) (f:Nat) (a:lC) (h:lD):Option (nB×lD):=K f [(a.lL)] h
def uk2 (K:lN) (f:Nat) (a b:lC) (h:lD):Option (nB×lD):=K f [(a.lL),(b.lL)] h
def uk3 (K:lN) (f:Nat) (a b c:lC) (h:lD):Option (nB×lD):=K f [(a.lL),(b.lL),(c.lL)] h
def uk4 (K:lN) (f:Nat) (a b c d:lC) (h:lD):Option (nB×lD):=K f [(a.lL),(b.lL),(c.lL),(d.lL)] h
def uk5 (K:lN) (f:Nat) (a b c d e:lC) (h:lD):Option (nB×lD):=K f [(a.lL),(b.lL),(c.lL),(d.lL),(e.lL)] h
def aq (o:BinOp) (x y:lC) (a b:Option R):Option R:=(lZ o x y).bind fun t=>lS t a b
end
@[simp ↓] theorem awQ {α:Type}{s:List lC×lD}{k:lC→lD→α}:uq1 s k=k (aa7 s.1 0 .junk) s.2:=(rfl)
@[simp ↓] theorem awR {α:Type}{s:List lC×lD}{k:lC→lC→lD→α}:uq2 s k=k (aa7 s.1 0 .junk) (aa7 s.1 1 .junk) s.2:=(rfl)
@[simp ↓] theorem awS {α:Type}{s:List lC×lD}{k:lC→lC→lC→lD→α}:uq3 s k=k (aa7 s.1 0 .junk) (aa7 s.1 1 .junk) (aa7 s.1 2 .junk) s.2:=(rfl)
@[simp ↓] theorem awT {α:Type}{s:List lC×lD}{k:lC→lC→lC→lC→lD→α}:uq4 s k=k (aa7 s.1 0 .junk) (aa7 s.1 1 .junk) (aa7 s.1 2 .junk) (aa7 s.1 3 .junk) s.2:=(rfl)
@[simp ↓] theorem awU {α:Type}{s:List lC×lD}{k:lC→lC→lC→lC→lC→lD→α}:uq5 s k=k (aa7 s.1 0 .junk) (aa7 s.1 1 .junk) (aa7 s.1 2 .junk) (aa7 s.1 3 .junk) (aa7 s.1 4 .junk) s.2:=(rfl)
@[simp ↓] theorem awV {α:Type}{s:List lC×lD}{k:lC→lC→lC→lC→lC→lC→lD→α}:uq6 s k=k (aa7 s.1 0 .junk) (aa7 s.1 1 .junk) (aa7 s.1 2 .junk) (aa7 s.1 3 .junk) (aa7 s.1 4 .junk) (aa7 s.1 5 .junk) s.2:=(rfl)
@[simp ↓] theorem awW {α:Type}{s:List lC×lD}{k:lC→lC→lC→lC→lC→lC→lC→lD→α}:uq7 s k=k (aa7 s.1 0 .junk) (aa7 s.1 1 .junk) (aa7 s.1 2 .junk) (aa7 s.1 3 .junk) (aa7 s.1 4 .junk) (aa7 s.1 5 .junk) (aa7 s.1 6 .junk) s.2:=(rfl)
@[simp ↓] theorem awX {α:Type}{s:List lC×lD}{k:lC→lC→lC→lC→lC→lC→lC→lC→lD→α}:uq8 s k=k (aa7 s.1 0 .junk) (aa7 s.1 1 .junk) (aa7 s.1 2 .junk) (aa7 s.1 3 .junk) (aa7 s.1 4 .junk) (aa7 s.1 5 .junk) (aa7 s.1 6 .junk) (aa7 s.1 7 .junk) s.2:=(rfl)
@[simp ↓] theorem awY {α:Type}{s:List lC×lD}{k:lC→lC→lC→lC→lC→lC→lC→lC→lC→lD→α}:uq9 s k=k (aa7 s.1 0 .junk) (aa7 s.1 1 .junk) (aa7 s.1 2 .junk) (aa7 s.1 3 .junk) (aa7 s.1 4 .junk) (aa7 s.1 5 .junk) (aa7 s.1 6 .junk) (aa7 s.1 7 .junk) (aa7 s.1 8 .junk) s.2:=(rfl)
@[simp ↓] theorem asO {α:Type}{s:List lC×lD}{k:lC→lC→lC→lC→lC→lC→lC→lC→lC→lC→lD→α}:awN s k=k (aa7 s.1 0 .junk) (aa7 s.1 1 .junk) (aa7 s.1 2 .junk) (aa7 s.1 3 .junk) (aa7 s.1 4 .junk) (aa7 s.1 5 .junk) (aa7 s.1 6 .junk) (aa7 s.1 7 .junk) (aa7 s.1 8 .junk) (aa7 s.1 9 .junk) s.2:=(rfl)
@[simp ↓] theorem asP {α:Type}{s:List lC×lD}{k:lC→lC→lC→lC→lC→lC→lC→lC→lC→lC→lC→lD→α}:awO s k=k (aa7 s.1 0 .junk) (aa7 s.1 1 .junk) (aa7 s.1 2 .junk) (aa7 s.1 3 .junk) (aa7 s.1 4 .junk) (aa7 s.1 5 .junk) (aa7 s.1 6 .junk) (aa7 s.1 7 .junk) (aa7 s.1 8 .junk) (aa7 s.1 9 .junk) (aa7 s.1 10 .junk) s.2:=(rfl)
@[simp ↓] theorem asQ {α:Type}{s:List lC×lD}{k:lC→lC→lC→lC→lC→lC→lC→lC→lC→lC→lC→lC→lD→α}:awP s k=k (aa7 s.1 0 .junk) (aa7 s.1 1 .junk) (aa7 s.1 2 .junk) (aa7 s.1 3 .junk) (aa7 s.1 4 .junk) (aa7 s.1 5 .junk) (aa7 s.1 6 .junk) (aa7 s.1 7 .junk) (aa7 s.1 8 .junk) (aa7 s.1 9 .junk) (aa7 s.1 10 .junk) (aa7 s.1 11 .junk) s.2:=(rfl)
@[simp ↓] theorem axN {b:Bool}{t:lC}{x:Option R}{h:lD}{k:lC→lD→Option R}:gq b t x h k=(lJ b t x (lV (.tuple []) h)).bind (l9 k (fun _ _=>none)):=(rfl)
@[simp ↓] theorem auX {K:lN}{f:Nat}{h:lD}{k:lC→lD→Option R}:kq0 K f h k=lY (K f [] h) k (fun _ _=>none):=(rfl)
@[simp ↓] theorem auY {K:lN}{f:Nat}{a:lC}{h:lD}{k:lC→lD→Option R}:kq1 K f a h k=lY (K f [(a.lL)] h) k (fun _ _=>none):=(rfl)
@[simp ↓] theorem auZ {K:lN}{f:Nat}{a b:lC}{h:lD}{k:lC→lD→Option R}:kq2 K f a b h k=lY (K f [(a.lL),(b.lL)] h) k (fun _ _=>none):=(rfl)
@[simp ↓] theorem au0 {K:lN}{f:Nat}{a b c:lC}{h:lD}{k:lC→lD→Option R}:kq3 K f a b c h k=lY (K f [(a.lL),(b.lL),(c.lL)] h) k (fun _ _=>none):=(rfl)
@[simp ↓] theorem au1 {K:lN}{f:Nat}{a b c d:lC}{h:lD}{k:lC→lD→Option R}:kq4 K f a b c d h k=lY (K f [(a.lL),(b.lL),(c.lL),(d.lL)] h) k (fun _ _=>none):=(rfl)
@[simp ↓] theorem au2 {K:lN}{f:Nat}{a b c d e:lC}{h:lD}{k:lC→lD→Option R}:kq5 K f a b c d e h k=lY (K f [(a.lL),(b.lL),(c.lL),(d.lL),(e.lL)] h) k (fun _ _=>none):=(rfl)
@[simp ↓] theorem axL {α:Type}{i:Nat}{x:lC}{h:lD}{k:lC→Option α}:fq i x h k=(lO i x).bind fun t=>(lP false 1 h t).bind k:=(rfl)
@[simp ↓] theorem axO {n:Int}:iq n=.int .i64 n:=(rfl)
@[simp ↓] theorem auU {b:Bool}{t:lC}{x:Option lC}{h:lD}{k:lC→lD→Option R}:gpq b t x h k=(lJ b t (x.bind fun v=>lV v h) (lV (.tuple []) h)).bind (l9 k (fun _ _=>none)):=(rfl)
@[simp ↓] theorem awI {K:lN}{f:Nat}{a:lC}{h:lD}:uk1 K f a h=K f [(a.lL)] h:=(rfl)
@[simp ↓] theorem awJ {K:lN}{f:Nat}{a b:lC}{h:lD}:uk2 K f a b h=K f [(a.lL),(b.lL)] h:=(rfl)
@[simp ↓] theorem awK {K:lN}{f:Nat}{a b c:lC}{h:lD}:uk3 K f a b c h=K f [(a.lL),(b.lL),(c.lL)] h:=(rfl)
@[simp ↓] theorem awL {K:lN}{f:Nat}{a b c d:lC}{h:lD}:uk4 K f a b c d h=K f [(a.lL),(b.lL),(c.lL),(d.lL)] h:=(rfl)
@[simp ↓] theorem awM {K:lN}{f:Nat}{a b c d e:lC}{h:lD}:uk5 K f a b c d e h=K f [(a.lL),(b.lL),(c.lL),(d.lL),(e.lL)] h:=(rfl)
@[simp ↓] theorem aw9 {o:BinOp}{x y:lC}{a b:Option R}:aq o x y a b=(lZ o x y).bind fun t=>lS t a b:=(rfl)
end
end Hk
