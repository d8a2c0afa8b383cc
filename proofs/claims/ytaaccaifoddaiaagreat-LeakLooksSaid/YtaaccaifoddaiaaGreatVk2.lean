/-
  The texts Vk.MemS, Vk.Op, Vk.Nat1, Vk.Region, Vk.Region2, Vk.Region3, Vk.Region4, Vk.Trunc, Vk.Rd, Vk.Code, Vk.Dfr, Vk.Sub, Vk.Fn, one behind another. No conditions.
-/
import Derived.Test.YtaaccaifoddaiaaGreatVk1
import Derived.Deep.AppendSrc
import Derived.Orders
import Derived.RangeFuncLeaves
import Derived.RangeFuncRecord
import Derived.RangeFuncSeq
import Derived.OrdersIn
import Derived.LoopNIn
import Derived.LoopN
import Derived.Recover
set_option linter.unusedVariables false
set_option linter.unusedSimpArgs false
set_option linter.all false
open Array renaming getD_eq_getD_getElem? → ad1, getElem?_append_left → aq0, getElem?_toList → ah1, length_toList → aq7
open Bool renaming and_eq_true → ae7
open List renaming all_eq_true → al0, cons_append → aq6, getD_eq_getElem?_getD → ad9, getElem?_append_left → ah6, getElem?_append_right → af7, getElem?_drop → ah9, getElem?_eq_getElem → ae1, getElem?_eq_some_iff → ad0, getElem?_map → ah3, getElem?_take → ah8, map_cons → ar6, mem_of_getElem? → ae0, range → ar2, replicate → ai1
open Option renaming bind_eq_some_iff → aa6, bind_some → aq5, map_eq_some_iff → ad2
open Option.some renaming injEq → aa9
open Prod.mk renaming injEq → ap2
namespace Hk
section
open Go Go.RowKit
section
variable {P:Program}{G:Gh}{h:kO}{w:World}{x y v:kN}{X Y V:Value}
theorem Hn {t ty e:TypeId}{sz bytes:Nat}{z r:kN}{h':kO}(i:Inv G h w) (ht:P.underlying t=some (.slice e)) (hn:mX P e=some sz) (hby:vV P e=some bytes)
  (hz:p_ P e=some z) (hzj:z.nE=false) (hzl:z.cells.length=sz) (hsz:sz≠0) {t1:Nat}(ht1:t1=e+1) (hb:A6 t1 sz bytes h x y=some (r,h')) (hx:k_ G h x X) (hy:k_ G h y Y) :
  ∃V w' G',(Builtin.append_ #[t,t] ty #[X,Y]).run P w=.ok V w'∧Inv G' h' w'∧Ext G h w G' h' w'∧k_ G' h' r V:=by
 unfold A6 at hb;cases hb
theorem EB {t tx ty e:TypeId}{sz bytes:Nat}{z r:kN}{h':kO}(i:Inv G h w) (ht:P.underlying t=some (.slice e)) (hu:P.underlying tx=some .string) (hn:mX P e=some sz) (hby:vV P e=some bytes)
  (hz:p_ P e=some z) (hzj:z.nE=false) {t1:Nat}(ht1:t1=e+1) (hb:Ct t1 sz bytes z.cells.length h x y=some (r,h')) (hx:k_ G h x X) (hy:k_ G h y Y) :
  ∃V w' G',(Builtin.append_ #[t,tx] ty #[X,Y]).run P w=.ok V w'∧Inv G' h' w'∧Ext G h w G' h' w'∧k_ G' h' r V:=by
 unfold Ct at hb;cases hb
end
end
section
open Go Go.RowKit
def xW (G:Gh) (h:kO) (vs:List kN) (A:Array Value):Prop:=vs.length=A.size∧∀(i:Nat) (v:kN),vs[i]?=some v→k_ G h v (A.getD i undef)
def tN (G:Gh) (h:kO) (w:World) (r:mR) (h':kO) (e:Ending) (w':World):Prop :=
 ∃G',Ext G h w G' h' w'∧Inv G' h' w'∧match r with
  | .ret v=>∃V,e=.returned V∧k_ G' h' v V
  | .pan v=>∃V,e=.panicked [{ v:=V,recovered:=false }]∧k_ G' h' v V
def qR (P:Program) (A:xS) (K:kT):Prop :=
 ∀(f:Nat) (args:List kN) (h:kO) (r:mR) (h':kO),K f args h=some (r,h') →
  ∀(G:Gh) (w:World) (X:Array Value),Inv G h w→o_ A G h w→xW G h args X →
   (∀w,(callFunc f X).run P w=.ok (.enter f X) w)∧Calls P f X w (tN G h w r h')
theorem C6 {G:Gh}{h:kO}{x:kN}{X:Value}(hx:k_ G h x X):k_ G h x.qK X:=by
 cases x <;> simp only [kN.qK] <;> first | exact hx | exact .p _ _ hx.uB
theorem Ae {G:Gh}{h:kO}{x:kN}{X:Value}(hx:k_ G h x X):k_ G h x.kP X:=by
 have agg:∀(cs:List kN) (X:Value),k_ G h (.agg cs) X→k_ G h (.agg (cs.map kN.qK)) X:=by
  intro cs X hx
  obtain⟨C,rfl,hl,hr⟩:=hx.vB
  refine .agg _ _ (by simpa using hl) fun i u hu=>?_
  simp only [ah3,ad2] at hu
  obtain⟨a,ha,rfl⟩:=hu
  exact C6 (hr i a ha)
 cases x with
 | agg cs=>exact agg cs X hx
 | tuple vs =>
  obtain⟨C,rfl,hl,hr⟩:=hx.Ad
  refine .tuple _ _ (by simpa using hl) fun i u hu=>?_
  simp only [ah3,ad2] at hu
  obtain⟨a,ha,rfl⟩:=hu
  have:=hr i a ha
  cases a <;> first | exact agg _ _ this | exact C6 this
 | _=>exact C6 hx
section
variable {J:Act→Prop}{cx:Cx}{o:Oper}{ρ:List kN}{h:kO}{kv kp:kN→kO→Option R}{r:R}{G:Gh}{w:World}{a:Act}{N:Act→World→Prop}{Q:Exit→Act→World→Prop}
def Yv (o:Oper) (kv:kN→kO→Option R) (r:R) (G:Gh) (h:kO) (w:World) (a:Act) (N:Act→World→Prop):Prop :=
 ∀v h' G' w' V,kv v h'=some r→Ext G h w G' h' w'→Inv G' h' w'→k_ G' h' v V→N (a.put o.dst V) w'
def Vo (kp:kN→kO→Option R) (r:R) (G:Gh) (h:kO) (w:World) (a:Act) (Q:Exit→Act→World→Prop):Prop :=
 ∀v h' G' w' V,kp v h'=some r→Ext G h w G' h' w'→Inv G' h' w'→k_ G' h' v V→Q (.panic [{ v:=V,recovered:=false }]) a w'
theorem Jo {V:Value}{w':World}(hr:(execOp a.eval o).run cx.P w=.ok (.value V) w') (hN:N (a.put o.dst V) w'):o.wp cx.P a w N Q:=by
 unfold Oper.wp;rw [hr];exact hN
theorem Jn {w':World}(hr:(execOp a.eval o).run cx.P w=.ok .skip w') (hN:N (a.put o.dst undef) w'):o.wp cx.P a w N Q:=by
 unfold Oper.wp;rw [hr];exact hN
theorem lZ {s:Sem Value}{V:Value}{w':World}(h:s.run cx.P w=.ok V w'):(do pure (Next.value (←s)):Sem Next).run cx.P w=.ok (.value V) w':=by
 simp [h,Sem.run_pure]
theorem Il {s:Sem Unit}{w':World}(h:s.run cx.P w=.ok () w'):(do s;pure Next.skip:Sem Next).run cx.P w=.ok .skip w':=by
 simp [h,Sem.run_pure]
theorem lY {v:kN}(i:Inv G h w) (hk:kv v h=some r) (hkv:Yv o kv r G h w a N) (hr:∃V,(execOp a.eval o).run cx.P w=.ok (.value V) w∧k_ G h v V):o.wp cx.P a w N Q:=by
 obtain⟨V,h1,h2⟩:=hr
 exact Jo h1 (hkv v h G w V hk (Ext.refl G h w) i h2)
theorem pQ {v:kN}{h':kO}(hk:kv v h'=some r) (hkv:Yv o kv r G h w a N)
  (hr:∃V w' G',(execOp a.eval o).run cx.P w=.ok (.value V) w'∧Inv G' h' w'∧Ext G h w G' h' w'∧k_ G' h' v V):o.wp cx.P a w N Q:=by
 obtain⟨V,w',G',h1,h2,h3,h4⟩:=hr
 exact Jo h1 (hkv v h' G' w' V hk h3 h2 h4)
theorem JI {c:Call}{b:Builtin}(ho:o.op=.call c) (hcal:c.callee=.builtin b) (hb:qB cx b c.argTypes.toList (c.args.toList.map (qF cx.A ρ)) h kv=some r) (i:Inv G h w)
  (ev:∀x,k_ G h (qF cx.A ρ x) (a.eval x)) (hkv:Yv o kv r G h w a N):o.wp cx.P a w N Q:=by
 have run:∀(s:Sem Value) (V:Value) (w':World),s.run cx.P w=.ok V w'→(∀consts,(builtin b c.argTypes o.type consts (c.args.map a.eval)).run cx.P w=(do pure (Next.value (←s)):Sem Next).run cx.P w) →
   (execOp a.eval o).run cx.P w=.ok (.value V) w':=by
  intro s V w' h1 h2
  simp only [execOp,ho,resolve,hcal,Sem.run_bind,Sem.run_pure,Result.andThen_ok,invoke]
  exact(h2 _).trans (lZ h1)
 unfold qB at hb
 split at hb
 ·rename_i t x hT hA
  obtain⟨x0,hx0,rfl⟩:∃x0,c.args=#[x0]∧x=qF cx.A ρ x0:=by
   cases hc:c.args with
   | mk l=>rw [hc] at hA;cases l with
    | nil=>simp at hA
    | cons y r=>simp at hA;exact⟨y,by simp [hA.2],hA.1.symm⟩
  have hT':c.argTypes=#[t]:=by cases hc:c.argTypes with | mk l=>rw [hc] at hT;simp at hT;rw [hT]
  split at hb
  ·rename_i n e ht
   refine lY i hb hkv ⟨.int .i64 n,run (Builtin.len_ #[t] o.type #[a.eval x0]) _ _ ?_ (fun _=>by simp [builtin,hx0,hT']),.p _ _ (.int _ _)⟩
   simp [Builtin.len_,run_underlying ht,goInt,Sem.run_pure]
  ·rename_i ht
   obtain⟨v,hv,hk⟩:=aa6.1 hb
   obtain⟨V,e1,e2⟩:=JA (P:=cx.P) (w:=w) (ty:=o.type) ht hv (ev x0)
   exact lY i hk hkv ⟨V,run _ _ _ e1 (fun _=>by simp [builtin,hx0,hT']),e2⟩
  ·rename_i e ht
   obtain⟨v,hv,hk⟩:=aa6.1 hb
   obtain⟨V,e1,e2⟩:=K0 (P:=cx.P) (w:=w) (ty:=o.type) ht hv (ev x0)
   exact lY i hk hkv ⟨V,run _ _ _ e1 (fun _=>by simp [builtin,hx0,hT']),e2⟩
  ·cases hb
 ·rename_i x y hA
  obtain⟨x0,y0,hx0,rfl,rfl⟩:∃x0 y0,c.args=#[x0,y0]∧x=qF cx.A ρ x0∧y=qF cx.A ρ y0:=by
   cases hc:c.args with
   | mk l=>rw [hc] at hA;match l,hA with
    | [p,q],hA=>simp at hA;exact⟨p,q,rfl,hA.1.symm,hA.2.symm⟩
  obtain⟨v,hv,hk⟩:=aa6.1 hb
  obtain⟨V,e1,e2⟩:=FF (P:=cx.P) (w:=w) hv (ev x0) (ev y0)
  exact lY i hk hkv ⟨V,run (Builtin.min2 (a.eval x0) (a.eval y0)) _ _ e1 (fun _=>by simp [builtin,hx0,Builtin.min_]),e2⟩
 ·rename_i x y hA
  obtain⟨x0,y0,hx0,rfl,rfl⟩:∃x0 y0,c.args=#[x0,y0]∧x=qF cx.A ρ x0∧y=qF cx.A ρ y0:=by
   cases hc:c.args with
   | mk l=>rw [hc] at hA;match l,hA with
    | [p,q],hA=>simp at hA;exact⟨p,q,rfl,hA.1.symm,hA.2.symm⟩
  obtain⟨v,hv,hk⟩:=aa6.1 hb
  obtain⟨V,e1,e2⟩:=FD (P:=cx.P) (w:=w) hv (ev x0) (ev y0)
  exact lY i hk hkv ⟨V,run (Builtin.max2 (a.eval x0) (a.eval y0)) _ _ e1 (fun _=>by simp [builtin,hx0,Builtin.max_]),e2⟩
 ·rename_i x y z r' hA
  obtain⟨x0,l0,hx0,rfl,hl0⟩:∃x0 l0,c.args.toList=x0::l0∧x=qF cx.A ρ x0∧y::z::r'=l0.map (qF cx.A ρ):=by
   cases hc:c.args.toList with
   | nil=>rw [hc] at hA;simp at hA
   | cons p q=>rw [hc] at hA;simp only [ar6,List.cons.injEq] at hA;exact⟨p,q,rfl,hA.1.symm,hA.2.symm⟩
  obtain⟨v,hv,hk⟩:=aa6.1 hb
  rw [hl0] at hv
  obtain⟨V,e1,e2⟩:=FG (P:=cx.P) (w:=w) (L:=l0.map a.eval) hv (ev x0) (by simp) fun j u U hu hU=>by
   simp only [ah3,ad2] at hu hU
   obtain⟨q,hq,rfl⟩:=hu
   obtain⟨q',hq',rfl⟩:=hU
   rw [hq] at hq';cases hq'
   exact ev q
  exact lY i hk hkv ⟨V,run _ _ _ e1 (fun _=>by simp [builtin,Builtin.min_,hx0]),e2⟩
 ·rename_i x y z r' hA
  obtain⟨x0,l0,hx0,rfl,hl0⟩:∃x0 l0,c.args.toList=x0::l0∧x=qF cx.A ρ x0∧y::z::r'=l0.map (qF cx.A ρ):=by
   cases hc:c.args.toList with
   | nil=>rw [hc] at hA;simp at hA
   | cons p q=>rw [hc] at hA;simp only [ar6,List.cons.injEq] at hA;exact⟨p,q,rfl,hA.1.symm,hA.2.symm⟩
  obtain⟨v,hv,hk⟩:=aa6.1 hb
  rw [hl0] at hv
  obtain⟨V,e1,e2⟩:=FE (P:=cx.P) (w:=w) (L:=l0.map a.eval) hv (ev x0) (by simp) fun j u U hu hU=>by
   simp only [ah3,ad2] at hu hU
   obtain⟨q,hq,rfl⟩:=hu
   obtain⟨q',hq',rfl⟩:=hU
   rw [hq] at hq';cases hq'
   exact ev q
  exact lY i hk hkv ⟨V,run _ _ _ e1 (fun _=>by simp [builtin,Builtin.max_,hx0]),e2⟩
 ·rename_i t t' x y hT hA
  obtain⟨x0,y0,hx0,rfl,rfl⟩:∃x0 y0,c.args=#[x0,y0]∧x=qF cx.A ρ x0∧y=qF cx.A ρ y0:=by
   cases hc:c.args with
   | mk l=>rw [hc] at hA;match l,hA with
    | [p,q],hA=>simp at hA;exact⟨p,q,rfl,hA.1.symm,hA.2.symm⟩
  have hT':c.argTypes=#[t,t']:=by cases hc:c.argTypes with | mk l=>rw [hc] at hT;simp at hT;rw [hT]
  split at hb
  ·rename_i e he
   have ht:cx.P.underlying t=some (.slice e):=by unfold FM at he;split at he <;> simp_all
   cases htt:(t != t') with
   | true =>
    simp only [htt,cond_true] at hb
    split at hb
    ·rename_i sz by_ z hu hn hby hz
     cases hj:z.nE with
     | true=>rw [hj] at hb;cases hb
     | false =>
      rw [hj,cond_false] at hb
      unfold kW at hb
      obtain⟨⟨p,h'⟩,hv,hk⟩:=aa6.1 hb
      obtain⟨V,w',G',e1,e2,e3,e4⟩:=EB (P:=cx.P) (ty:=o.type) i ht hu hn hby hz hj rfl hv (ev x0) (ev y0)
      exact pQ hk hkv ⟨V,w',G',run _ _ _ e1 (fun _=>by simp [builtin,hx0,hT']),e2,e3,e4⟩
    ·cases hb
   | false =>
    simp only [htt,cond_false] at hb
    have:t=t':=by simpa using htt
    subst this
    split at hb
    ·rename_i sz by_ z hn hby hz
     cases hg:(sz == 0 || z.nE || z.cells.length != sz) with
     | true=>simp only [hg,cond_true] at hb;cases hb
     | false =>
      simp only [hg,cond_false] at hb
      simp only [Bool.or_eq_false_iff,beq_eq_false_iff_ne,bne_eq_false_iff_eq] at hg
      obtain⟨⟨h0,hj⟩,hl⟩:=hg
      unfold kW at hb
      obtain⟨⟨p,h'⟩,hv,hk⟩:=aa6.1 hb
      cases hvec:cx.vec t with
      | false =>
       rw [hvec,cond_false] at hv
       cases htb:cx.tb with
       | true =>
        rw [htb,cond_true] at hv
        obtain⟨V,w',G',e1,e2,e3,e4⟩:=Hn (P:=cx.P) (ty:=o.type) i ht hn hby hz hj hl h0 rfl hv (ev x0) (ev y0)
        exact pQ hk hkv ⟨V,w',G',run _ _ _ e1 (fun _=>by simp [builtin,hx0,hT']),e2,e3,e4⟩
       | false =>
       rw [htb,cond_false] at hv
       obtain⟨V,w',G',e1,e2,e3,e4⟩:=Ju (P:=cx.P) (ty:=o.type) i ht hn hby hz hj hl h0 hv (ev x0) (ev y0)
       exact pQ hk hkv ⟨V,w',G',run _ _ _ e1 (fun _=>by simp [builtin,hx0,hT']),e2,e3,e4⟩
      | true =>
       rw [hvec,cond_true] at hv
       obtain⟨V,w',G',e1,e2,e3,e4⟩:=Ho (P:=cx.P) (ty:=o.type) i ht hn hby hz hj hl h0 hv (ev x0) (ev y0)
       exact pQ hk hkv ⟨V,w',G',run _ _ _ e1 (fun _=>by simp [builtin,hx0,hT']),e2,e3,e4⟩
    ·cases hb
  ·cases hb
 ·rename_i t t' x y hT hA
  obtain⟨x0,y0,hx0,rfl,rfl⟩:∃x0 y0,c.args=#[x0,y0]∧x=qF cx.A ρ x0∧y=qF cx.A ρ y0:=by
   cases hc:c.args with
   | mk l=>rw [hc] at hA;match l,hA with
    | [p,q],hA=>simp at hA;exact⟨p,q,rfl,hA.1.symm,hA.2.symm⟩
  have hT':c.argTypes=#[t,t']:=by cases hc:c.argTypes with | mk l=>rw [hc] at hT;simp at hT;rw [hT]
  split at hb
  ·rename_i e he _
   have ht:cx.P.underlying t=some (.slice e):=by unfold FM at he;split at he <;> simp_all
   split at hb
   ·rename_i hn _
    unfold kW at hb
    obtain⟨⟨p,h'⟩,hv,hk⟩:=aa6.1 hb
    obtain⟨V,w',G',e1,e2,e3,e4⟩:=KX (P:=cx.P) (ty:=o.type) (t2:=t') i ht hn hv (ev x0) (ev y0)
    exact pQ hk hkv ⟨V,w',G',run _ _ _ e1 (fun _=>by simp [builtin,hx0,hT']),e2,e3,e4⟩
   ·cases hb
  ·cases hb
 ·rename_i t t' x y hT hA
  obtain⟨x0,y0,hx0,rfl,rfl⟩:∃x0 y0,c.args=#[x0,y0]∧x=qF cx.A ρ x0∧y=qF cx.A ρ y0:=by
   cases hc:c.args with
   | mk l=>rw [hc] at hA;match l,hA with
    | [p,q],hA=>simp at hA;exact⟨p,q,rfl,hA.1.symm,hA.2.symm⟩
  have hT':c.argTypes[0]?=some t:=by cases hc:c.argTypes with | mk l=>rw [hc] at hT;simp at hT;rw [hT];rfl
  split at hb
  ·rename_i kt et ht
   split at hb
   ·rename_i d hd
    cases hf:rT d (qF cx.A ρ y0) with
    | false=>rw [hf] at hb;cases hb
    | true =>
     rw [hf] at hb
     simp only [cond_true] at hb
     obtain⟨h1,hv,hk⟩:=aa6.1 hb
     obtain⟨w',e1,e2,e3⟩:=JC (P:=cx.P) (ty:=o.type) i ht hd hf hv (ev x0) (ev y0) hT'
     exact pQ hk hkv ⟨_,w',G,run _ _ _ e1 (fun _=>by simp [builtin,hx0]),e2,e3,.tuple _ _ rfl (by simp)⟩
   ·cases hb
  ·cases hb
 ·rename_i t x hT hA
  obtain⟨x0,hx0,rfl⟩:∃x0,c.args=#[x0]∧x=qF cx.A ρ x0:=by
   cases hc:c.args with
   | mk l=>rw [hc] at hA;cases l with
    | nil=>simp at hA
    | cons y r=>simp at hA;exact⟨y,by simp [hA.2],hA.1.symm⟩
  have hT':c.argTypes[0]?=some t:=by cases hc:c.argTypes with | mk l=>rw [hc] at hT;simp at hT;rw [hT];rfl
  split at hb
  ·rename_i e ht
   split at hb
   ·rename_i sz z hn hz
    cases hj:z.nE with
    | true=>rw [hj] at hb;cases hb
    | false =>
     rw [hj] at hb
     simp only [cond_false] at hb
     obtain⟨h1,hv,hk⟩:=aa6.1 hb
     obtain⟨w',e1,e2,e3⟩:=KW (P:=cx.P) (ty:=o.type) i ht hz hj hv (ev x0) hT'
     exact pQ hk hkv ⟨_,w',G,run _ _ _ e1 (fun _=>by simp [builtin,hx0]),e2,e3,.tuple _ _ rfl (by simp)⟩
   ·cases hb
  ·rename_i kt et ht
   obtain⟨h1,hv,hk⟩:=aa6.1 hb
   obtain⟨w',e1,e2,e3⟩:=F6 (P:=cx.P) (ty:=o.type) i ht hv (ev x0) hT'
   exact pQ hk hkv ⟨_,w',G,run _ _ _ e1 (fun _=>by simp [builtin,hx0]),e2,e3,.tuple _ _ rfl (by simp)⟩
  ·cases hb
 ·cases hb
theorem Up {P:Program}{t f:Nat}{name:String}(hm:VH P t name=some f) (v:Value) (w:World):(method (P.types.size+Made.depth) t v name).run P w=.ok (f,v) w:=by
 unfold VH at hm
 split at hm
 ·rename_i i hi
  split at hm
  ·rename_i m hf
   cases hp:m.path.toList with
   | cons _ _=>rw [hp] at hm;simp at hm
   | nil =>
    rw [hp] at hm
    simp only [List.isEmpty_nil,cond_true] at hm
    split at hm
    ·rename_i f' hfn
     split at hm
     ·rename_i fs hu
      cases hm
      have hd:P.types.size+Made.depth=(P.types.size+99)+1:=rfl
      rw [hd]
      have hti:(typeInfo t).run P w=.ok i w:=by simp [typeInfo,Sem.run_bind,Sem.run_pure,hi]
      unfold method
      simp only [Sem.run_bind,hti,Result.andThen_ok,hf]
      simp only [hp,follow,Sem.run_bind,Sem.run_pure,Result.andThen_ok,hfn,receiverAt,run_underlying hu,Place.get]
     ·cases hm
    ·cases hm
  ·cases hm
 ·cases hm
theorem Aq (hX:tO cx.P cx.A) (hK:qR cx.P cx.A cx.K) (rsv:Option Nat) (hb:evalOp cx o rsv ρ h kv kp=some r) (i:Inv G h w) (gl:o_ cx.A G h w) (s:nC J G h ρ a)
  (hkv:Yv o kv r G h w a N) (hkp:Vo kp r G h w a Q):o.wp cx.P a w N Q:=by
 have ev:∀x,k_ G h (qF cx.A ρ x) (a.eval x):=fun x=>s.eval gl.cells x
 unfold evalOp mU at hb
 simp only [] at hb
 split at hb
 ·rename_i x ho
  exact lY i hb hkv ⟨_,by simp [execOp,ho,Sem.run_pure],ev x⟩
 ·rename_i x ho
  cases hn:z9 x with
  | true =>
   simp only [hn,cond_true] at hb
   obtain⟨G',i',x',hc,_⟩:=i.BY
   have hx:a.eval x=.slice none 0 0:=by
    unfold z9 at hn
    split at hn
    ·rfl
    ·cases hn
   exact Jo (by simp [execOp,ho,Sem.run_pure,hx]) (hkv _ _ G' w _ hb x' i' (Pb hc))
  | false =>
   simp only [hn,cond_false] at hb
   exact lY i hb hkv ⟨_,by simp [execOp,ho,Sem.run_pure],ev x⟩
 ·rename_i c x y ho
  obtain⟨v,hv,hk⟩:=aa6.1 hb
  obtain⟨V,h1,h2⟩:=OA (P:=cx.P) (w:=w) hv (ev c) (ev x) (ev y)
  exact lY i hk hkv ⟨V,by simp only [execOp,ho];exact h1,h2⟩
 ·rename_i t ho
  split at hb
  ·rename_i n z hn hz
   split at hb
   ·unfold kW at hb
    obtain⟨⟨p,h'⟩,hv,hk⟩:=aa6.1 hb
    obtain⟨V,w',G',h1,h2,h3,h4⟩:=Jt (P:=cx.P) i hz hv
    exact pQ hk hkv ⟨V,w',G',by simp only [execOp,ho];exact lZ h1,h2,h3,h4⟩
   ·unfold kW at hb
    obtain⟨⟨p,h'⟩,hv,hk⟩:=aa6.1 hb
    obtain⟨V,w',G',h1,h2,h3,h4⟩:=Hm (P:=cx.P) i hz hv
    exact pQ hk hkv ⟨V,w',G',by simp only [execOp,ho];exact lZ h1,h2,h3,h4⟩
  ·cases hb
 ·rename_i t x ho
  split at hb
  ·rename_i n hn
   split at hb
   ·unfold kW at hb
    obtain⟨⟨p,h'⟩,hv,hk⟩:=aa6.1 hb
    obtain⟨V,w',G',h1,h2,h3,h4⟩:=Ou (P:=cx.P) (t:=t) i hv (ev x)
    exact pQ hk hkv ⟨V,w',G',by simp only [execOp,ho];exact lZ h1,h2,h3,h4⟩
   ·unfold kW at hb
    obtain⟨⟨p,h'⟩,hv,hk⟩:=aa6.1 hb
    obtain⟨V,w',G',h1,h2,h3,h4⟩:=KU (P:=cx.P) (t:=t) i hv (ev x)
    exact pQ hk hkv ⟨V,w',G',by simp only [execOp,ho];exact lZ h1,h2,h3,h4⟩
  ·cases hb
 ·rename_i t parts ho
  split at hb
  ·rename_i z fs hz ht
   split at hb
   ·rename_i places hp
    cases hj:z.nE with
    | true=>simp [hj] at hb
    | false =>
     simp only [hj,cond_false] at hb
     obtain⟨v,hv,hk⟩:=aa6.1 hb
     obtain⟨V,h1,h2⟩:=Jv (P:=cx.P) (G:=G) (h:=h) (w:=w) ht hz hp ev hj hv
     exact lY i hk hkv ⟨V,by simp only [execOp,ho];exact lZ h1,h2⟩
   ·cases hb
  ·rename_i z len e hz ht
   split at hb
   ·rename_i n hn
    cases hj:z.nE with
    | true=>simp [hj] at hb
    | false =>
     simp only [hj,cond_false] at hb
     obtain⟨v,hv,hk⟩:=aa6.1 hb
     obtain⟨V,h1,h2⟩:=KV (P:=cx.P) (G:=G) (h:=h) (w:=w) ht hz hn ev hj hv
     exact lY i hk hkv ⟨V,by simp only [execOp,ho];exact lZ h1,h2⟩
   ·cases hb
  ·cases hb
 ·rename_i t len parts ho
  split at hb
  ·rename_i e he
   have ht:cx.P.underlying t=some (.slice e):=by unfold FM at he;split at he <;> simp_all
   split at hb
   ·rename_i n z hn hz
    cases hg:(n == 0 || z.nE || decide (len*n > 16777216)) with
    | true=>simp only [hg,cond_true] at hb;cases hb
    | false =>
     simp only [hg,cond_false] at hb
     simp only [Bool.or_eq_false_iff,beq_eq_false_iff_ne,decide_eq_false_iff_not] at hg
     obtain⟨⟨h0,hj⟩,hle⟩:=hg
     split at hb
     ·unfold kW at hb
      obtain⟨⟨p,h'⟩,hv,hk⟩:=aa6.1 hb
      cases hvl:cx.vlit t with
      | false =>
       rw [hvl,cond_false] at hv
       obtain⟨V,w',G',h1,h2,h3,h4⟩:=De (P:=cx.P) i ht hz hn h0 (by omega) ev hj hv
       exact pQ hk hkv ⟨V,w',G',by simp only [execOp,ho];exact lZ h1,h2,h3,h4⟩
      | true =>
       rw [hvl,cond_true] at hv
       obtain⟨V,w',G',h1,h2,h3,h4⟩:=Cu (P:=cx.P) i ht hz hn h0 (by omega) ev hj hv
       exact pQ hk hkv ⟨V,w',G',by simp only [execOp,ho];exact lZ h1,h2,h3,h4⟩
     ·unfold kW at hb
      obtain⟨⟨p,h'⟩,hv,hk⟩:=aa6.1 hb
      obtain⟨V,w',G',h1,h2,h3,h4⟩:=Cc (P:=cx.P) i ht hz hn h0 (by omega) ev hj hv
      exact pQ hk hkv ⟨V,w',G',by simp only [execOp,ho];exact lZ h1,h2,h3,h4⟩
   ·cases hb
  ·cases hb
 ·rename_i t x ho
  split at hb
  ·rename_i g n hg hn
   obtain⟨v,hv,hk⟩:=aa6.1 hb
   obtain⟨V,h1,h2⟩:=K3 (P:=cx.P) hg hn i hv (ev x)
   cases hfr:cx.rb&&cx.frl with
   | false =>
    rw [hfr,cond_false] at hk
    exact lY i hk hkv ⟨V,by simp only [execOp,ho];exact lZ h1,h2⟩
   | true =>
    rw [hfr,cond_true] at hk
    unfold kW at hk
    obtain⟨⟨y,h3⟩,hy,hk⟩:=aa6.1 hk
    obtain⟨G1,i1,x1,r1⟩:=Hy i hy h2
    exact pQ hk hkv ⟨V,w,G1,by simp only [execOp,ho];exact lZ h1,i1,x1,r1⟩
  ·cases hb
 ·rename_i t p x ho
  split at hb
  ·rename_i n hn
   cases hfz:cx.frz with
   | false =>
    rw [hfz,cond_false] at hb
    obtain⟨h',hv,hk⟩:=aa6.1 hb
    obtain⟨w',h1,h2,h3⟩:=JG (P:=cx.P) hn i hv (ev p) (ev x)
    exact Jn (by simp only [execOp,ho];exact Il h1) (hkv _ _ G w' _ hk h3 h2 .undef)
   | true =>
    rw [hfz,cond_true] at hb
    obtain⟨⟨y,h1⟩,hy,hb⟩:=aa6.1 hb
    obtain⟨h',hv,hk⟩:=aa6.1 hb
    obtain⟨G1,i1,x1,r1⟩:=zB i hy (ev x)
    obtain⟨w',g1,g2,g3⟩:=Dl (P:=cx.P) hn i1 hv ((ev p).mono x1.toMono) r1
    exact Jn (by simp only [execOp,ho];exact Il g1) (hkv _ _ G1 w' _ hk (x1.trans g3) g2 .undef)
  ·cases hb
 ·rename_i x ho
  obtain⟨v,hv,hk⟩:=aa6.1 hb
  have hx:=ev x
  refine lY i hk hkv ⟨a.eval x,?_,?_⟩
  ·unfold lM at hv
   split at hv <;> simp only [aa9,reduceCtorEq] at hv
   ·rename_i he;rw [he] at hx;obtain⟨h1,_⟩:=hx.yN;simp [execOp,ho,h1,Sem.run_pure]
   ·rename_i he;rw [he] at hx;obtain⟨_,h1,_⟩:=hx.BG;simp [execOp,ho,h1,Sem.run_pure]
   ·rename_i he
    rw [he] at hx
    have:=hx.Bt
    generalize hX:a.eval x=X at this
    cases this
    simp [execOp,ho,hX,Sem.run_pure]
   ·rename_i he;rw [he] at hx;obtain⟨F,C,h1,_⟩:=hx.Dr;simp [execOp,ho,h1,Sem.run_pure]
  ·unfold lM at hv
   split at hv <;> simp only [aa9,reduceCtorEq] at hv
   all_goals (rename_i he;rw [he] at hx;rw [←hv];exact hx)
 ·rename_i op t x y yt ho
  split at hb
  ·rename_i fs ht
   split at hb
   ·rename_i ks hks
    obtain⟨b,hv,hk⟩:=aa6.1 hb
    have:=(FN (P:=cx.P) (w:=w) ht hks x y hv (ev x) (ev y)).1
    exact lY i hk hkv ⟨_,by simp only [execOp,ho];exact lZ this,.p _ _ (.bool _)⟩
   ·cases hb
  ·rename_i fs ht
   split at hb
   ·rename_i ks hks
    obtain⟨b,hv,hk⟩:=aa6.1 hb
    have:=(FN (P:=cx.P) (w:=w) ht hks x y hv (ev x) (ev y)).2
    exact lY i hk hkv ⟨_,by simp only [execOp,ho];exact lZ this,.p _ _ (.bool _)⟩
   ·cases hb
  ·rename_i ht
   obtain⟨v,hv,hk⟩:=aa6.1 hb
   obtain⟨V,h1,h2⟩:=On (P:=cx.P) (w:=w) ht x y hv (ev x) (ev y)
   exact lY i hk hkv ⟨V,by simp only [execOp,ho];exact lZ h1,h2⟩
  ·rename_i ht
   obtain⟨v,hv,hk⟩:=aa6.1 hb
   obtain⟨V,h1,h2⟩:=Oo (P:=cx.P) (w:=w) ht x y hv (ev x) (ev y)
   exact lY i hk hkv ⟨V,by simp only [execOp,ho];exact lZ h1,h2⟩
  ·obtain⟨v,hv,hk⟩:=aa6.1 hb
   obtain⟨V,h1,h2⟩:=Hp (P:=cx.P) (w:=w) t x y hv (ev x) (ev y)
   exact lY i hk hkv ⟨V,by simp only [execOp,ho];exact lZ h1,h2⟩
  ·obtain⟨v,hv,hk⟩:=aa6.1 hb
   obtain⟨V,h1,h2⟩:=Hp (P:=cx.P) (w:=w) t x y hv (ev x) (ev y)
   exact lY i hk hkv ⟨V,by simp only [execOp,ho];exact lZ h1,h2⟩
  ·cases hb
 ·rename_i op t x ho
  obtain⟨v,hv,hk⟩:=aa6.1 hb
  obtain⟨V,h1,h2⟩:=Ur (P:=cx.P) (w:=w) hv (ev x)
  exact lY i hk hkv ⟨V,by simp only [execOp,ho];exact lZ h1,h2⟩
 ·rename_i sT dT x ho
  split at hb
  ·rename_i k0 k hs hd
   obtain⟨v,hv,hk⟩:=aa6.1 hb
   obtain⟨V,h1,h2⟩:=Hs (P:=cx.P) (w:=w) hs hd hv (ev x)
   exact lY i hk hkv ⟨V,by simp only [execOp,ho];exact lZ h1,h2⟩
  ·rename_i e hs hd
   split at hb
   ·rename_i hu
    obtain⟨v,hv,hk⟩:=aa6.1 hb
    have hv:yJ h (qF cx.A ρ x)=some v:=by
     cases hrb:cx.rb with
     | true=>rw [hrb] at hv;exact hv
     | false =>
      rw [hrb] at hv
      have hv:rM (qF cx.A ρ x)=some v:=hv
      unfold yJ
      split
      ·rename_i hx
       unfold rM at hv
       rw [hx] at hv;cases hv
      ·rename_i hx
       unfold rM at hv
       rw [hx] at hv;cases hv
      ·exact hv
    obtain⟨V,h1,h2⟩:=Jw (P:=cx.P) i hv (ev x)
    have hsl:∃q n c,a.eval x=Value.slice q n c:=by
     have hx:=ev x
     generalize qF cx.A ρ x=y at hv hx
     generalize a.eval x=Y at hx
     unfold yJ at hv
     split at hv
     ·obtain⟨b,cap,rfl,_⟩:=hx.s9
      exact⟨_,_,_,rfl⟩
     ·obtain⟨b,cap,rfl,_⟩:=hx.vZ
      exact⟨_,_,_,rfl⟩
     ·unfold rM at hv
      split at hv
      ·have hp:=hx.uB
       cases hp <;> exact⟨_,_,_,rfl⟩
      ·cases hv
    obtain⟨q,n,c,hq⟩:=hsl
    rw [hq] at h1
    exact lY i hk hkv ⟨V,by
     simp only [execOp,ho,hq]
     refine lZ ?_
     simp only [Go.convert,Sem.run_bind,run_underlying hs,run_underlying hd,run_underlying hu,Result.andThen_ok]
     exact h1,h2⟩
   ·cases hb
  ·cases hb
 ·rename_i t ho
  obtain⟨G',h1,h2,h3⟩:=i.alR
  exact pQ hb hkv ⟨.map (some w.heap.size),_,G',by simp only [execOp,ho];exact lZ (run_makeMap t w),h1,h2,h3⟩
 ·rename_i t l c ho
  split at hb
  ·rename_i e he
   have ht:cx.P.underlying t=some (.slice e):=by unfold FM at he;split at he <;> simp_all
   split at hb
   ·rename_i n by_ z hn hby hz
    cases hg:(n == 0 || z.nE || z.cells.length != n || !(z.cells.all kN.lS) || !(SV l c)) with
    | true=>simp only [hg,cond_true] at hb;cases hb
    | false =>
     simp only [hg,cond_false] at hb
     simp only [Bool.or_eq_false_iff,beq_eq_false_iff_ne,bne_eq_false_iff_eq,Bool.not_eq_false'] at hg
     obtain⟨⟨⟨⟨h0,hj⟩,hl⟩,hall⟩,hso⟩:=hg
     unfold kW at hb
     obtain⟨⟨p,h'⟩,hv,hk⟩:=aa6.1 hb
     obtain⟨k,k',m,e1,e2,e3⟩:∃k k' m,qF cx.A ρ l=.int k m∧a.eval l=.int k m∧a.eval c=.int k' m:=by
      have hx:=ev l
      have hm:∃k m,qF cx.A ρ l=.int k m:=by
       cases hvm:cx.vmk <;> rw [hvm] at hv <;> simp only [cond_true,cond_false] at hv
       ·unfold Ai at hv;cases hv
       ·unfold pI at hv
        split at hv
        ·rename_i k m he;exact⟨k,m,he⟩
        ·cases hv
      obtain⟨k,m,hm⟩:=hm
      rw [hm] at hx
      have hx:=hx.oN
      unfold SV at hso
      split at hso
      ·simp at hso;subst hso;exact⟨k,k,m,hm,hx,hx⟩
      ·rename_i k1 a1 k2 b1
       simp at hso;subst hso
       simp only [qF,ofConst,Bp,kN.int.injEq] at hm
       obtain⟨rfl,rfl⟩:=hm
       exact⟨_,_,_,rfl,rfl,rfl⟩
      ·cases hso
     obtain⟨V,w',G',h1,h2,h3,h4⟩:∃V w' G',(Instr.makeSlice t (a.eval l) (a.eval c)).run cx.P w=.ok V w'∧Inv G' h' w'∧Ext G h w G' h' w'∧k_ G' h' p V:=by
      cases hvm:cx.vmk <;> rw [hvm] at hv <;> simp only [cond_true,cond_false] at hv
      ·exact EG (P:=cx.P) i ht hn hby hz hj hl hall hv e1 e2 e3
      ·exact Dg (P:=cx.P) i ht hn hby hz h0 hj hl hall hv e1 e2 e3
     exact pQ hk hkv ⟨V,w',G',by simp only [execOp,ho];exact lZ h1,h2,h3,h4⟩
   ·cases hb
  ·cases hb
 ·rename_i t m k ok ho
  split at hb
  ·rename_i kt e ht
   split at hb
   ·rename_i d z hd hz
    cases hf:rT d (qF cx.A ρ k) with
    | false=>simp only [hf,cond_false] at hb;cases hb
    | true =>
     simp only [hf,cond_true] at hb
     obtain⟨v,hv,hk⟩:=aa6.1 hb
     obtain⟨V,h1,h2⟩:=JB (P:=cx.P) i ht hd hz hf hv (ev m) (ev k)
     exact lY i hk hkv ⟨V,by simp only [execOp,ho];exact lZ h1,h2⟩
   ·cases hb
  ·cases hb
 ·rename_i t m k x ho
  split at hb
  ·rename_i kt e ht
   split at hb
   ·rename_i d hd
    cases hf:rT d (qF cx.A ρ k) with
    | false=>simp only [hf,cond_false] at hb;cases hb
    | true =>
     simp only [hf,cond_true] at hb
     obtain⟨h',hv,hk⟩:=aa6.1 hb
     obtain⟨w',h1,h2,h3⟩:=JE (P:=cx.P) i ht hd hf hv (ev m) (ev k) (ev x)
     exact Jn (by simp only [execOp,ho];exact Il h1) (hkv _ _ G w' _ hk h3 h2 .undef)
   ·cases hb
  ·cases hb
 ·rename_i t x ho
  split at hb
  ·cases hb
  ·rename_i d hne hd
   refine lY i hb hkv ⟨.iface t (a.eval x),?_,.iface _ _ _ (ev x)⟩
   have:(Instr.makeInterface t (a.eval x)).run cx.P w=.ok (.iface t (a.eval x)) w:=by
    unfold Instr.makeInterface
    simp only [Sem.run_bind,run_underlying hd,Result.andThen_ok]
    cases d <;> first | (exact absurd rfl (hne _);done) | simp [Sem.run_pure]
   simp only [execOp,ho];exact lZ this
  ·cases hb
 ·rename_i f first cap ho
  refine lY i hb hkv ⟨.func (.func f) (first.map a.eval) (cap.map a.eval),by simp only [execOp,ho];exact lZ (by simp only [Instr.makeFunc,Sem.run_pure]),.func f _ _ _ _ (by simp) (by simp) ?_ ?_⟩
  ·intro j u hu
   simp only [ah3,ad2,ah1] at hu
   obtain⟨x,hx,rfl⟩:=hu
   have:(first.map a.eval).getD j undef=a.eval x:=by simp [ad1,hx]
   rw [this];exact ev x
  ·intro j u hu
   simp only [ah3,ad2,ah1] at hu
   obtain⟨x,hx,rfl⟩:=hu
   have:(cap.map a.eval).getD j undef=a.eval x:=by simp [ad1,hx]
   rw [this];exact ev x
 ·rename_i t x lo hi ho
  obtain⟨l1,l2⟩:=WM (G:=G) (h:=h) ev lo
  obtain⟨h1,h2⟩:=WM (G:=G) (h:=h) ev hi
  split at hb
  ·rename_i ht
   obtain⟨v,hv,hk⟩:=aa6.1 hb
   obtain⟨V,e1,e2⟩:=F_ (P:=cx.P) (w:=w) l1 l2 h1 h2 ht hv (ev x)
   exact lY i hk hkv ⟨V,by simp only [execOp,ho];exact lZ e1,e2⟩
  ·rename_i e ht
   split at hb
   ·rename_i n hn
    obtain⟨v,hv,hk⟩:=aa6.1 hb
    obtain⟨V,e1,e2⟩:=HD (P:=cx.P) (w:=w) l1 l2 h1 h2 ht hn hv (ev x)
    exact lY i hk hkv ⟨V,by simp only [execOp,ho];exact lZ e1,e2⟩
   ·cases hb
  ·rename_i len e ht
   split at hb
   ·rename_i n hn
    obtain⟨v,hv,hk⟩:=aa6.1 hb
    obtain⟨V,e1,e2⟩:=F9 (P:=cx.P) (w:=w) l1 l2 h1 h2 ht hn hv (ev x)
    exact lY i hk hkv ⟨V,by simp only [execOp,ho];exact lZ e1,e2⟩
   ·cases hb
  ·cases hb
 ·rename_i t x f ho
  split at hb
  ·rename_i fs ht
   split at hb
   ·rename_i fd hf
    split at hb
    ·rename_i n hn
     obtain⟨v,hv,hk⟩:=aa6.1 hb
     obtain⟨V,e1,e2⟩:=Hw (P:=cx.P) (w:=w) ht hf hn hv (ev x)
     exact lY i hk hkv ⟨V,by simp only [execOp,ho];exact lZ e1,e2⟩
    ·cases hb
   ·cases hb
  ·cases hb
 ·rename_i t x f ho
  split at hb
  ·rename_i fs ht
   split at hb
   ·rename_i fd hf
    split at hb
    ·rename_i g n hg hn
     obtain⟨v,hv,hk⟩:=aa6.1 hb
     obtain⟨V,e1,e2⟩:=KY (P:=cx.P) (w:=w) (ft:=fd.type) ht hf hg hn hv (ev x)
     exact lY i hk hkv ⟨V,by simp only [execOp,ho];exact lZ e1,e2⟩
    ·cases hb
   ·cases hb
  ·cases hb
 ·rename_i t x ix ho
  split at hb
  ·rename_i e ht
   split at hb
   ·rename_i n hn
    obtain⟨v,hv,hk⟩:=aa6.1 hb
    obtain⟨V,e1,e2⟩:=HB (P:=cx.P) (w:=w) ht hn hv (ev x) (ev ix)
    exact lY i hk hkv ⟨V,by simp only [execOp,ho];exact lZ e1,e2⟩
   ·cases hb
  ·rename_i len e ht
   split at hb
   ·rename_i n hn
    obtain⟨v,hv,hk⟩:=aa6.1 hb
    obtain⟨V,e1,e2⟩:=HA (P:=cx.P) (w:=w) ht hn hv (ev x) (ev ix)
    exact lY i hk hkv ⟨V,by simp only [execOp,ho];exact lZ e1,e2⟩
   ·cases hb
  ·cases hb
 ·rename_i t x ix ho
  split at hb
  ·rename_i ht
   obtain⟨v,hv,hk⟩:=aa6.1 hb
   obtain⟨V,e1,e2⟩:=F8 (P:=cx.P) (w:=w) ht hv (ev x) (ev ix)
   exact lY i hk hkv ⟨V,by simp only [execOp,ho];exact lZ e1,e2⟩
  ·rename_i len e ht
   split at hb
   ·rename_i g n hg hn
    obtain⟨v,hv,hk⟩:=aa6.1 hb
    obtain⟨V,e1,e2⟩:=F7 (P:=cx.P) (w:=w) ht hg hn hv (ev x) (ev ix)
    exact lY i hk hkv ⟨V,by simp only [execOp,ho];exact lZ e1,e2⟩
   ·cases hb
  ·cases hb
 ·rename_i x ix ho
  obtain⟨v,hv,hk⟩:=aa6.1 hb
  obtain⟨V,e1,e2⟩:=Hu (P:=cx.P) (w:=w) hv (ev x)
  exact lY i hk hkv ⟨V,by simp only [execOp,ho];exact lZ e1,e2⟩
 ·rename_i x xt t ho
  split at hb
  ·cases hb
  ·rename_i td hni ht
   split at hb
   ·rename_i z hz
    obtain⟨v,hv,hk⟩:=aa6.1 hb
    obtain⟨Z,hz1,hz2⟩:=sV (P:=cx.P) (w:=w) (G:=G) (h:=h) hz
    have hx:=ev x
    have run:∀X,a.eval x=X→(execOp a.eval o).run cx.P w=(do pure (Next.value (←Instr.typeAssert X xt t true)):Sem Next).run cx.P w:=by
     intro X hX;simp only [execOp,ho,hX]
    unfold wQ at hv
    split at hv
    ·rename_i t' u hu
     simp only [aa9] at hv
     rw [hu] at hx
     obtain⟨W,h1,h2⟩:=hx.zZ
     have UW:(Instr.typeAssert (.iface t' W) xt t true).run cx.P w=if t'=t then .ok (.tuple #[W,.bool true]) w else .ok (.tuple #[Z,.bool false]) w:=by
      cases td <;> first | exact(hni _ rfl).elim | (by_cases htt:t'=t <;> simp [Instr.typeAssert,run_underlying ht,Sem.run_pure,htt,hz1])
     by_cases htt:t'=t
     ·have e:(t' == t)=true:=by simpa using htt
      rw [e] at hv
      simp only [cond_true] at hv
      subst hv
      refine lY i hk hkv ⟨.tuple #[W,.bool true],by rw [run _ h1];exact lZ (by rw [UW,if_pos htt]),.tuple _ _ rfl fun j c hc=>?_⟩
      match j with
      | 0=>simp at hc;subst hc;exact h2
      | 1=>simp at hc;subst hc;exact .p _ _ (.bool true)
      | j+2=>simp at hc
     ·have e:(t' == t)=false:=by simpa using htt
      rw [e] at hv
      simp only [cond_false] at hv
      subst hv
      refine lY i hk hkv ⟨.tuple #[Z,.bool false],by rw [run _ h1];exact lZ (by rw [UW,if_neg htt]),.tuple _ _ rfl fun j c hc=>?_⟩
      match j with
      | 0=>simp at hc;subst hc;exact hz2
      | 1=>simp at hc;subst hc;exact .p _ _ (.bool false)
      | j+2=>simp at hc
    ·rename_i hu
     simp only [aa9] at hv
     rw [hu] at hx
     have h1:a.eval x=.nilIface:=by
      generalize a.eval x=X at hx
      cases hx with
      | p _ _ hp=>cases hp;rfl
     have UW:(Instr.typeAssert .nilIface xt t true).run cx.P w=.ok (.tuple #[Z,.bool false]) w:=by
      cases td <;> first | exact(hni _ rfl).elim | simp [Instr.typeAssert,run_underlying ht,Sem.run_pure,hz1]
     subst hv
     refine lY i hk hkv ⟨.tuple #[Z,.bool false],by rw [run _ h1];exact lZ UW,.tuple _ _ rfl fun j c hc=>?_⟩
     match j with
     | 0=>simp at hc;subst hc;exact hz2
     | 1=>simp at hc;subst hc;exact .p _ _ (.bool false)
     | j+2=>simp at hc
    ·cases hv
   ·cases hb
  ·cases hb
 ·rename_i x ho
  unfold Aj at hb
  split at hb
  ·rename_i t v hv
   have hx:=ev x
   rw [hv] at hx
   obtain⟨W,h1,h2⟩:=hx.zZ
   have hrun:(execOp a.eval o).run cx.P w=.halt (.panic (.iface t W)) w:=by
    simp only [execOp,ho,h1,Instr.panic]
    rfl
   unfold Oper.wp
   rw [hrun]
   exact hkp _ _ G w _ hb (Ext.refl G h w) i (.iface _ _ _ h2)
  ·cases hb
 ·rename_i c ho
  split at hb
  ·rename_i b hcal
   exact JI ho hcal hb i ev hkv
  ·rename_i f hcal
   obtain⟨⟨g,fi,ca⟩,hv,hk⟩:=aa6.1 hb
   have hf:=ev f
   unfold uO at hv
   split at hv <;> simp only [aa9,ap2,reduceCtorEq] at hv
   rename_i g' fi' ca' hfv
   obtain⟨rfl,rfl,rfl⟩:=hv
   rw [hfv] at hf
   obtain⟨F,C,hF,hlf,hlc,hrf,hrc⟩:=hf.Dr
   simp only [] at hk
   unfold lW at hk
   obtain⟨⟨res,h'⟩,hcall,hk⟩:=aa6.1 hk
   have hargs0:xW G h (fi'++c.args.toList.map (qF cx.A ρ)++ca') (F++c.args.map a.eval++C):=by
    refine⟨by simp [hlf,hlc],fun j u hu=>?_⟩
    rw [ad1]
    by_cases h1:j<fi'.length
    ·rw [List.append_assoc,ah6 h1] at hu
     rw [Array.append_assoc,aq0 (by omega)]
     have:=hrf j u hu
     rwa [ad1] at this
    ·by_cases h2:j<fi'.length+c.args.size
     ·rw [List.append_assoc,af7 (by omega),ah6 (by simp;omega)] at hu
      rw [Array.append_assoc,Array.getElem?_append_right (by omega),aq0 (by simp;omega)]
      simp only [ah3,ad2,ah1] at hu
      obtain⟨x,hx,rfl⟩:=hu
      rw [←hlf]
      simp only [Array.getElem?_map,hx,Option.map_some,Option.getD_some]
      exact ev x
     ·rw [af7 (by simp;omega)] at hu
      rw [Array.getElem?_append_right (by simp;omega)]
      have:=hrc _ u hu
      rw [ad1] at this
      simpa [hlf] using this
   have hargs:xW G h (tY cx.A g' (fi'++c.args.toList.map (qF cx.A ρ)++ca')) (F++c.args.map a.eval++C):=by
    unfold tY
    cases cx.A.grow g' with
    | true=>exact hargs0
    | false =>
     refine⟨by simpa using hargs0.1,fun j u hu=>?_⟩
     simp only [cond_false,ah3,ad2] at hu
     obtain⟨x,hx,rfl⟩:=hu
     exact Ae (hargs0.2 j x hx)
   cases hext:cx.A.ext g' with
   | some ek =>
   simp only [wR,hext] at hcall
   obtain⟨v,V,hr,hrun,hV⟩:=HS hX hext hcall hargs.1 hargs.2 (w:=w)
   cases hr
   have hrun':(execOp a.eval o).run cx.P w=.ok (.value V) w:=by
    simp only [execOp,ho,resolve,hcal,hF,Deferred.ofValue,Sem.run_bind,Sem.run_pure,Result.andThen_ok,invoke]
    exact hrun
   exact Jo hrun' (hkv v h G w V hk (Ext.refl G h w) i hV)
   | none =>
   simp only [wR,hext] at hcall
   obtain⟨henter,hcalls⟩:=hK _ _ _ _ _ hcall G w _ i gl hargs
   have hrun:(execOp a.eval o).run cx.P w=.ok (.enter g' (F++c.args.map a.eval++C)) w:=by
    simp only [execOp,ho,resolve,hcal,hF,Deferred.ofValue,Sem.run_bind,Sem.run_pure,Result.andThen_ok,invoke]
    exact henter w
   unfold Oper.wp
   rw [hrun]
   refine Calls.mono hcalls fun e w' hpost=>?_
   obtain⟨G',x',i',hres⟩:=hpost
   cases res with
   | ret v =>
    obtain⟨V,rfl,hV⟩:=hres
    exact hkv v h' G' w' V hk x' i' hV
   | pan v =>
    obtain⟨V,rfl,hV⟩:=hres
    exact hkp v h' G' w' V hk x' i' hV
  ·rename_i f name hcal
   obtain⟨⟨g',w0⟩,hv,hk⟩:=aa6.1 hb
   have hf:=ev f
   unfold KZ at hv
   split at hv <;> simp only [ad2,ap2,reduceCtorEq] at hv
   rename_i t w1 hfv
   obtain⟨g2,hm,rfl,rfl⟩:=hv
   rw [hfv] at hf
   obtain⟨W,hF,hW⟩:=hf.zZ
   simp only [] at hk
   unfold lW at hk
   obtain⟨⟨res,h'⟩,hcall,hk⟩:=aa6.1 hk
   have hargs0:xW G h (w1::c.args.toList.map (qF cx.A ρ)) (#[W]++c.args.map a.eval):=by
    refine⟨by simp;omega,fun j u hu=>?_⟩
    cases j with
    | zero =>
     simp only [List.getElem?_cons_zero,aa9] at hu
     subst hu
     have e0:(#[W]++c.args.map a.eval)[0]?=some W:=by rw [aq0 (by simp)];rfl
     rw [ad1,e0]
     exact hW
    | succ j =>
     simp only [List.getElem?_cons_succ,ah3,ad2,ah1] at hu
     obtain⟨x,hx,rfl⟩:=hu
     rw [ad1,Array.getElem?_append_right (by simp)]
     simp only [Array.size_singleton,Nat.add_sub_cancel,Array.getElem?_map,hx,Option.map_some,Option.getD_some]
     exact ev x
   have hargs:xW G h (tY cx.A g2 (w1::c.args.toList.map (qF cx.A ρ))) (#[W]++c.args.map a.eval):=by
    unfold tY
    cases cx.A.grow g2 with
    | true=>exact hargs0
    | false =>
     refine⟨by have:=hargs0.1;simpa using this,fun j u hu=>?_⟩
     simp only [cond_false,ah3,ad2] at hu
     obtain⟨x,hx,rfl⟩:=hu
     exact Ae (hargs0.2 j x hx)
   have hrunE:(execOp a.eval o).run cx.P w=(callFunc g2 (#[W]++c.args.map a.eval)).run cx.P w:=by
    have h0:(#[Value.iface t W]++c.args.map a.eval)[0]?=some (Value.iface t W):=by rw [aq0 (by simp)];rfl
    have h1:(#[Value.iface t W]++c.args.map a.eval).extract 1 (#[Value.iface t W]++c.args.map a.eval).size=c.args.map a.eval:=by
     apply Array.toList_inj.1
     rw [Array.toList_extract]
     have:c.args.size=(List.map a.eval c.args.toList).length:=by simp
     simp [List.extract,this,-List.length_map,List.take_length]
    simp only [execOp,ho,resolve,hcal,Sem.run_bind,Sem.run_pure,Result.andThen_ok,invoke,hF]
    rw [h0,h1]
    simp only [callMethod,Sem.run_bind,run_program,Result.andThen_ok,Up hm]
   cases hext:cx.A.ext g2 with
   | some ek =>
    simp only [wR,hext] at hcall
    obtain⟨v,V,hr,hrun,hV⟩:=HS hX hext hcall hargs.1 hargs.2 (w:=w)
    cases hr
    exact Jo (hrunE.trans hrun) (hkv v h G w V hk (Ext.refl G h w) i hV)
   | none =>
    simp only [wR,hext] at hcall
    obtain⟨henter,hcalls⟩:=hK _ _ _ _ _ hcall G w _ i gl hargs
    have hrun:=hrunE.trans (henter w)
    unfold Oper.wp
    rw [hrun]
    refine Calls.mono hcalls fun e w' hpost=>?_
    obtain⟨G',x',i',hres⟩:=hpost
    cases res with
    | ret v =>
     obtain⟨V,rfl,hV⟩:=hres
     exact hkv v h' G' w' V hk x' i' hV
    | pan v =>
     obtain⟨V,rfl,hV⟩:=hres
     exact hkp v h' G' w' V hk x' i' hV
 ·cases hb
end
end
noncomputable section
open Go Go.RowKit
section
variable {cx:Cx}{o:Oper}{ρ:List kN}{h:kO}{kv kp:kN→kO→Option R}{r:R}{ids:List Nat}{ops:List Oper}
theorem vX {rsv:Option Nat}:evalOp cx o rsv ρ h kv kp=(evalOp cx o rsv ρ h lI Gg).bind (sY kv kp):=by
 unfold evalOp
 generalize qF cx.A ρ=v
 have B:∀(e:Option kN),(e.bind fun w=>kv w h)=(e.bind fun w=>lI w h).bind (sY kv kp):=by intro e;cases e <;> rfl
 have BV:∀(e:Option (kN×kO)),kW e kv=(kW e lI).bind (sY kv kp):=by intro e;cases e <;> rfl
 have BR:∀(e:Option (mR×kO)),lW e kv kp=(lW e lI Gg).bind (sY kv kp):=by
  intro e
  cases e with
  | none=>rfl
  | some e=>obtain⟨r,h⟩:=e;cases r <;> rfl
 have BH:∀(e:Option kO),(e.bind fun h'=>kv (.tuple []) h')=(e.bind fun h'=>lI (.tuple []) h').bind (sY kv kp):=by intro e;cases e <;> rfl
 have BB:∀(e:Option Bool) (f:Bool→kN),(e.bind fun b=>kv (f b) h)=(e.bind fun b=>lI (f b) h).bind (sY kv kp):=by intro e f;cases e <;> rfl
 have C:∀(b:Bool) (x y:Option R),x=y.bind (sY kv kp)→(bif b then none else x)=(bif b then none else y).bind (sY kv kp):=by intro b x y hxy;cases b <;> simp [hxy]
 have D:∀(b:Bool) (x y:Option R),x=y.bind (sY kv kp)→(bif b then x else none)=(bif b then y else none).bind (sY kv kp):=by intro b x y hxy;cases b <;> simp [hxy]
 have EE:∀(b:Bool) (x y x0 y0:Option R),x=x0.bind (sY kv kp)→y=y0.bind (sY kv kp)→(bif b then x else y)=(bif b then x0 else y0).bind (sY kv kp):=by intro b x y x0 y0 h1 h2;cases b <;> simp [h1,h2]
 have bu:∀(b:Builtin) (ts:List TypeId) (args:List kN),qB cx b ts args h kv=(qB cx b ts args h lI).bind (sY kv kp):=by
  intro b ts args
  unfold qB
  repeat' split
  all_goals first
   | rfl
   | exact B _
   | exact BV _
   | exact BH _
   | exact D _ _ _ (BH _)
   | exact C _ _ _ (BH _)
   | (refine EE _ _ _ _ _ ?_ ?_ <;> first | rfl | exact C _ _ _ (BV _))
   | (refine C _ _ _ ?_;(repeat' split) <;> first | rfl | (refine C _ _ _ ?_;exact BV _))
 have PA:∀(x:kN),Aj x h kp=(Aj x h Gg).bind (sY kv kp):=by intro x;cases x <;> rfl
 unfold mU
 cases ho:o.op with
 | panic x=>exact PA _
 | call c =>
  simp only []
  cases c.callee with
  | builtin b=>exact bu _ _ _
  | value f =>
   simp only []
   cases uO (v f) with
   | none=>rfl
   | some g=>exact BR _
  | invoke x name =>
   simp only []
   cases KZ cx.P name (v x) with
   | none=>rfl
   | some g=>exact BR _
 | assign x =>
  simp only []
  cases hn:z9 x with
  | true=>rfl
  | false=>rfl
 | load t x =>
  simp only []
  split
  ·rename_i g n hg hn
   cases EF cx.tb g n h (v x) with
   | none=>rfl
   | some w =>
    simp only [aq5]
    cases cx.rb&&cx.frl with
    | false=>rfl
    | true=>exact BV _
  ·rfl
 | store t p x =>
  simp only []
  split
  ·cases cx.frz with
   | false=>exact BH _
   | true =>
    simp only [cond_true]
    cases BN h (v x) with
    | none=>rfl
    | some y=>exact BH _
  ·rfl
 | makeFunc b f c=>cases b <;> rfl
 | makeMap t r=>cases r <;> rfl
 | typeAssert x xt t ok =>
  cases ok with
  | false=>rfl
  | true =>
   simp only []
   repeat' split
   all_goals first
    | rfl
    | exact B _
 | slice t x lo hi mx =>
  cases mx with
  | some _=>rfl
  | none =>
   simp only []
   repeat' split
   all_goals first
    | rfl
    | exact B _
 | _ =>
  simp only []
  repeat' split
  all_goals first
   | rfl
   | exact B _
   | exact BV _
   | exact BH _
   | exact BB _ _
   | (refine C _ _ _ ?_;first | exact B _ | exact BV _ | (split <;> exact BV _))
   | exact D _ _ _ (B _)
   | exact D _ _ _ (BH _)
theorem OI {f:R→Option R}{x:Option R}{h h':kO}:∀{ids:List Nat},(Kj ids h h' x).bind f=Kj ids h h' (x.bind f)
 | []=>rfl
 | id::r=>by
  unfold Kj
  split
  ·exact OI
  ·rfl
theorem Dn {r:R}{x:Option R}{h h':kO}:∀{ids:List Nat},Kj ids h h' x=some r↔(∀id∈ids,∀b,h[id]?=some b→h'[id]?=some b)∧x=some r
 | []=>by simp [Kj]
 | id::l=>by
  unfold Kj
  split
  ·rename_i hc
   rw [Dn]
   constructor
   ·intro ⟨a,b⟩
    refine⟨fun i hi=>?_,b⟩
    rcases List.mem_cons.1 hi with rfl | hi
    ·exact hc
    ·exact a i hi
   ·intro ⟨a,b⟩
    exact⟨fun i hi=>a i (List.mem_cons_of_mem _ hi),b⟩
  ·rename_i hc
   constructor
   ·intro e;cases e
   ·intro ⟨a,b⟩
    exact absurd (a id (List.mem_cons_self ..)) hc
theorem Zi {ids:List Nat}{h:kO}{kv kp:kN→kO→Option R}(r:R) :
  sY (fun v h'=>Kj ids h h' (kv v h')) kp r=(sY (fun v h'=>Kj ids h h' (lI v h')) Gg r).bind (sY kv kp):=by
 obtain⟨e,l,h⟩:=r
 cases e with
 | normal =>
  match l with
  | []=>rfl
  | [v]=>exact(OI (x:=lI v h) (f:=sY kv kp)).symm
  | _::_::_=>rfl
 | _=>rfl
theorem HP:mP cx o ids ρ h kv kp=(mP cx o ids ρ h lI Gg).bind (sY kv kp):=by
 unfold mP
 cases cx.ck with
 | true =>
  simp only [cond_true]
  rw [vX (kv:=fun v h'=>Kj ids h h' (kv v h')),vX (kv:=fun v h'=>Kj ids h h' (lI v h')),Option.bind_assoc]
  refine congrArg (Option.bind _) ?_
  funext r
  exact Zi r
 | false =>
 simp only [cond_false]
 rw [vX (kv:=fun v h'=>kv v (lO ids h h')),vX (kv:=fun v h'=>lI v (lO ids h h')),Option.bind_assoc]
 refine congrArg (Option.bind _) ?_
 funext r
 obtain⟨e,l,h⟩:=r
 cases e with
 | normal =>
  match l with
  | []=>rfl
  | [v]=>rfl
  | _::_::_=>rfl
 | _=>rfl
def xT (cx:Cx) (ops:List Oper) (o:Oper) (ids:List Nat) (ρ:List kN) (h:kO) (kv:kN→kO→Option R) (kp:kN→kO→Option R):Option R :=
 match o.guard with
 | none=>mP cx o ids ρ h kv kp
 | some (j,want)=>match (ops[j]?).bind (·.dst) with
  | some d=>match ρ.getD d .junk with
   | .bool g=>bif want then(bif g then mP cx o ids ρ h kv kp else kv (.tuple []) h) else(bif g then kv (.tuple []) h else mP cx o ids ρ h kv kp)
   | .tuple []=>kv (.tuple []) h
   | _=>none
  | none=>none
theorem yL:sN cx ops o ids ρ h kv kp=xT cx ops o ids ρ h kv kp:=by
 unfold sN xT
 cases o.guard with
 | none=>rfl
 | some jw =>
  obtain⟨j,want⟩:=jw
  simp only []
  cases (ops[j]?).bind (·.dst) with
  | none=>rfl
  | some d =>
   dsimp only
   generalize ρ.getD d .junk=x
   cases x with
   | bool g=>cases want <;> cases g <;> first | rfl | exact HP.symm
   | tuple vs=>cases vs <;> rfl
   | _=>rfl
end
end
section
open Go Go.RowKit
section
variable {cx:Cx}{o:Oper}{ρ ρ':List kN}{h h':kO}{kv kp:kN→kO→Option R}{r:R}{ids:List Nat}{ops:List Oper}
theorem Sp {t:Tmp}:t∈wA o↔Operand.tmp t∈o.op.operands:=by
 unfold wA
 simp only [List.mem_filterMap,Array.mem_toList_iff]
 constructor
 ·rintro⟨x,hx,he⟩
  cases x <;> simp at he
  subst he;exact hx
 ·intro hx;exact⟨_,hx,rfl⟩
theorem HF {A:xS}(hag:∀t∈wA o,ρ'.getD t .junk=ρ.getD t .junk) {x:Operand}(hx:x∈o.op.operands):qF A ρ' x=qF A ρ x:=by
 cases x with
 | tmp t=>exact hag t (Sp.2 hx)
 | _=>rfl
theorem Ap {rsv:Option Nat}(hag:∀t∈wA o,ρ'.getD t .junk=ρ.getD t .junk):evalOp cx o rsv ρ' h kv kp=evalOp cx o rsv ρ h kv kp:=by
 have ev:∀x∈o.op.operands,qF cx.A ρ' x=qF cx.A ρ x:=fun x hx=>HF hag hx
 unfold evalOp
 generalize qF cx.A ρ'=v' at *
 generalize qF cx.A ρ=v at *
 clear hag
 have mapP:∀(parts:Array (Nat×Operand)),(∀p∈parts,p.2∈o.op.operands)→(parts.toList.map fun p=>(p.1,v' p.2))=parts.toList.map fun p=>(p.1,v p.2):=by
  intro parts hp
  refine List.map_congr_left fun p hm=>?_
  rw [ev p.2 (hp p (by simpa using hm))]
 have mapA:∀(xs:Array Operand),(∀x∈xs,x∈o.op.operands)→xs.toList.map v'=xs.toList.map v:=by
  intro xs hp
  exact List.map_congr_left fun p hm=>ev p (hp p (by simpa using hm))
 unfold mU
 cases ho:o.op with
 | call c =>
  simp only [ho,Op.operands,Call.operands] at ev mapA
  cases hc:c.callee with
  | builtin b=>simp only [hc] at ev mapA ⊢;rw [mapA c.args (by simp)]
  | value f=>simp only [hc] at ev mapA ⊢;rw [mapA c.args (by intro x hx;simp [hx]),ev f (by simp)]
  | invoke f name=>simp only [hc] at ev mapA ⊢;rw [mapA c.args (by intro x hx;simp [hx]),ev f (by simp)]
 | build t parts=>simp only [ho,Op.operands] at mapP ⊢;rw [mapP parts (by intro p hp;simp;exact⟨_,hp⟩)]
 | buildSlice t len parts=>simp only [ho,Op.operands] at mapP ⊢;rw [mapP parts (by intro p hp;simp;exact⟨_,hp⟩)]
 | slice t x lo hi mx =>
  have e1:=ev x (by simp [ho,Op.operands])
  have e2:lo.map v'=lo.map v:=by cases lo with | none=>rfl | some l=>simp [ev l (by simp [ho,Op.operands])]
  have e3:hi.map v'=hi.map v:=by cases hi with | none=>rfl | some l=>simp [ev l (by simp [ho,Op.operands])]
  cases mx with
  | none=>simp only [e1,e2,e3]
  | some m=>rfl
 | makeMap t hint=>cases hint <;> rfl
 | typeAssert x xt t ok =>
  cases ok with
  | false=>rfl
  | true=>simp only [ho,Op.operands] at ev ⊢;rw [ev x (by simp)]
 | makeFunc b first cap =>
  simp only [ho,Op.operands] at mapA
  cases b <;> first | rfl | simp only [mapA cap (by intro x hx;simp [hx]),mapA first (by intro x hx;simp [hx])]
 | _=>simp only [ho,Op.operands] at ev ⊢ <;> simp_all
def pJ (h:kO) (id:Nat):Prop:=(∃cs,h[id]?=some (.cells cs))∨(∃es,h[id]?=some (.map es))∨(∃tot sz cs,h[id]?=some (.vec tot sz cs))∨∃t cs,h[id]?=some (.tcells t cs)
def wD (cx:Cx) (o:Oper) (ρ:List kN):Option Nat:=(uF o).bind fun x=>A7 (qF cx.A ρ x)
theorem VF {g:Bool}{n:Nat}{x v:kN}(hv:kY g n h x=some v) (h2:kO) (ha:∀id,A7 x=some id→pJ h id→h2[id]?=h[id]?):kY g n h2 x=some v:=by
 cases x with
 | pptr cs=>exact hv
 | ptr id off =>
  simp only [kY] at hv ⊢
  have:pM h2 id=pM h id:=by
   unfold pM
   cases hb:h[id]? with
   | none=>simp [pM,hb] at hv
   | some bl=>cases bl with
    | cells cs=>rw [ha id rfl (.inl ⟨cs,hb⟩),hb]
    | _=>simp [pM,hb] at hv
  rw [this];exact hv
 | vptr id tot off =>
  simp only [kY] at hv ⊢
  have:n6 h2 id tot=n6 h id tot:=by
   unfold n6
   cases hb:h[id]? with
   | none=>simp [n6,hb] at hv
   | some bl=>cases bl with
    | vec t s cs=>rw [ha id rfl (.inr (.inr (.inl ⟨t,s,cs,hb⟩))),hb]
    | _=>simp [n6,hb] at hv
  rw [this];exact hv
 | _=>simp [kY] at hv
theorem Un {tb g:Bool}{n:Nat}{x v:kN}(hv:EF tb g n h x=some v) (h2:kO) (ha:∀id,A7 x=some id→pJ h id→h2[id]?=h[id]?):EF tb g n h2 x=some v:=by
 cases tb with
 | false=>exact VF hv h2 ha
 | true =>
  simp only [EF,cond_true,K4] at hv;cases hv
theorem OX (hrb:cx.rb=false) (he:oV o=false) (hb:evalOp cx o none ρ h kv kp=some r) :
  ∃v,kv v h=some r∧∀(h2:kO) (kv2 kp2:kN→kO→Option R),(∀id,wD cx o ρ=some id→pJ h id→h2[id]?=h[id]?)→evalOp cx o none ρ h2 kv2 kp2=kv2 v h2:=by
 have key:∀{e:Option kN},(e.bind fun w=>kv w h)=some r→(∀h2 kv2 kp2,evalOp cx o none ρ h2 kv2 kp2=e.bind fun w=>kv2 w h2) →
   ∃v,kv v h=some r∧∀(h2:kO) (kv2 kp2:kN→kO→Option R),(∀id,wD cx o ρ=some id→pJ h id→h2[id]?=h[id]?)→evalOp cx o none ρ h2 kv2 kp2=kv2 v h2:=by
  intro e h1 h2
  obtain⟨v,hv,hk⟩:=aa6.1 h1
  exact⟨v,hk,fun a b c _=>by rw [h2,hv];rfl⟩
 have key0:∀{v:kN},kv v h=some r→(∀h2 kv2 kp2,evalOp cx o none ρ h2 kv2 kp2=kv2 v h2) →
   ∃v,kv v h=some r∧∀(h2:kO) (kv2 kp2:kN→kO→Option R),(∀id,wD cx o ρ=some id→pJ h id→h2[id]?=h[id]?)→evalOp cx o none ρ h2 kv2 kp2=kv2 v h2 :=
  fun h1 h2=>⟨_,h1,fun a b c _=>h2 a b c⟩
 unfold evalOp mU at hb
 cases ho:o.op with
 | load t a =>
  simp only [ho] at hb
  split at hb
  ·rename_i g n hg hn
   obtain⟨v,hv,hk⟩:=aa6.1 hb
   rw [hrb,Bool.false_and,cond_false] at hk
   refine⟨v,hk,fun h2 kv2 kp2 ha=>?_⟩
   have:=Un hv h2 fun id hid hblk=>ha id (by simp [wD,uF,ho,hid]) hblk
   simp only [evalOp,mU,ho,hg,hn,this,aq5,hrb,Bool.false_and,cond_false]
  ·cases hb
 | lookup t m k ok =>
  simp only [ho] at hb
  split at hb
  ·rename_i kt e hu
   split at hb
   ·rename_i d z hd hz
    cases hf:rT d (qF cx.A ρ k) with
    | false=>rw [hf] at hb;cases hb
    | true =>
     rw [hf] at hb
     cases hb
   ·cases hb
  ·cases hb
 | call c =>
  simp only [oV,ho] at he
  simp only [ho] at hb
  cases hc:c.callee with
  | builtin b =>
   simp only [hc] at hb he
   unfold qB at hb
   split at hb
   ·rename_i t x hT hA
    split at hb
    ·rename_i ht;exact key0 hb fun _ _ _=>by simp only [evalOp,mU,ho,hc,qB,hT,hA,ht]
    ·rename_i ht;exact key hb fun _ _ _=>by simp only [evalOp,mU,ho,hc,qB,hT,hA,ht]
    ·rename_i ht;exact key hb fun _ _ _=>by simp only [evalOp,mU,ho,hc,qB,hT,hA,ht]
    ·cases hb
   ·rename_i hA;exact key hb fun _ _ _=>by simp only [evalOp,mU,ho,hc,qB,hA]
   ·rename_i hA;exact key hb fun _ _ _=>by simp only [evalOp,mU,ho,hc,qB,hA]
   ·rename_i hA;exact key hb fun _ _ _=>by simp only [evalOp,mU,ho,hc,qB,hA]
   ·rename_i hA;exact key hb fun _ _ _=>by simp only [evalOp,mU,ho,hc,qB,hA]
   ·simp at he
   ·simp at he
   ·simp at he
   ·simp at he
   ·cases hb
  | value f=>simp [hc] at he
  | _=>simp [hc] at he
 | binOp op t x y yt =>
  simp only [ho] at hb
  split at hb
  ·rename_i fs hu
   split at hb
   ·rename_i ks hks
    obtain⟨v,hv,hk⟩:=aa6.1 hb
    exact⟨_,hk,fun a b c _=>by simp [evalOp,mU,ho,hu,hks,hv]⟩
   ·cases hb
  ·rename_i fs hu
   split at hb
   ·rename_i ks hks
    obtain⟨v,hv,hk⟩:=aa6.1 hb
    exact⟨_,hk,fun a b c _=>by simp [evalOp,mU,ho,hu,hks,hv]⟩
   ·cases hb
  all_goals first
   | exact key hb fun _ _ _=>by simp [evalOp,mU, *]
   | cases hb
 | assign x =>
  simp only [ho,oV] at he hb
  simp only [he,cond_false] at hb
  exact key0 hb fun _ _ _=>by simp only [evalOp,mU,ho,he,cond_false]
 | makeInterface t x =>
  simp only [ho] at hb
  split at hb
  ·cases hb
  ·exact key0 hb fun _ _ _=>by simp [evalOp,mU, *]
  ·cases hb
 | makeFunc b first cap =>
  cases b <;> simp only [ho] at hb <;> first
   | exact key0 hb fun _ _ _=>by simp only [evalOp,mU,ho]
   | cases hb
 | slice t x lo hi mx =>
  cases mx with
  | some m=>simp only [ho] at hb;cases hb
  | none =>
   simp only [ho] at hb
   split at hb
   ·exact key hb fun _ _ _=>by simp [evalOp,mU, *]
   ·split at hb
    ·exact key hb fun _ _ _=>by simp [evalOp,mU, *]
    ·cases hb
   ·split at hb
    ·exact key hb fun _ _ _=>by simp [evalOp,mU, *]
    ·cases hb
   ·cases hb
 | typeAssert x xt t ok =>
  cases ok with
  | false=>simp only [ho] at hb;cases hb
  | true =>
   simp only [ho] at hb
   split at hb
   ·cases hb
   ·split at hb
    ·exact key hb fun _ _ _=>by simp only [evalOp,mU, *]
    ·cases hb
   ·cases hb
 | move x =>
  simp only [ho] at hb
  exact key0 hb fun _ _ _=>by simp only [evalOp,mU,ho]
 | fieldAddr t x f =>
  simp only [ho] at hb
  split at hb
  ·split at hb
   ·split at hb
    ·exact key hb fun _ _ _=>by simp [evalOp,mU, *]
    ·cases hb
   ·cases hb
  ·cases hb
 | field t x f =>
  simp only [ho] at hb
  split at hb
  ·split at hb
   ·split at hb
    ·exact key hb fun _ _ _=>by simp [evalOp,mU, *]
    ·cases hb
   ·cases hb
  ·cases hb
 | indexAddr t x i =>
  simp only [ho] at hb
  split at hb
  ·split at hb
   ·exact key hb fun _ _ _=>by simp [evalOp,mU, *]
   ·cases hb
  ·split at hb
   ·exact key hb fun _ _ _=>by simp [evalOp,mU, *]
   ·cases hb
  ·cases hb
 | index t x i =>
  simp only [ho] at hb
  split at hb
  ·exact key hb fun _ _ _=>by simp [evalOp,mU, *]
  ·split at hb
   ·exact key hb fun _ _ _=>by simp [evalOp,mU, *]
   ·cases hb
  ·cases hb
 | convert t t' x =>
  simp only [ho] at hb
  split at hb
  ·exact key hb fun _ _ _=>by simp [evalOp,mU, *]
  ·split at hb
   ·exact key hb fun _ _ _=>by simp [evalOp,mU, *]
   ·cases hb
  ·cases hb
 | build t parts =>
  simp only [ho] at hb
  have kb:∀{j:Bool}{e:Option kN},(bif j then none else e.bind fun w=>kv w h)=some r→(∀h2 kv2 kp2,evalOp cx o none ρ h2 kv2 kp2=bif j then none else e.bind fun w=>kv2 w h2) →
    ∃v,kv v h=some r∧∀(h2:kO) (kv2 kp2:kN→kO→Option R),(∀id,wD cx o ρ=some id→pJ h id→h2[id]?=h[id]?)→evalOp cx o none ρ h2 kv2 kp2=kv2 v h2:=by
   intro j e h1 h2
   cases j with
   | true=>cases h1
   | false=>exact key h1 h2
  split at hb
  ·split at hb
   ·exact kb hb fun _ _ _=>by simp only [evalOp,mU, *]
   ·cases hb
  ·split at hb
   ·exact kb hb fun _ _ _=>by simp only [evalOp,mU, *]
   ·cases hb
  ·cases hb
 | _ =>
  simp only [ho,oV] at he
  simp only [ho] at hb
  first
   | exact key hb fun _ _ _=>by simp only [evalOp,mU,ho]
   | cases hb
   | (simp at he;done)
theorem x8 {t:Tmp}:t∈zF ops o↔t∈wA o∨aiL ops o=some t:=by simp [zF,eq_comm]
theorem zW (hag:∀t∈wA o,ρ'.getD t .junk=ρ.getD t .junk):mP cx o ids ρ' h kv kp=mP cx o ids ρ h kv kp:=by
 unfold mP
 cases cx.ck with
 | true=>exact Ap hag
 | false=>exact Ap hag
theorem HN (hag:∀t∈zF ops o,ρ'.getD t .junk=ρ.getD t .junk):sN cx ops o ids ρ' h kv kp=sN cx ops o ids ρ h kv kp:=by
 have h1:mP cx o ids ρ' h kv kp=mP cx o ids ρ h kv kp:=zW fun t ht=>hag t (x8.2 (.inl ht))
 simp only [yL]
 unfold xT
 cases hg:o.guard with
 | none=>exact h1
 | some jw =>
  obtain⟨j,want⟩:=jw
  simp only []
  cases hd:(ops[j]?).bind (·.dst) with
  | none=>rfl
  | some d =>
   simp only []
   rw [hag d (x8.2 (.inr (by simp [aiL,hg,hd]))),h1]
theorem CC (hrb:cx.rb=false) (he:oV o=false) (hb:sN cx ops o [] ρ h kv kp=some r) :
  ∃v,kv v h=some r∧∀(h2:kO) (kv2 kp2:kN→kO→Option R),(∀id,wD cx o ρ=some id→pJ h id→h2[id]?=h[id]?)→sN cx ops o [] ρ h2 kv2 kp2=kv2 v h2:=by
 have key:∀(hb:mP cx o [] ρ h kv kp=some r),
   ∃v,kv v h=some r∧∀(h2:kO) (kv2 kp2:kN→kO→Option R),(∀id,wD cx o ρ=some id→pJ h id→h2[id]?=h[id]?)→mP cx o [] ρ h2 kv2 kp2=kv2 v h2:=by
  intro hb
  unfold mP at hb ⊢
  cases hc:cx.ck with
  | true =>
   rw [hc] at hb
   obtain⟨v,h1,h2⟩:=OX hrb he hb
   exact⟨v,h1,fun h3 kv2 kp2 ha=>h2 h3 _ _ ha⟩
  | false =>
   rw [hc] at hb
   obtain⟨v,h1,h2⟩:=OX hrb he hb
   exact⟨v,h1,fun h3 kv2 kp2 ha=>h2 h3 _ _ ha⟩
 simp only [yL] at hb ⊢
 unfold xT at hb ⊢
 cases hg:o.guard with
 | none=>simp only [hg] at hb ⊢;exact key hb
 | some jw =>
  obtain⟨j,want⟩:=jw
  simp only [hg] at hb ⊢
  cases hd:(ops[j]?).bind (·.dst) with
  | none=>simp only [hd] at hb;cases hb
  | some d =>
   simp only [hd] at hb ⊢
   generalize ρ.getD d .junk=x at hb ⊢
   split at hb
   ·rename_i g
    cases want <;> cases g <;> simp only [cond_true,cond_false] at hb ⊢
    ·exact key hb
    ·exact⟨_,hb,fun _ _ _ _=>rfl⟩
    ·exact⟨_,hb,fun _ _ _ _=>rfl⟩
    ·exact key hb
   ·exact⟨_,hb,fun _ _ _ _=>rfl⟩
   ·cases hb
theorem Ds {dst:Option Tmp}{v:kN}{t:Tmp}(hne:∀d,dst=some d→d≠t):(pD ρ dst v).getD t .junk=ρ.getD t .junk:=by
 cases dst with
 | none=>rfl
 | some d=>simp [pD,ad9,List.getElem?_set,hne d rfl]
theorem MY {x y:Option Tmp}{u v:kN}(hne:∀d,x=some d→y≠some d):pD (pD ρ x u) y v=pD (pD ρ y v) x u:=by
 cases x with
 | none=>rfl
 | some d=>cases y with
  | none=>rfl
  | some e=>exact List.set_comm _ _ (fun he=>hne d rfl (by rw [he]))
theorem EP {d:Option Tmp}{ts:List Tmp}(hd:WJ d ts=true):∀t∈ts,∀e,d=some e→e≠t:=by
 rintro t ht e rfl rfl
 simp [WJ] at hd
 exact hd ht
theorem Oz {x y:Oper}(ha:La ops x y=true) :
  (∀t∈zF ops y,∀d,x.dst=some d→d≠t)∧(∀t∈zF ops x,∀d,y.dst=some d→d≠t)∧(∀d,x.dst=some d→y.dst≠some d):=by
 simp only [La,ae7] at ha
 refine⟨EP ha.1.1,EP ha.1.2,fun d hd he=>?_⟩
 exact EP ha.2 d (by simp [he]) d hd rfl
theorem Uq {id n:Nat}{v:kN}{x:kN×kO}(hx:q_ id n h v=some x):∃b,h[id]?=some .free∧x=(.ptr id 0,h.set id b)∧∀h2:kO,h2[id]?=some .free→q_ id n h2 v=some (.ptr id 0,h2.set id b):=by
 unfold q_ at hx
 simp only [] at hx
 split at hx
 ·rename_i hf
  split at hx
  ·rename_i hc
   cases hx
   refine⟨_,hf,rfl,fun h2 h3=>?_⟩
   unfold q_
   simp only [h3]
   rw [if_pos hc]
  ·cases hx
 ·cases hx
theorem EC {id len sz:Nat}{zero:List kN}{parts:List (Nat×kN)}{x:kN×kO}(hx:qW id len sz zero parts h=some x) :
  ∃b,h[id]?=some .free∧x=(x.1,h.set id b)∧∀h2:kO,h2[id]?=some .free→qW id len sz zero parts h2=some (x.1,h2.set id b):=by
 unfold qW at hx;cases hx
theorem HT {id:Nat}(he:rO o=true) (hb:evalOp cx o (some id) ρ h kv kp=some r) :
  ∃v b,h[id]?=some .free∧kv v (h.set id b)=some r∧∀(h2:kO) (kv2 kp2:kN→kO→Option R),h2[id]?=some .free→evalOp cx o (some id) ρ h2 kv2 kp2=kv2 v (h2.set id b):=by
 have K1:∀{n:Nat}{v:kN},kW (q_ id n h v) kv=some r→∃u b,h[id]?=some .free∧kv u (h.set id b)=some r∧∀(h2:kO) (kv2:kN→kO→Option R),h2[id]?=some .free→kW (q_ id n h2 v) kv2=kv2 u (h2.set id b):=by
  intro n v hv
  unfold kW at hv
  obtain⟨x,hx,hk⟩:=aa6.1 hv
  obtain⟨b,h1,rfl,h3⟩:=Uq hx
  exact⟨_,b,h1,hk,fun h2 kv2 hf=>by rw [h3 h2 hf];rfl⟩
 have K2:∀{len sz:Nat}{zero:List kN}{parts:List (Nat×kN)},kW (qW id len sz zero parts h) kv=some r →
   ∃u b,h[id]?=some .free∧kv u (h.set id b)=some r∧∀(h2:kO) (kv2:kN→kO→Option R),h2[id]?=some .free→kW (qW id len sz zero parts h2) kv2=kv2 u (h2.set id b):=by
  intro len sz zero parts hv
  unfold kW at hv
  obtain⟨x,hx,hk⟩:=aa6.1 hv
  obtain⟨b,h1,h2,h3⟩:=EC hx
  refine⟨x.1,b,h1,?_,fun h2 kv2 hf=>by rw [h3 h2 hf];rfl⟩
  rw [h2] at hk;exact hk
 unfold rO at he
 simp only [ae7] at he
 have he:=he.2
 unfold evalOp mU at hb ⊢
 split at he
 ·rename_i t ho
  simp only [ho] at hb ⊢
  split at hb
  ·rename_i n z hn hz
   obtain⟨u,b,e1,e2,e3⟩:=K1 hb
   refine⟨u,b,e1,e2,fun h2 kv2 kp2 hf=>?_⟩
   exact e3 h2 kv2 hf
  ·cases hb
 ·rename_i t x ho
  simp only [ho] at hb ⊢
  split at hb
  ·rename_i n hn
   obtain⟨u,b,e1,e2,e3⟩:=K1 hb
   refine⟨u,b,e1,e2,fun h2 kv2 kp2 hf=>?_⟩
   exact e3 h2 kv2 hf
  ·cases hb
 ·rename_i t len parts ho
  simp only [ho] at hb ⊢
  split at hb
  ·rename_i e hel
   split at hb
   ·rename_i n z hn hz
    cases hj:(n == 0 || z.nE || decide (len*n > 16777216)) with
    | true=>rw [hj] at hb;cases hb
    | false =>
     rw [hj] at hb
     obtain⟨u,b,e1,e2,e3⟩:=K2 hb
     refine⟨u,b,e1,e2,fun h2 kv2 kp2 hf=>?_⟩
     exact e3 h2 kv2 hf
   ·cases hb
  ·cases hb
 ·cases he
theorem Km (he:rO o=true):oV o=true:=by
 unfold rO at he
 simp only [ae7] at he
 have he:=he.2
 split at he
 ·rename_i ho;simp [oV,ho]
 ·rename_i ho;simp [oV,ho]
 ·rename_i ho;simp [oV,ho]
 ·cases he
theorem OG (he:vF o=true):oV o=true:=by
 unfold vF at he
 simp only [ae7] at he
 have he:=he.2
 split at he
 ·rename_i c ho
  simp only [oV,ho]
  cases hc:c.callee with
  | value f=>rfl
  | _=>simp [hc] at he
 ·cases he
theorem Qe {m:Nat}(hb:wJ cx o m ids ρ h kv=some r) :
  ∃v t,t.length=m∧kv v (t++h.drop m)=some r∧∀(h2:kO) (kv2:kN→kO→Option R),h2.take m=h.take m→wJ cx o m ids ρ h2 kv2=kv2 v (t++h2.drop m):=by
 unfold wJ at hb ⊢
 cases hs:(h.take m).all (nH m) with
 | false=>rw [hs] at hb;cases hb
 | true =>
  rw [hs] at hb
  simp only [cond_true] at hb
  obtain⟨r0,h1,h2⟩:=aa6.1 hb
  unfold JP at h2
  split at h2
  ·rename_i v t
   cases hl:t.length == m with
   | false=>rw [hl] at h2;cases h2
   | true =>
    rw [hl] at h2
    refine⟨v,t,by simpa using hl,h2,fun h3 kv2 he=>?_⟩
    rw [he,hs,h1]
    simp only [cond_true,aq5,JP,hl]
  ·cases h2
theorem uP {m:Nat}{it:Item}(hag:∀t∈zF ops it.o,ρ'.getD t .junk=ρ.getD t .junk):nB cx ops m it ids ρ' h kv kp=nB cx ops m it ids ρ h kv kp:=by
 have hop:∀t∈wA it.o,ρ'.getD t .junk=ρ.getD t .junk:=fun t ht=>hag t (x8.2 (.inl ht))
 have hsh:∀t∈wA it.o,(ρ'.map (tK m)).getD t .junk=(ρ.map (tK m)).getD t .junk:=by
  intro t ht
  have h0:∀l:List kN,(l.map (tK m)).getD t .junk=tK m (l.getD t .junk):=by
   intro l
   rw [ad9,ad9,ah3]
   cases l[t]? <;> rfl
  rw [h0,h0,hop t ht]
 unfold nB
 cases it.rsv with
 | some j=>simp only [];rw [Ap hop]
 | none =>
  simp only []
  rw [HN hag]
  cases it.hid with
  | false=>rfl
  | true =>
   simp only [cond_true,wJ]
   rw [zW hsh]
def Vn (it:Item) (m:Nat) (ids:List Nat) (h h':kO):Prop :=
 (oV it.o=false→h'=h)∧(∀id∈ids,pJ h id→h'[id]?=h[id]?) ∧
 (∀j,it.rsv=some j→∃b,h[m+j]?=some .free∧h'=h.set (m+j) b) ∧
 (it.rsv=none→it.hid=true→∃t,t.length=m∧h'=t++h.drop m)
theorem AB (hag:∀t∈wA o,ρ'.getD t .junk=ρ.getD t .junk):seenAt cx.A o ρ'=seenAt cx.A o ρ:=by
 unfold seenAt
 cases hr:uF o with
 | none=>rfl
 | some x =>
  refine HF hag ?_
  unfold uF at hr
  split at hr
  ·rename_i ho;cases hr;simp [ho,Op.operands]
  ·rename_i ho;cases hr;simp [ho,Op.operands]
  ·cases hr
theorem Sq {id:Nat}(hf:h[id]?=some .free):¬pJ h id:=by
 rintro(⟨_,h1⟩ | ⟨_,h1⟩ | ⟨_,_,_,h1⟩ | ⟨_,_,h1⟩) <;> rw [hf] at h1 <;> cases h1
theorem O6 (hrb:cx.rb=false) (he:oV o=false) (hr:uF o=none) (hb:sN cx ops o [] ρ h kv kp=some r) :
  ∃v,kv v h=some r∧∀(h2:kO) (kv2 kp2:kN→kO→Option R),sN cx ops o [] ρ h2 kv2 kp2=kv2 v h2:=by
 obtain⟨v,h1,h2⟩:=CC hrb he hb
 exact⟨v,h1,fun h3 kv2 kp2=>h2 h3 kv2 kp2 fun id hid=>by simp [wD,hr] at hid⟩
theorem XW (hrb:cx.rb=false) {m:Nat}{it:Item}{T:kO→kO}
  (hT:(it.rsv≠none)∨(it.rsv=none∧it.hid=true∧(T h).take m=h.take m∧∀t:kO,t.length=m→T (t++h.drop m)=t++(T h).drop m)∨(it.rsv=none∧it.hid=false∧oV it.o=false∧uF it.o=none))
  (hlocks:oV it.o=false→ids=[])
  (hset:∀j,it.rsv=some j→(T h)[m+j]?=h[m+j]?∧∀b,T (h.set (m+j) b)=(T h).set (m+j) b)
  (hb:nB cx ops m it ids ρ (T h) kv kp=some r):nB cx ops m it ids ρ h (fun v h'=>kv v (T h')) kp=some r:=by
 unfold nB at hb ⊢
 cases hr:it.rsv with
 | some j =>
  simp only [hr] at hb ⊢
  cases hf:rO it.o with
  | false=>rw [hf] at hb;cases hb
  | true =>
   rw [hf] at hb
   simp only [cond_true] at hb ⊢
   obtain⟨v,b,h1,h2,h3⟩:=HT hf hb
   obtain⟨h4,h5⟩:=hset j hr
   rw [h3 h _ _ (h4 ▸ h1),h5]
   exact h2
 | none =>
  simp only [hr] at hb ⊢
  rcases hT with hT | ⟨_,hh,ht,hd⟩ | ⟨_,hh,he,hrd⟩
  ·exact absurd hr hT
  ·rw [hh] at hb ⊢
   simp only [cond_true] at hb ⊢
   cases hf:vF it.o with
   | false=>rw [hf] at hb;cases hb
   | true =>
    rw [hf] at hb
    simp only [cond_true] at hb ⊢
    obtain⟨v,t,h1,h2,h3⟩:=Qe hb
    rw [h3 h _ ht.symm,hd t h1]
    exact h2
  ·rw [hh] at hb ⊢
   simp only [cond_false] at hb ⊢
   rw [hlocks he] at hb ⊢
   obtain⟨v,h1,h2⟩:=O6 hrb he hrd hb
   rw [h2]
   exact h1
theorem move (hrb:cx.rb=false) {m:Nat}{k:List kN→kO→Option R}(it:Item) (post:List Item) (hil:oV it.o=false→it.locks=[]) (hie:it.rsv≠none∨it.hid=true→oV it.o=true):∀(pre:List Item) (seen ρ:List kN) (h:kO),
  (∀p∈pre,indep ops p it=true∧p.i≠it.i∧p.i<seen.length)→(pre.map (·.i)).Nodup →
  nF cx ops m (pre++it::post) seen ρ h k kp=some r →
  ∃ids kv,nB cx ops m it ids ρ h kv kp=some r∧(∀j∈it.locks,(∀p∈pre,p.i≠j)→∀id,A7 (seen.getD j .junk)=some id→id∈ids)∧(oV it.o=false→ids=[]) ∧
   ∀v h',Vn it m ids h h'→kv v h'=some r→nF cx ops m (pre++post) (seen.set it.i (seenAt cx.A it.o ρ)) (pD ρ it.o.dst v) h' k kp=some r:=by
 intro pre
 induction pre with
 | nil =>
  intro seen ρ h _ _ hb
  simp only [List.nil_append,nF,vY] at hb
  refine⟨_,_,hb,fun j hj _ id hid=>?_,fun he=>by simp [lA,hil he],fun v h' _ hk=>hk⟩
  exact List.mem_filterMap.2 ⟨j,hj,hid⟩
 | cons p pre ih =>
  intro seen ρ h hpre hnd hb
  obtain⟨hind,hne,hlt⟩:=hpre p (by simp)
  have hpl:p.rsv≠none∨p.locks=[]:=by
   cases hr:p.rsv with
   | some j=>exact .inl (by simp)
   | none =>
    refine .inr ?_
    cases hir:it.rsv <;> cases hh:p.hid <;> simp [indep,hr,hir,hh] at hind
    ·exact hind.2.1.2
    ·exact hind.2.1
    ·exact hind.2.2
    ·exact hind.2
  have hap:La ops p.o it.o=true:=by simp only [indep,ae7] at hind;exact hind.1
  have hind2:=hind
  simp only [indep,hap,Bool.true_and] at hind2
  obtain⟨ha1,ha2,ha3⟩:=Oz hap
  simp only [ar6,List.nodup_cons] at hnd
  have agI:∀(vp:kN),∀t∈zF ops it.o,(pD ρ p.o.dst vp).getD t .junk=ρ.getD t .junk:=fun vp t ht=>Ds (ha1 t ht)
  have agO:∀(vp:kN),∀t∈wA it.o,(pD ρ p.o.dst vp).getD t .junk=ρ.getD t .junk:=fun vp t ht=>agI vp t (x8.2 (.inl ht))
  have agP:∀(v:kN),∀t∈zF ops p.o,(pD ρ it.o.dst v).getD t .junk=ρ.getD t .junk:=fun v t ht=>Ds (ha2 t ht)
  have agPO:∀(v:kN),∀t∈wA p.o,(pD ρ it.o.dst v).getD t .junk=ρ.getD t .junk:=fun v t ht=>agP v t (x8.2 (.inl ht))
  have main:∀(idsP:List Nat) (vp:kN) (T:kO→kO),(p.rsv≠none∨(p.locks=[]∧idsP=[])) →
    nF cx ops m (pre++it::post) (seen.set p.i (seenAt cx.A p.o ρ)) (pD ρ p.o.dst vp) (T h) k kp=some r →
    (∀ids kv,(oV it.o=false→ids=[])→(∀j∈it.locks,(∀q∈pre,q.i≠j)→∀id,A7 ((seen.set p.i (seenAt cx.A p.o ρ)).getD j .junk)=some id→id∈ids) →
     nB cx ops m it ids ρ (T h) kv kp=some r→nB cx ops m it ids ρ h (fun v h'=>kv v (T h')) kp=some r ∧
     ∀v h',Vn it m ids h h'→Vn it m ids (T h) (T h')∧∀kv2,nB cx ops m p (lA p.locks (seen.set it.i (seenAt cx.A it.o ρ))) (pD ρ it.o.dst v) h' kv2 kp=kv2 vp (T h')) →
    ∃ids kv,nB cx ops m it ids ρ h kv kp=some r∧(∀j∈it.locks,(∀q∈p::pre,q.i≠j)→∀id,A7 (seen.getD j .junk)=some id→id∈ids)∧(oV it.o=false→ids=[]) ∧
     ∀v h',Vn it m ids h h'→kv v h'=some r→nF cx ops m (p::pre++post) (seen.set it.i (seenAt cx.A it.o ρ)) (pD ρ it.o.dst v) h' k kp=some r:=by
   intro idsP vp T _ hnext hrun
   obtain⟨ids,kv,e1,e2,e3,e4⟩:=ih _ _ _ (fun q hq=>by
    have:=hpre q (by simp [hq])
    exact⟨this.1,this.2.1,by simpa using this.2.2⟩) hnd.2 hnext
   rw [uP (agI vp)] at e1
   obtain⟨r1,r2⟩:=hrun ids kv e3 e2 e1
   refine⟨ids,_,r1,fun j hj hno id hid=>?_,e3,fun v h' hkeep hk=>?_⟩
   ·refine e2 j hj (fun q hq=>hno q (by simp [hq])) id ?_
    have:p.i≠j:=hno p (by simp)
    simpa [ad9,List.getElem?_set,this] using hid
   ·obtain⟨k1,k2⟩:=r2 v h' hkeep
    have e5:=e4 v (T h') k1 hk
    simp only [aq6,nF,vY]
    rw [k2]
    rw [AB (agPO v),MY (ρ:=ρ) (x:=it.o.dst) (y:=p.o.dst) (fun d h1 h2=>ha3 d h2 h1),List.set_comm _ _ (Ne.symm hne),←AB (agO vp)]
    exact e5
  simp only [aq6,nF,vY] at hb
  cases hpr:p.rsv with
  | some a =>
   have hb':=hb
   unfold nB at hb'
   simp only [hpr] at hb'
   cases hf:rO p.o with
   | false=>rw [hf] at hb';cases hb'
   | true =>
    rw [hf] at hb'
    simp only [cond_true] at hb'
    obtain⟨vp,b,f1,f2,f3⟩:=HT hf hb'
    have hlen:m+a<h.length:=(ad0.1 f1).1
    have tk:∀x:kO,(x.set (m+a) b).take m=x.take m:=fun x=>List.take_set_of_le (by omega)
    have ts:∀t x:kO,t.length=m→(t++x.drop m).set (m+a) b=t++(x.set (m+a) b).drop m:=by
     intro t x ht
     rw [List.set_append_right _ _ (by omega),List.drop_set,if_neg (by omega),ht]
    refine main [] vp (fun x=>x.set (m+a) b) (.inl (by simp [hpr])) f2 fun ids kv he hl hrun=>⟨?_,fun v h' hk=>⟨?_,fun kv2=>?_⟩⟩
    ·refine XW hrb ?_ he (fun j hj=>?_) hrun
     ·cases hir:it.rsv with
      | some j=>exact .inl (by simp)
      | none =>
       refine .inr ?_
       simp only [hpr,hir] at hind2
       cases hh:it.hid with
       | true=>exact .inl ⟨rfl,rfl,tk h,fun t ht=>ts t h ht⟩
       | false =>
        simp [hh] at hind2
        exact .inr ⟨rfl,rfl,hind2.1,hind2.2⟩
     ·simp only [hpr,hj,bne_iff_ne,ne_eq] at hind2
      exact⟨List.getElem?_set_ne (by omega),fun b'=>List.set_comm _ _ (by omega)⟩
    ·obtain⟨k1,k2,k3,k4⟩:=hk
     refine⟨fun he=>by rw [k1 he],fun id hid hbl=>?_,fun j hj=>?_,fun hr hh=>?_⟩
     ·by_cases hia:m+a=id
      ·subst hia
       by_cases h2:m+a<h'.length
       ·simp [List.getElem?_set,hlen,h2]
       ·exfalso
        cases hir:it.rsv with
        | some j=>obtain⟨b',_,rfl⟩:=k3 j hir;simp at h2;omega
        | none =>
         cases hh:it.hid with
         | true=>obtain⟨t,ht,rfl⟩:=k4 hir hh;simp at h2;omega
         | false =>
          simp only [hpr,hir,hh] at hind2
          simp at hind2
          rw [k1 hind2.1] at h2;exact h2 hlen
      ·rw [List.getElem?_set_ne hia,List.getElem?_set_ne hia]
       refine k2 id hid ?_
       unfold pJ at hbl ⊢
       rwa [List.getElem?_set_ne hia] at hbl
     ·obtain⟨b',f4,rfl⟩:=k3 j hj
      simp only [hpr,hj,bne_iff_ne,ne_eq] at hind2
      exact⟨b',by rw [List.getElem?_set_ne (by omega)];exact f4,List.set_comm _ _ (by omega)⟩
     ·obtain⟨t,ht,rfl⟩:=k4 hr hh
      exact⟨t,ht,ts t h ht⟩
    ·have hfree:h'[m+a]?=some .free:=by
      obtain⟨k1,k2,k3,k4⟩:=hk
      cases hir:it.rsv with
      | some j =>
       obtain⟨b',f4,rfl⟩:=k3 j hir
       simp only [hpr,hir,bne_iff_ne,ne_eq] at hind2
       rw [List.getElem?_set_ne (by omega)];exact f1
      | none =>
       cases hh:it.hid with
       | true =>
        obtain⟨t,ht,rfl⟩:=k4 hir hh
        rw [af7 (by omega),ah9,ht]
        rw [show m+(m+a-m)=m+a by omega];exact f1
       | false =>
        simp only [hpr,hir,hh] at hind2
        simp at hind2
        rw [k1 hind2.1];exact f1
     rw [uP (agP v)]
     unfold nB
     simp only [hpr,hf,cond_true]
     exact f3 h' _ _ hfree
  | none =>
   have hlk:p.locks=[]:=hpl.resolve_left (by simp [hpr])
   cases hph:p.hid with
   | true =>
    have hb':=hb
    unfold nB at hb'
    simp only [hpr,hph,cond_true] at hb'
    cases hf:vF p.o with
    | false=>rw [hf] at hb';cases hb'
    | true =>
     rw [hf] at hb'
     simp only [cond_true,hlk,lA,List.filterMap_nil] at hb'
     obtain⟨vp,t,f1,f2,f3⟩:=Qe hb'
     have hkind:(∃j,it.rsv=some j)∨(it.rsv=none∧it.hid=false∧oV it.o=false∧uF it.o=none):=by
      cases hir:it.rsv with
      | some j=>exact .inl ⟨j,rfl⟩
      | none =>
       simp only [hpr,hir,hph] at hind2
       simp at hind2
       exact .inr ⟨rfl,hind2.2.1,hind2.2.2.1,hind2.2.2.2⟩
     refine main [] vp (fun x=>t++x.drop m) (.inr ⟨hlk,rfl⟩) f2 fun ids kv he hl hrun=>⟨?_,fun v h' hk=>⟨?_,fun kv2=>?_⟩⟩
     ·refine XW hrb ?_ he (fun j hj=>⟨?_,fun b'=>?_⟩) hrun
      ·rcases hkind with ⟨j,hj⟩ | hk
       ·exact .inl (by simp [hj])
       ·exact .inr (.inr hk)
      ·rw [af7 (by omega),ah9,f1,show m+(m+j-m)=m+j by omega]
      ·rw [List.set_append_right _ _ (by omega),List.drop_set,if_neg (by omega),f1]
     ·obtain⟨k1,k2,k3,k4⟩:=hk
      rcases hkind with ⟨j,hj⟩ | ⟨g1,g2,g3,g4⟩
      ·obtain⟨b',f4,rfl⟩:=k3 j hj
       have hie':=hie (.inl (by simp [hj]))
       have hlen:m+j<h.length:=(ad0.1 f4).1
       have e1:t++(h.set (m+j) b').drop m=(t++h.drop m).set (m+j) b':=by
        rw [List.set_append_right _ _ (by omega),List.drop_set,if_neg (by omega),f1]
       refine⟨fun he=>(by rw [hie'] at he;cases he),fun id hid hbl=>?_,fun j' hj'=>?_,fun hr=>(by rw [hj] at hr;cases hr)⟩
       ·rw [e1]
        refine List.getElem?_set_ne fun hji=>?_
        subst hji
        refine Sq ?_ hbl
        rw [af7 (by omega),ah9,f1,show m+(m+j-m)=m+j by omega]
        exact f4
       ·rw [hj] at hj';cases hj'
        refine⟨b',?_,e1⟩
        rw [af7 (by omega),ah9,f1,show m+(m+j-m)=m+j by omega]
        exact f4
      ·have:=k1 g3
       subst this
       exact⟨fun _=>rfl,fun _ _ _=>rfl,fun j hj=>(by rw [g1] at hj;cases hj),fun _ hh=>(by rw [g2] at hh;cases hh)⟩
     ·have htake:h'.take m=h.take m:=by
       obtain⟨k1,k2,k3,k4⟩:=hk
       rcases hkind with ⟨j,hj⟩ | ⟨g1,g2,g3,g4⟩
       ·obtain⟨b',f4,rfl⟩:=k3 j hj
        exact List.take_set_of_le (by omega)
       ·rw [k1 g3]
      rw [uP (agP v)]
      unfold nB
      simp only [hpr,hph,hf,cond_true,hlk,lA,List.filterMap_nil]
      exact f3 h' _ htake
   | false =>
    have hpe:oV p.o=false:=by
     cases hir:it.rsv <;> simp [hpr,hir,hph] at hind2
     ·exact hind2.1.1
     ·exact hind2.1
    have hb':=hb
    unfold nB at hb'
    simp only [hpr,hph,cond_false,hlk,lA,List.filterMap_nil] at hb'
    obtain⟨vp,hnext,hlight⟩:=CC hrb hpe hb'
    refine main [] vp id (.inr ⟨hlk,rfl⟩) hnext fun ids kv he hl hrun=>⟨hrun,fun v h' hk=>⟨hk,fun kv2=>?_⟩⟩
    rw [uP (agP v)]
    unfold nB
    simp only [hpr,hph,cond_false,hlk,lA,List.filterMap_nil]
    refine hlight h' _ _ fun id hid hblk=>?_
    obtain⟨k1,k2,k3,k4⟩:=hk
    cases hir:it.rsv with
    | some j =>
     obtain⟨b',f4,rfl⟩:=k3 j hir
     refine List.getElem?_set_ne fun hji=>?_
     subst hji
     exact Sq f4 hblk
    | none =>
     cases hie2:oV it.o with
     | false=>rw [k1 hie2]
     | true =>
      refine k2 id ?_ hblk
      have hrd:(uF p.o).isSome=true:=by
       unfold wD at hid
       cases hr:uF p.o with
       | none=>simp [hr] at hid
       | some x=>rfl
      simp only [hpr,hir,hph,cond_false,ae7,Bool.or_eq_true] at hind2
      have hmem:p.i∈it.locks:=by
       rcases hind2.2 with (h1 | h1) | h1
       ·simp [hrd] at h1
       ·simp [hie2] at h1
       ·simpa using h1
      refine hl p.i hmem (fun q hq he=>hnd.1 (List.mem_map.2 ⟨q,hq,he⟩)) id ?_
      have:(seen.set p.i (seenAt cx.A p.o ρ)).getD p.i .junk=seenAt cx.A p.o ρ:=by simp [ad9,hlt]
      rw [this]
      unfold wD at hid
      unfold seenAt
      cases hr:uF p.o with
      | none=>simp [hr] at hid
      | some x=>simpa [hr] using hid
end
end
section
open Go Go.RowKit
structure Sub (h h':kO):Prop where
 live:∀id,Hk.live h id→Hk.live h' id
 front:∀(id n sz t:Nat),h[id]?=some (.front n sz t)→h'[id]?=some (.front n sz t)
 nf:∀id,uA h id→uA h' id
theorem k_.sub {G:Gh}{h h':kO}(s:Sub h h') {v:kN}{V:Value}(r:k_ G h v V):k_ G h' v V:=by
 induction r with
 | p v V hp=>exact .p v V hp
 | agg cs C hl _ ih=>exact .agg cs C hl ih
 | tuple cs C hl _ ih=>exact .tuple cs C hl ih
 | nil=>exact .nil
 | own rows id n sz V hp hf hn hr hc=>exact .own rows id n sz V hp (s.front _ _ _ _ hf) hn hr hc
 | ownv id V hp hb=>exact .ownv id V hp (s.nf _ hb)
 | vslice id tot off len sz b cap hl ht hc hv=>exact .vslice id tot off len sz b cap (s.nf _ hl) ht hc hv
 | vptr id tot off b hl ht hv=>exact .vptr id tot off b (s.nf _ hl) ht hv
 | ptr id off hl=>exact .ptr id off (s.live _ hl)
 | mslice id off len sz cap hl hc=>exact .mslice id off len sz cap (s.live _ hl) hc
 | mslice0 id off sz cap a=>exact .mslice0 id off sz cap a
 | map id hl=>exact .map id (s.live _ hl)
 | func f first cap F C hlf hlc _ _ ihf ihc=>exact .func f first cap F C hlf hlc ihf ihc
 | iface t v V _ ih=>exact .iface t v V ih
theorem pJ.nf {h:kO}{id:Nat}(hb:pJ h id):∃b,h[id]?=some b∧b≠.free∧∀n sz t,b≠.front n sz t:=by
 rcases hb with ⟨cs,hc⟩ | ⟨es,hc⟩ | ⟨t,s,cs,hc⟩ | ⟨t,cs,hc⟩ <;> exact⟨_,hc,by simp,by simp⟩
theorem UD (h:kO) (a id:Nat):(pJ h a∧a=id∧(Du h a)[id]?=some .gone)∨(¬(pJ h a∧a=id)∧(Du h a)[id]?=h[id]?):=by
 unfold Du
 cases hb:h[a]? with
 | none=>exact .inr ⟨fun hh=>(by obtain⟨⟨_,h1⟩ | ⟨_,h1⟩ | ⟨_,_,_,h1⟩ | ⟨_,_,h1⟩,_⟩:=hh <;> rw [hb] at h1 <;> cases h1),rfl⟩
 | some b =>
  have hlt:a<h.length:=(ad0.1 hb).1
  cases b with
  | cells cs =>
   by_cases ha:a=id
   ·subst ha;exact .inl ⟨.inl ⟨_,hb⟩,rfl,by simp [hlt]⟩
   ·exact .inr ⟨fun h=>ha h.2,by simp [List.getElem?_set,ha]⟩
  | map es =>
   by_cases ha:a=id
   ·subst ha;exact .inl ⟨.inr (.inl ⟨_,hb⟩),rfl,by simp [hlt]⟩
   ·exact .inr ⟨fun h=>ha h.2,by simp [List.getElem?_set,ha]⟩
  | vec t s cs =>
   by_cases ha:a=id
   ·subst ha;exact .inl ⟨.inr (.inr (.inl ⟨_,_,_,hb⟩)),rfl,by simp [hlt]⟩
   ·exact .inr ⟨fun h=>ha h.2,by simp [List.getElem?_set,ha]⟩
  | tcells t cs =>
   by_cases ha:a=id
   ·subst ha;exact .inl ⟨.inr (.inr (.inr ⟨_,_,hb⟩)),rfl,by simp [hlt]⟩
   ·exact .inr ⟨fun h=>ha h.2,by simp [List.getElem?_set,ha]⟩
  | _=>exact .inr ⟨fun hh=>(by obtain⟨⟨_,h1⟩ | ⟨_,h1⟩ | ⟨_,_,_,h1⟩ | ⟨_,_,h1⟩,_⟩:=hh <;> rw [hb] at h1 <;> cases h1),rfl⟩
theorem x5 (ids:List Nat):∀(h:kO) (id:Nat),(id∈ids∧pJ h id∧(oR ids h)[id]?=some .gone)∨(¬(id∈ids∧pJ h id)∧(oR ids h)[id]?=h[id]?):=by
 induction ids with
 | nil=>intro h id;exact .inr ⟨by simp,rfl⟩
 | cons a ids ih =>
  intro h id
  have hc:(oR (a::ids) h)=oR ids (Du h a):=rfl
  rw [hc]
  rcases UD h a id with ⟨h1,rfl,h3⟩ | ⟨h1,h2⟩
  ·rcases ih (Du h a) a with ⟨h4,h5,h6⟩ | ⟨h4,h5⟩
   ·exact .inl ⟨by simp,h1,h6⟩
   ·exact .inl ⟨by simp,h1,h5.trans h3⟩
  ·have hb:pJ (Du h a) id↔pJ h id:=by unfold pJ;rw [h2]
   rcases ih (Du h a) id with ⟨h4,h5,h6⟩ | ⟨h4,h5⟩
   ·exact .inl ⟨by simp [h4],hb.1 h5,h6⟩
   ·refine .inr ⟨fun hh=>?_,h5.trans h2⟩
    rcases List.mem_cons.1 hh.1 with he | he
    ·exact h1 ⟨he ▸ hh.2,he.symm⟩
    ·exact h4 ⟨he,hb.2 hh.2⟩
theorem Pv (h r:kO) (a id:Nat) (hlt:pJ h a→a<r.length):(pJ h a∧a=id∧(xQ h r a)[id]?=h[id]?)∨(¬(pJ h a∧a=id)∧(xQ h r a)[id]?=r[id]?):=by
 unfold xQ
 cases hb:h[a]? with
 | none=>exact .inr ⟨fun hh=>(by obtain⟨⟨_,h1⟩ | ⟨_,h1⟩ | ⟨_,_,_,h1⟩ | ⟨_,_,h1⟩,_⟩:=hh <;> rw [hb] at h1 <;> cases h1),rfl⟩
 | some b =>
  cases b with
  | cells cs =>
   have:=hlt (.inl ⟨_,hb⟩)
   by_cases ha:a=id
   ·subst ha;exact .inl ⟨.inl ⟨_,hb⟩,rfl,by simp [this,hb]⟩
   ·exact .inr ⟨fun h=>ha h.2,by simp [List.getElem?_set,ha]⟩
  | map es =>
   have:=hlt (.inr (.inl ⟨_,hb⟩))
   by_cases ha:a=id
   ·subst ha;exact .inl ⟨.inr (.inl ⟨_,hb⟩),rfl,by simp [this,hb]⟩
   ·exact .inr ⟨fun h=>ha h.2,by simp [List.getElem?_set,ha]⟩
  | vec t s cs =>
   have:=hlt (.inr (.inr (.inl ⟨_,_,_,hb⟩)))
   by_cases ha:a=id
   ·subst ha;exact .inl ⟨.inr (.inr (.inl ⟨_,_,_,hb⟩)),rfl,by simp [this,hb]⟩
   ·exact .inr ⟨fun h=>ha h.2,by simp [List.getElem?_set,ha]⟩
  | tcells t cs =>
   have:=hlt (.inr (.inr (.inr ⟨_,_,hb⟩)))
   by_cases ha:a=id
   ·subst ha;exact .inl ⟨.inr (.inr (.inr ⟨_,_,hb⟩)),rfl,by simp [this,hb]⟩
   ·exact .inr ⟨fun h=>ha h.2,by simp [List.getElem?_set,ha]⟩
  | _=>exact .inr ⟨fun hh=>(by obtain⟨⟨_,h1⟩ | ⟨_,h1⟩ | ⟨_,_,_,h1⟩ | ⟨_,_,h1⟩,_⟩:=hh <;> rw [hb] at h1 <;> cases h1),rfl⟩
theorem Jj (h r:kO) (a:Nat):(xQ h r a).length=r.length:=by
 unfold xQ;split <;> simp
theorem Th (h:kO) (ids:List Nat):∀(r:kO) (id:Nat),(∀a∈ids,pJ h a→a<r.length) →
  (id∈ids∧pJ h id∧(lO ids h r)[id]?=h[id]?)∨(¬(id∈ids∧pJ h id)∧(lO ids h r)[id]?=r[id]?):=by
 induction ids with
 | nil=>intro r id _;exact .inr ⟨by simp,rfl⟩
 | cons a ids ih =>
  intro r id hlt
  have hc:lO (a::ids) h r=lO ids h (xQ h r a):=rfl
  rw [hc]
  have ih':=ih (xQ h r a) id fun b hb hbl=>by rw [Jj];exact hlt b (by simp [hb]) hbl
  rcases Pv h r a id (hlt a (by simp)) with ⟨h1,rfl,h3⟩ | ⟨h1,h2⟩
  ·rcases ih' with ⟨h4,h5,h6⟩ | ⟨h4,h5⟩
   ·exact .inl ⟨by simp,h1,h6⟩
   ·exact .inl ⟨by simp,h1,h5.trans h3⟩
  ·rcases ih' with ⟨h4,h5,h6⟩ | ⟨h4,h5⟩
   ·exact .inl ⟨by simp [h4],h5,h6⟩
   ·refine .inr ⟨fun hh=>?_,h5.trans h2⟩
    rcases List.mem_cons.1 hh.1 with he | he
    ·exact h1 ⟨he ▸ hh.2,he.symm⟩
    ·exact h4 ⟨he,hh.2⟩
theorem OS (ids:List Nat) (h:kO):Sub h (oR ids h) where
 live:=fun id ⟨b,h1,h2⟩=>by
  rcases x5 ids h id with ⟨_,_,h5⟩ | ⟨_,h5⟩
  ·exact⟨_,h5,by simp⟩
  ·exact⟨b,h5.trans h1,h2⟩
 front:=fun id n sz t hf=>by
  rcases x5 ids h id with ⟨_,h4,_⟩ | ⟨_,h5⟩
  ·obtain⟨b,h6,_,h7⟩:=h4.nf;rw [hf] at h6;cases h6;exact absurd rfl (h7 _ _ _)
  ·exact h5.trans hf
 nf:=fun id ⟨b,h1,h2,h3⟩=>by
  rcases x5 ids h id with ⟨_,_,h5⟩ | ⟨_,h5⟩
  ·exact⟨_,h5,by simp,by simp⟩
  ·exact⟨b,h5.trans h1,h2,h3⟩
theorem tQ {G:Gh}{ids:List Nat}{h:kO}{id b:Nat}(ho:owner G (oR ids h) id=some b):owner G h id=some b∧¬(id∈ids∧pJ h id):=by
 rcases x5 ids h id with ⟨_,_,h5⟩ | ⟨h4,h5⟩
 ·simp [owner,h5] at ho
 ·refine⟨?_,h4⟩
  unfold owner at *;rw [h5] at ho;exact ho
theorem xE.sub {G:Gh}{h h':kO}{w:World}{id:Nat}{bl:lN}(s:Sub h h') (b:xE G h w id bl):xE G h' w id bl:=by
 cases bl with
 | cells cs =>
  obtain⟨C,e,h1,h2,h3,h4⟩:=b
  exact⟨C,e,h1,h2,h3,fun i v hv=>⟨(h4 i v hv).1,(h4 i v hv).2.sub s⟩⟩
 | tcells t cs =>
  obtain⟨C,h1,h2,h3,h4⟩:=b
  exact⟨C,h1,h2,h3,fun i v hv=>⟨(h4 i v hv).1,(h4 i v hv).2.sub s⟩⟩
 | map es =>
  obtain⟨E,c,h1,h2,h3,h4,hst⟩:=b
  refine⟨E,c,h1,h2,h3,fun i kv hkv=>?_,hst⟩
  obtain⟨m,h5,h6,h7,h8⟩:=h4 i kv hkv
  exact⟨m,h5,h6,h7,h8.sub s⟩
 | vec t sz cs =>
  obtain⟨b',cap,C,e,g1,g2,g3,g4,g5,g6,g7,g8,g9⟩:=b
  exact⟨b',cap,C,e,g1,g2,g3,g4,g5,g6,g7,g8,fun i v hv=>⟨(g9 i v hv).1,(g9 i v hv).2.sub s⟩⟩
 | _=>exact b
theorem Inv.oR {G:Gh}{h:kO}{w:World}(i:Inv G h w) (ids:List Nat):Inv G (oR ids h) w where
 ok:=i.ok
 mO:=fun id bl hb=>by
  rcases x5 ids h id with ⟨_,_,h5⟩ | ⟨h4,h5⟩
  ·rw [h5] at hb;cases hb;trivial
  ·exact(i.mO id bl (h5.symm.trans hb)).sub (OS ids h)
 inj:=fun a b c h1 h2=>i.inj a b c (tQ h1).1 (tQ h2).1
theorem KD {G G':Gh}{h h':kO}{w w':World}{ids:List Nat}(i:Inv G h w) (x:Ext G (Hk.oR ids h) w G' h' w') (i':Inv G' h' w') :
  Ext G h w G' (lO ids h h') w'∧Inv G' (lO ids h h') w'∧Sub h' (lO ids h h')∧∀id∈ids,pJ h id→(lO ids h h')[id]?=h[id]?:=by
 have gone:∀id,id∈ids→pJ h id→h'[id]?=some .gone∧G'.mO id=G.mO id∧G'.cur id=G.cur id:=by
  intro id h1 h2
  rcases x5 ids h id with ⟨_,_,h5⟩ | ⟨h4,_⟩
  ·obtain⟨bl,h6,h7⟩:=x.kinds id _ h5
   cases bl <;> simp_all [Kind]
  ·exact absurd ⟨h1,h2⟩ h4
 have get:=fun id=>Th h ids h' id fun a ha hb=>(ad0.1 (gone a ha hb).1).1
 have sub:Sub h' (lO ids h h'):=by
  refine⟨fun id ⟨b,h1,h2⟩=>?_,fun id n sz t hf=>?_,fun id ⟨b,h1,h2,h3⟩=>?_⟩
  ·rcases get id with ⟨_,h4,h5⟩ | ⟨_,h5⟩
   ·obtain⟨b',h6,h7,_⟩:=h4.nf
    exact⟨b',h5.trans h6,h7⟩
   ·exact⟨b,h5.trans h1,h2⟩
  ·rcases get id with ⟨h3,h4,_⟩ | ⟨_,h5⟩
   ·rw [(gone id h3 h4).1] at hf;cases hf
   ·exact h5.trans hf
  ·rcases get id with ⟨_,h4,h5⟩ | ⟨_,h5⟩
   ·obtain⟨b',h6,h7,h8⟩:=h4.nf
    exact⟨b',h5.trans h6,h7,h8⟩
   ·exact⟨b,h5.trans h1,h2,h3⟩
 have own:∀id b,owner G' (lO ids h h') id=some b→(id∈ids∧pJ h id∧owner G h id=some b)∨(¬(id∈ids∧pJ h id)∧owner G' h' id=some b):=by
  intro id b ho
  rcases get id with ⟨h3,h4,h5⟩ | ⟨h4,h5⟩
  ·obtain⟨_,e1,e2⟩:=gone id h3 h4
   refine .inl ⟨h3,h4,?_⟩
   unfold owner at ho ⊢
   rwa [h5,e1,e2] at ho
  ·refine .inr ⟨h4,?_⟩
   unfold owner at *;rw [h5] at ho;exact ho
 have ext:Ext G h w G' (lO ids h h') w':=by
  refine⟨x.os,x.tape,x.output,x.size,fun b hb hn=>x.frame b hb fun id ho=>hn id (tQ ho).1,x.hmono,fun id b ho hlt=>?_,fun id bl hb=>?_⟩
  ·rcases own id b ho with ⟨_,_,h2⟩ | ⟨_,h2⟩
   ·exact h2
   ·exact(tQ (x.own id b h2 hlt)).1
  ·rcases get id with ⟨h3,h4,h5⟩ | ⟨h4,h5⟩
   ·refine⟨bl,h5.trans hb,?_⟩
    obtain⟨_,e1,e2⟩:=gone id h3 h4
    cases bl <;> simp [Kind,e1,e2]
   ·rcases x5 ids h id with ⟨h6,h7,_⟩ | ⟨_,h7⟩
    ·exact absurd ⟨h6,h7⟩ h4
    ·obtain⟨bl',h8,h9⟩:=x.kinds id bl (h7.trans hb)
     exact⟨bl',h5.trans h8,h9⟩
 refine⟨ext,⟨i'.ok,fun id bl hb=>?_,fun a b c h1 h2=>?_⟩,sub,fun id h1 h2=>?_⟩
 ·rcases get id with ⟨h3,h4,h5⟩ | ⟨h4,h5⟩
  ·have hb':h[id]?=some bl:=h5.symm.trans hb
   obtain⟨_,e1,e2⟩:=gone id h3 h4
   refine(i.mO id bl hb').OW ext.toMono e1 e2 fun b ho=>?_
   refine x.frame b (i.lt (by rw [mM hb'];exact ho)) fun j hj=>?_
   obtain⟨h6,h7⟩:=tQ hj
   have:=i.inj j id _ h6 (by rw [mM hb'];exact ho)
   subst this
   exact h7 ⟨h3,h4⟩
  ·exact(i'.mO id bl (h5.symm.trans hb)).sub sub
 ·rcases own a c h1 with ⟨_,a2,a3⟩ | ⟨a1,a2⟩ <;> rcases own b _ h2 with ⟨_,b2,b3⟩ | ⟨b1,b2⟩
  ·exact i.inj a b _ a3 b3
  ·exact i.inj a b _ a3 (tQ (x.own b _ b2 (i.lt a3))).1
  ·exact i.inj a b _ (tQ (x.own a _ a2 (i.lt b3))).1 b3
  ·exact i'.inj a b c a2 b2
 ·rcases get id with ⟨_,_,h5⟩ | ⟨h4,_⟩
  ·exact h5
  ·exact absurd ⟨h1,h2⟩ h4
section
variable {G G':Gh}{h h':kO}{w:World}{m:Nat}
structure Left (G:Gh) (h:kO) (G':Gh) (h':kO) (m:Nat):Prop where
 hmono:∀b k v,G.H b k=some v→G'.H b k=some v
 mO:G'.mO=G.mO
 cur:G'.cur=G.cur
 live:∀id,id<m→Hk.live h id→Hk.live h' id
 front:∀(id n sz t:Nat),id<m→h[id]?=some (.front n sz t)→h'[id]?=some (.front n sz t)
 nf:∀id,id<m→uA h id→uA h' id
theorem tE (l:Left G h G' h' m) {v:kN}{V:Value}(hs:v.sC m=true) (r:k_ G h v V):k_ G' h' v V:=by
 cases r with
 | p v V hp=>exact .p v V (hp.mono l.hmono)
 | agg cs C hl hh=>simp [kN.sC] at hs
 | tuple cs C hl hh=>simp [kN.sC] at hs
 | nil=>exact .nil
 | own rows id n sz V hp hf hn hr hc =>
  have hid:id<m:=by simpa [kN.sC,tS] using hs
  exact .own rows id n sz V (hp.mono l.hmono) (l.front _ _ _ _ hid hf) hn hr (by rw [l.cur];exact hc)
 | ownv id V hp hb =>
  have hid:id<m:=by simpa [kN.sC,tS] using hs
  exact .ownv id V (hp.mono l.hmono) (l.nf _ hid hb)
 | vslice id tot off len sz b cap hl ht hc hv =>
  have hid:id<m:=by simpa [kN.sC,tS] using hs
  exact .vslice id tot off len sz b cap (l.nf _ hid hl) (by rw [l.cur];exact ht) hc (by rw [l.cur];exact hv)
 | vptr id tot off b hl ht hv =>
  have hid:id<m:=by simpa [kN.sC,tS] using hs
  exact .vptr id tot off b (l.nf _ hid hl) (by rw [l.cur];exact ht) (by rw [l.cur];exact hv)
 | ptr id off hl =>
  have hid:id<m:=by simpa [kN.sC,tS] using hs
  rw [←l.mO];exact .ptr id off (l.live _ hid hl)
 | mslice id off len sz cap hl hc =>
  have hid:id<m:=by simpa [kN.sC,tS] using hs
  rw [←l.mO];exact .mslice id off len sz cap (l.live _ hid hl) hc
 | mslice0 id off sz cap a=>exact .mslice0 id off sz cap a
 | map id hl =>
  have hid:id<m:=by simpa [kN.sC,tS] using hs
  rw [←l.mO];exact .map id (l.live _ hid hl)
 | func f first cap F C hlf hlc hf hc =>
  simp only [kN.sC,ae7,List.isEmpty_iff] at hs
  obtain⟨rfl,rfl⟩:=hs
  exact .func f [] [] F C hlf hlc (by simp) (by simp)
 | iface t v V hh=>simp [kN.sC] at hs
theorem u_ (l:Left G h G' h' m) {v:kN}{V:Value}(hs:v.rI m=true) (r:k_ G h v V):k_ G' h' v V:=by
 cases v with
 | agg cs =>
  obtain⟨C,rfl,hl,hr⟩:=r.vB
  simp only [kN.rI,al0] at hs
  exact .agg cs C hl fun i u hu=>tE l (hs u (ae0 hu)) (hr i u hu)
 | iface t v =>
  obtain⟨W,rfl,hr⟩:=r.zZ
  exact .iface t v W (tE l hs hr)
 | func f first cap =>
  obtain⟨F,C,rfl,hlf,hlc,hf,hc⟩:=r.Dr
  simp only [kN.rI,ae7,al0] at hs
  exact .func f first cap F C hlf hlc (fun i u hu=>tE l (hs.1 u (ae0 hu)) (hf i u hu)) (fun i u hu=>tE l (hs.2 u (ae0 hu)) (hc i u hu))
 | _=>exact tE l hs r
theorem Ps {id:Nat}{b:lN}(hb:(h.take m)[id]?=some b):id<m∧h[id]?=some b:=by
 rw [ah8] at hb
 split at hb
 ·rename_i hlt;exact⟨hlt,hb⟩
 ·cases hb
theorem uT {id b:Nat}(ho:owner G (h.take m) id=some b):id<m∧owner G h id=some b:=by
 obtain⟨bl,h1,h2⟩:=oC ho
 obtain⟨h3,h4⟩:=Ps h1
 exact⟨h3,by rw [mM h4];exact h2⟩
theorem z7:Left G h G (h.take m) m where
 hmono:=fun _ _ _ h=>h
 mO:=rfl
 cur:=rfl
 live:=fun id hid ⟨b,h1,h2⟩=>⟨b,by rw [ah8,if_pos hid];exact h1,h2⟩
 front:=fun id n sz t hid hf=>by rw [ah8,if_pos hid];exact hf
 nf:=fun id hid ⟨b,h1,h2⟩=>⟨b,by rw [ah8,if_pos hid];exact h1,h2⟩
theorem Inv.take (i:Inv G h w) (hs:(h.take m).all (nH m)=true):Inv G (h.take m) w where
 ok:=i.ok
 mO:=fun id bl hb=>by
  obtain⟨h1,h2⟩:=Ps hb
  have h3:nH m bl=true:=al0.1 hs bl (ae0 hb)
  have h4:=i.mO id bl h2
  cases bl with
  | cells cs =>
   simp only [nH,al0] at h3
   obtain⟨C,e,g1,g2,g3,g4⟩:=h4
   exact⟨C,e,g1,g2,g3,fun j v hv=>⟨(g4 j v hv).1,u_ z7 (h3 v (ae0 hv)) (g4 j v hv).2⟩⟩
  | tcells t cs =>
   simp only [nH,al0] at h3
   obtain⟨C,g1,g2,g3,g4⟩:=h4
   exact⟨C,g1,g2,g3,fun j v hv=>⟨(g4 j v hv).1,u_ z7 (h3 v (ae0 hv)) (g4 j v hv).2⟩⟩
  | map es =>
   simp only [nH,al0] at h3
   obtain⟨C,e,g1,g2,g3,g4,hst⟩:=h4
   refine⟨C,e,g1,g2,g3,fun j kv hv=>?_,hst⟩
   obtain⟨mm,g5,g6,g7,g8⟩:=g4 j kv hv
   exact⟨mm,g5,g6,g7,u_ z7 (h3 kv (ae0 hv)) g8⟩
  | vec t sz cs =>
   simp only [nH,al0] at h3
   obtain⟨b',cap,C,e,g1,g2,g3,g4,g5,g6,g7,g8,g9⟩:=h4
   exact⟨b',cap,C,e,g1,g2,g3,g4,g5,g6,g7,g8,fun j v hv=>⟨(g9 j v hv).1,u_ z7 (h3 v (ae0 hv)) (g9 j v hv).2⟩⟩
  | _=>exact h4
 inj:=fun a b c h1 h2=>i.inj a b c (uT h1).2 (uT h2).2
theorem ao4 {t:kO}{w':World}(i:Inv G h w) (x:Ext G (h.take m) w G' t w') (i':Inv G' t w') (ht:t.length=m) :
  ∃G2,Ext G h w G2 (t++h.drop m) w'∧Inv G2 (t++h.drop m) w'∧Cb G' t G2 (t++h.drop m):=by
 let G2:Gh:={ H:=G'.H,mO:=fun id=>if id<m then G'.mO id else G.mO id,cur:=fun id=>if id<m then G'.cur id else G.cur id }
 have b1:∀id,id<m→G2.mO id=G'.mO id:=fun id hid=>if_pos hid
 have c1:∀id,id<m→G2.cur id=G'.cur id:=fun id hid=>if_pos hid
 have b2:∀id,¬id<m→G2.mO id=G.mO id:=fun id hid=>if_neg hid
 have c2:∀id,¬id<m→G2.cur id=G.cur id:=fun id hid=>if_neg hid
 have g1:∀id,id<m→(t++h.drop m)[id]?=t[id]?:=fun id hid=>ah6 (by omega)
 have g2:∀id,¬id<m→(t++h.drop m)[id]?=h[id]?:=fun id hid=>by
  rw [af7 (by omega),ah9,ht,show m+(id-m)=id by omega]
 have kn:∀{A B C D:Gh}{id:Nat}{x y:lN},C.mO id=A.mO id→C.cur id=A.cur id→D.mO id=B.mO id→D.cur id=B.cur id→Kind A B id x y→Kind C D id x y:=by
  intro A B C D id x y e1 e2 e3 e4 hk
  cases x <;> cases y <;> simp_all [Kind]
 have own:∀id b,owner G2 (t++h.drop m) id=some b→(id<m∧owner G' t id=some b)∨(¬id<m∧owner G h id=some b):=by
  intro id b ho
  by_cases hid:id<m
  ·refine .inl ⟨hid,?_⟩
   unfold owner at ho ⊢
   rwa [g1 id hid,b1 id hid,c1 id hid] at ho
  ·refine .inr ⟨hid,?_⟩
   unfold owner at ho ⊢
   rwa [g2 id hid,b2 id hid,c2 id hid] at ho
 have ext:Ext G h w G2 (t++h.drop m) w':=by
  refine⟨x.os,x.tape,x.output,x.size,fun b hb hn=>x.frame b hb fun id ho=>hn id (uT ho).2,x.hmono,fun id b ho hlt=>?_,fun id bl hb=>?_⟩
  ·rcases own id b ho with ⟨_,h2⟩ | ⟨_,h2⟩
   ·exact(uT (x.own id b h2 hlt)).2
   ·exact h2
  ·by_cases hid:id<m
   ·obtain⟨bl',h1,h2⟩:=x.kinds id bl (by rw [ah8,if_pos hid];exact hb)
    exact⟨bl',by rw [g1 id hid];exact h1,kn rfl rfl (b1 id hid) (c1 id hid) h2⟩
   ·exact⟨bl,by rw [g2 id hid];exact hb,kn rfl rfl (b2 id hid) (c2 id hid) (Kind.refl G id bl)⟩
 have mono:Cb G' t G2 (t++h.drop m):=⟨fun _ _ _ h=>h,fun id bl hb=>by
  have hid:id<m:=by rw [←ht];exact(ad0.1 hb).1
  exact⟨bl,by rw [g1 id hid];exact hb,kn rfl rfl (b1 id hid) (c1 id hid) (Kind.refl G' id bl)⟩⟩
 refine⟨G2,ext,⟨i'.ok,fun id bl hb=>?_,fun a b c ha hb=>?_⟩,mono⟩
 ·by_cases hid:id<m
  ·rw [g1 id hid] at hb
   exact(i'.mO id bl hb).OW mono (b1 id hid) (c1 id hid) fun b _=>⟨rfl,fun _=>rfl⟩
  ·rw [g2 id hid] at hb
   refine(i.mO id bl hb).OW ext.toMono (b2 id hid) (c2 id hid) fun b ho=>?_
   refine x.frame b ((i.mO id bl hb).lt ho) fun j hj=>?_
   obtain⟨j1,j2⟩:=uT hj
   have:=i.inj j id b j2 (by rw [mM hb];exact ho)
   omega
 ·rcases own a c ha with ⟨a1,a2⟩ | ⟨a1,a2⟩ <;> rcases own b c hb with ⟨b1,b2⟩ | ⟨b1,b2⟩
  ·exact i'.inj a b c a2 b2
  ·have:=i.inj a b c (uT (x.own a c a2 (i.lt b2))).2 b2
   omega
  ·have:=i.inj a b c a2 (uT (x.own b c b2 (i.lt a2))).2
   omega
  ·exact i.inj a b c a2 b2
end
end
section
open Go Go.RowKit
section
variable {J:Act→Prop}{cx:Cx}{o:Oper}{ρ:List kN}{h:kO}{kv kp:kN→kO→Option R}{r:R}{ids:List Nat}{ops:Array Oper}{G:Gh}{w:World}{a:Act}{Q:Exit→Act→World→Prop}{K:Act→World→Prop}
theorem zX (hX:tO cx.P cx.A) (hK:qR cx.P cx.A cx.K) (hb:mP cx o ids ρ h kv kp=some r) (i:Inv G h w) (gl:o_ cx.A G h w) (s:nC J G h ρ a)
  (hkv:∀v h' G' w' V,kv v h'=some r→Ext G h w G' h' w'→Inv G' h' w'→k_ G' h' v V→(∀id∈ids,pJ h id→h'[id]?=h[id]?)→K (a.put o.dst V) w')
  (hkp:Vo kp r G h w a Q):o.wp cx.P a w K Q:=by
 unfold mP at hb
 cases hc:cx.ck with
 | true =>
  rw [hc] at hb
  refine Aq hX hK none hb i gl s (fun v h' G' w' V hk x i' rv=>?_) hkp
  obtain⟨h1,h2⟩:=Dn.1 hk
  exact hkv v h' G' w' V h2 x i' rv fun id hid hb=>by
   obtain⟨b,hb,_⟩:=hb.nf
   rw [h1 id hid b hb,hb]
 | false =>
 rw [hc] at hb
 simp only [cond_false] at hb
 refine Aq hX hK none hb (i.oR ids) (gl.sub rfl fun id b ho=>⟨id,(tQ ho).1⟩) ⟨s.len,fun j v hv=>(s.rel j v hv).sub (OS ids h),s.df⟩ ?_ ?_
 ·intro v h' G' w' V hk x i' rv
  obtain⟨x2,i2,sb,kp2⟩:=KD i x i'
  exact hkv v _ G' w' V hk x2 i2 (rv.sub sb) kp2
 ·intro v h' G' w' V hk x i' rv
  obtain⟨x2,i2,sb,kp2⟩:=KD i x i'
  exact hkp v _ G' w' V hk x2 i2 (rv.sub sb)
theorem Oc {j d:Nat}{g:Bool}(hd:(ops.toList[j]?).bind (·.dst)=some d) (s:nC J G h ρ a) (hg:ρ.getD d .junk=.bool g):yielded ops a.tmps j=some g:=by
 have h1:=s.get d
 rw [hg] at h1
 have h2:=h1.uJ
 have h3:a.tmps[d]?=some (.bool g):=by
  rw [ad1] at h2
  cases h4:a.tmps[d]? with
  | none=>rw [h4] at h2;cases h2
  | some v=>rw [h4] at h2;simp at h2;rw [h2]
 rw [ah1] at hd
 simp [yielded,hd,h3]
theorem Od {j d:Nat}(hd:(ops.toList[j]?).bind (·.dst)=some d) (s:nC J G h ρ a) (hg:ρ.getD d .junk=.tuple []):yielded ops a.tmps j=none:=by
 have h1:=s.get d
 rw [hg] at h1
 have h2:=h1.Tg
 rw [ah1] at hd
 unfold yielded
 rw [hd]
 simp only [aq5]
 rw [ad1] at h2
 cases h4:a.tmps[d]? with
 | none=>rfl
 | some v=>rw [h4] at h2;simp at h2;rw [h2];rfl
theorem w_ {n:Nat}(hX:tO cx.P cx.A) (hK:qR cx.P cx.A cx.K) (hn:ops[n]?=some o) (hb:sN cx ops.toList o ids ρ h kv kp=some r) (i:Inv G h w) (gl:o_ cx.A G h w) (s:nC J G h ρ a)
  (hkv:∀v h' G' w' V,kv v h'=some r→Ext G h w G' h' w'→Inv G' h' w'→k_ G' h' v V→(∀id∈ids,pJ h id→h'[id]?=h[id]?)→K (a.put o.dst V) w')
  (hkp:Vo kp r G h w a Q):wpOp cx.P ops Q n K a w:=by
 unfold wpOp
 simp only [hn]
 have skip:kv (.tuple []) h=some r→K (a.put o.dst undef) w:=fun hk =>
  hkv _ h G w _ hk (Ext.refl G h w) i (.p _ _ (.tuple [] #[] rfl (by simp))) fun _ _ _=>rfl
 have run:mP cx o ids ρ h kv kp=some r→o.wp cx.P a w K Q:=fun hb=>zX hX hK hb i gl s hkv hkp
 rw [yL] at hb
 unfold xT at hb
 cases hg:o.guard with
 | none =>
  simp only [hg] at hb
  rw [if_pos (by simp [Region.wanted,hg])]
  exact .inl (run hb)
 | some jw =>
  obtain⟨j,want⟩:=jw
  simp only [hg] at hb
  cases hd:(ops.toList[j]?).bind (·.dst) with
  | none=>simp only [hd] at hb;cases hb
  | some d =>
   simp only [hd] at hb
   split at hb
   ·rename_i g hgv
    have hy:=Oc hd s hgv
    cases want <;> cases g <;> simp only [cond_true,cond_false] at hb
    ·rw [if_pos (by simp [Region.wanted,hg,hy])];exact .inl (run hb)
    ·rw [if_neg (by simp [Region.wanted,hg,hy])];exact skip hb
    ·rw [if_neg (by simp [Region.wanted,hg,hy])];exact skip hb
    ·rw [if_pos (by simp [Region.wanted,hg,hy])];exact .inl (run hb)
   ·rename_i hgv
    have hy:=Od hd s hgv
    rw [if_neg (by simp [Region.wanted,hg,hy])];exact skip hb
   ·cases hb
open Classical in
theorem HO (hrb:cx.rb=false) {n:Nat}(hX:tO cx.P cx.A) (hK:qR cx.P cx.A cx.K) (hn:ops[n]?=some o) (hb:sN cx ops.toList o ids ρ h kv kp=some r) (hids:oV o=false→ids=[]) (i:Inv G h w) (gl:o_ cx.A G h w) (s:nC J G h ρ a)
  (hkv:∀v h' G' w' V,kv v h'=some r→Ext G h w G' h' w'→Inv G' h' w'→k_ G' h' v V→((oV o=false→h'=h)∧∀id∈ids,pJ h id→h'[id]?=h[id]?)→K (a.put o.dst V) w')
  (hkp:Vo kp r G h w a Q):wpOp cx.P ops Q n K a w:=by
 cases he:oV o with
 | true=>exact w_ hX hK hn hb i gl s (fun v h' G' w' V h1 h2 h3 h4 h5=>hkv v h' G' w' V h1 h2 h3 h4 ⟨fun h=>(by rw [he] at h;cases h),h5⟩) hkp
 | false =>
  cases hids he
  obtain⟨v0,h1,h2⟩:=CC hrb he hb
  have h3:=h2 h (fun v h'=>if v=v0∧h'=h then some r else none) (fun _ _=>none) fun _ _ _=>rfl
  simp only [and_self,if_true] at h3
  refine w_ hX hK hn h3 i gl s (fun v h' G' w' V h4 h5 h6 h7 h8=>?_) (fun v h' G' w' V h4=>by cases h4)
  split at h4
  ·rename_i hvh
   obtain⟨rfl,rfl⟩:=hvh
   exact hkv _ _ G' w' V h1 h5 h6 h7 ⟨fun _=>rfl,h8⟩
  ·cases h4
theorem JL {m:Nat}(hX:tO cx.P cx.A) (hK:qR cx.P cx.A cx.K) (hb:wJ cx o m ids ρ h kv=some r) (i:Inv G h w) (gl:o_ cx.A G h w) (s:nC J G h ρ a)
  (hkv:∀v h' G' w' V,kv v h'=some r→Ext G h w G' h' w'→Inv G' h' w'→k_ G' h' v V→(∀id∈ids,pJ h id→h'[id]?=h[id]?)→K (a.put o.dst V) w'):o.wp cx.P a w K Q:=by
 unfold wJ at hb
 cases hs:(h.take m).all (nH m) with
 | false=>rw [hs] at hb;cases hb
 | true =>
  rw [hs] at hb
  simp only [cond_true] at hb
  obtain⟨r0,h1,h2⟩:=aa6.1 hb
  unfold JP at h2
  split at h2
  ·rename_i v t
   cases hl:t.length == m with
   | false=>rw [hl] at h2;cases h2
   | true =>
    rw [hl] at h2
    simp only [cond_true] at h2
    have hl:t.length=m:=by simpa using hl
    have s2:nC J G (h.take m) (ρ.map (tK m)) a:=⟨by rw [List.length_map];exact s.len,fun j u hu=>by
     rw [ah3] at hu
     cases hj:ρ[j]? with
     | none=>rw [hj] at hu;cases hu
     | some u0 =>
      rw [hj] at hu
      simp only [Option.map_some,aa9] at hu
      subst hu
      unfold tK
      cases hsh:u0.rI m with
      | true=>exact u_ z7 hsh (s.rel j u0 hj)
      | false=>exact .p _ _ (.junk _),s.df⟩
    refine zX hX hK h1 (i.take hs) (gl.sub rfl fun id b ho=>by
     obtain⟨bl,h1',h2'⟩:=oC ho
     have h3':h[id]?=some bl:=by
      rw [ah8] at h1'
      split at h1'
      ·exact h1'
      ·cases h1'
     exact⟨id,by rw [mM h3'];exact h2'⟩) s2 (fun v' h' G' w' V e1 e2 e3 e4 e5=>?_) (fun v' h' G' w' V e1=>by simp [Gg] at e1)
    simp only [lI,aa9,ap2,List.cons.injEq,and_true,true_and] at e1
    obtain⟨rfl,rfl⟩:=e1
    obtain⟨G2,x2,i2,m2⟩:=ao4 i e2 e3 hl
    refine hkv _ _ G2 w' V h2 x2 i2 (e4.mono m2) fun id hid hblk=>?_
    by_cases hlt:id<m
    ·rw [ah6 (by omega)]
     have:(h.take m)[id]?=h[id]?:=by rw [ah8,if_pos hlt]
     rw [e5 id hid (by unfold pJ at hblk ⊢;rwa [this]),this]
    ·rw [af7 (by omega),ah9,hl,show m+(id-m)=id by omega]
  ·cases h2
open Classical in
theorem Gc (hrb:cx.rb=false) {n m:Nat}{it:Item}(hX:tO cx.P cx.A) (hK:qR cx.P cx.A cx.K) (hn:ops[n]?=some it.o) (hb:nB cx ops.toList m it ids ρ h kv kp=some r) (hids:oV it.o=false→ids=[]) (i:Inv G h w) (gl:o_ cx.A G h w) (s:nC J G h ρ a)
  (hkv:∀v h' G' w' V,kv v h'=some r→Ext G h w G' h' w'→Inv G' h' w'→k_ G' h' v V→Vn it m ids h h'→K (a.put it.o.dst V) w')
  (hkp:Vo kp r G h w a Q):wpOp cx.P ops Q n K a w:=by
 have hf0:=hb
 unfold nB at hb
 cases hr:it.rsv with
 | some j =>
  simp only [hr] at hb
  cases hf:rO it.o with
  | false=>rw [hf] at hb;cases hb
  | true =>
   rw [hf] at hb
   simp only [cond_true] at hb
   obtain⟨v0,b,f1,f2,f3⟩:=HT hf hb
   have f4:=f3 h (fun v h'=>if v=v0∧h'=h.set (m+j) b then some r else none) (fun _ _=>none) f1
   simp only [and_self,if_true] at f4
   have hg:it.o.guard=none:=by
    unfold rO at hf
    simp only [ae7,Option.isNone_iff_eq_none] at hf
    exact hf.1
   unfold wpOp
   simp only [hn]
   rw [if_pos (by simp [Region.wanted,hg])]
   refine .inl (Aq hX hK _ f4 i gl s (fun v h' G' w' V e1 e2 e3 e4=>?_) (fun v h' G' w' V e1=>by cases e1))
   split at e1
   ·rename_i hvh
    obtain⟨rfl,rfl⟩:=hvh
    refine hkv _ _ G' w' V f2 e2 e3 e4 ⟨fun he=>(by rw [Km hf] at he;cases he),fun id _ hbl=>?_,fun j' hj'=>?_,fun hn=>(by rw [hr] at hn;cases hn)⟩
    ·refine List.getElem?_set_ne fun hji=>?_
     subst hji
     exact Sq f1 hbl
    ·rw [hr] at hj';cases hj'
     exact⟨b,f1,rfl⟩
   ·cases e1
 | none =>
  simp only [hr] at hb
  cases hh:it.hid with
  | true =>
   rw [hh] at hb
   simp only [cond_true] at hb
   cases hf:vF it.o with
   | false=>rw [hf] at hb;cases hb
   | true =>
    rw [hf] at hb
    simp only [cond_true] at hb
    obtain⟨v0,t,f1,f2,f3⟩:=Qe hb
    have f4:=f3 h (fun v h'=>if v=v0∧h'=t++h.drop m then some r else none) rfl
    simp only [and_self,if_true] at f4
    have hg:it.o.guard=none:=by
     unfold vF at hf
     simp only [ae7,Option.isNone_iff_eq_none] at hf
     exact hf.1
    unfold wpOp
    simp only [hn]
    rw [if_pos (by simp [Region.wanted,hg])]
    refine .inl (JL hX hK f4 i gl s (fun v h' G' w' V e1 e2 e3 e4 e5=>?_))
    split at e1
    ·rename_i hvh
     obtain⟨rfl,rfl⟩:=hvh
     exact hkv _ _ G' w' V f2 e2 e3 e4 ⟨fun he=>(by rw [OG hf] at he;cases he),e5,fun j hj=>(by rw [hr] at hj;cases hj),fun _ _=>⟨t,f1,rfl⟩⟩
    ·cases e1
  | false =>
   rw [hh] at hb
   simp only [cond_false] at hb
   refine HO hrb hX hK hn hb hids i gl s (fun v h' G' w' V e1 e2 e3 e4 e5=>?_) hkp
   exact hkv v h' G' w' V e1 e2 e3 e4 ⟨e5.1,e5.2,fun j hj=>(by rw [hr] at hj;cases hj),fun _ hh'=>(by rw [hh] at hh';cases hh')⟩
def PJ (J:Act→Prop) (ops:List Oper):Prop:=∀o∈ops,∀(a:Act) (V:Value),J a→J (a.put o.dst V)
theorem PJ.at {ops:Array Oper}(hJ:PJ J ops.toList) {n:Nat}{o:Oper}(hn:ops[n]?=some o) {a:Act}{V:Value}(h:J a):J (a.put o.dst V) :=
 hJ o (ae0 (by rw [ah1];exact hn)) a V h
theorem Dv {k:List kN→kO→Option R}(l2:List Nat) (hJ:PJ J ops.toList) (hX:tO cx.P cx.A) (hK:qR cx.P cx.A cx.K):∀(items:List Item) (seen ρ:List kN) (h:kO) (G:Gh) (w:World) (a:Act),
  (∀it∈items,ops[it.i]?=some it.o∧it.locks=[]∧it.rsv=none∧it.hid=false)→nF cx ops.toList 0 items seen ρ h k kp=some r→Inv G h w→o_ cx.A G h w→nC J G h ρ a →
  (∀ρ' h' G' w' a',k ρ' h'=some r→Ext G h w G' h' w'→Inv G' h' w'→nC J G' h' ρ' a'→wpOps cx.P ops Q l2 a' w') →
  (∀v h' G' w' V a',kp v h'=some r→Ext G h w G' h' w'→Inv G' h' w'→k_ G' h' v V→J a'→Q (.panic [{ v:=V,recovered:=false }]) a' w') →
  wpOps cx.P ops Q (items.map (·.i)++l2) a w:=by
 intro items
 induction items with
 | nil=>intro seen ρ h G w a _ hb i gl s hk _;exact hk _ _ G w a hb (Ext.refl G h w) i s
 | cons it rest ih =>
  intro seen ρ h G w a hit hb i gl s hk hkp
  obtain⟨h1,h2,h3,h4⟩:=hit it (by simp)
  simp only [nF,vY,nB,h3,h4,cond_false,h2,lA,List.filterMap_nil] at hb
  rw [ar6,aq6,wpOps_cons]
  refine w_ hX hK h1 hb i gl s (fun v h' G' w' V e1 e2 e3 e4 _=>?_) (fun v h' G' w' V e1 e2 e3 e4=>hkp v h' G' w' V a e1 e2 e3 e4 s.df)
  exact ih _ _ _ G' w' _ (fun x hx=>hit x (by simp [hx])) e1 e3 (gl.mono e2) ((s.mono e2.toMono).put it.o.dst e4 (hJ.at h1 s.df))
   (fun ρ' h'' G'' w'' a' f1 f2 f3 f4=>hk ρ' h'' G'' w'' a' f1 (e2.trans f2) f3 f4)
   (fun v h'' G'' w'' V a' f1 f2 f3 f4 f5=>hkp v h'' G'' w'' V a' f1 (e2.trans f2) f3 f4 f5)
theorem FT {k:List kN→kO→Option R}(hJ:PJ J ops.toList) (hX:tO cx.P cx.A) (hK:qR cx.P cx.A cx.K) (items:List Item) (seen ρ:List kN) (h:kO) (G:Gh) (w:World) (a:Act)
  (h1:∀it∈items,ops[it.i]?=some it.o∧it.locks=[]∧it.rsv=none∧it.hid=false) (h2:nF cx ops.toList 0 items seen ρ h k kp=some r) (h3:Inv G h w) (h4:o_ cx.A G h w) (h5:nC J G h ρ a)
  (h6:∀ρ' h' G' w' a',k ρ' h'=some r→Ext G h w G' h' w'→Inv G' h' w'→nC J G' h' ρ' a'→Q .normal a' w')
  (h7:∀v h' G' w' V a',kp v h'=some r→Ext G h w G' h' w'→Inv G' h' w'→k_ G' h' v V→J a'→Q (.panic [{ v:=V,recovered:=false }]) a' w') :
  wpOps cx.P ops Q (items.map (·.i)) a w:=by
 have:=Dv [] hJ hX hK items seen ρ h G w a h1 h2 h3 h4 h5 h6 h7
 rwa [List.append_nil] at this
theorem rP:(pC ops.toList).map (·.i)=ar2 ops.size∧∀it∈pC ops.toList,ops[it.i]?=some it.o∧it.locks=[]∧it.rsv=none∧it.hid=false:=by
 constructor
 ·apply List.ext_getElem?
  intro j
  simp only [pC,List.map_map,ah3,List.getElem?_zipIdx,List.getElem?_range',ah1]
  by_cases hj:j<ops.size
  ·simp [hj]
  ·simp [hj]
 ·intro it hit
  simp only [pC,List.mem_map] at hit
  obtain⟨⟨o,i⟩,h1,rfl⟩:=hit
  have:=List.mem_zipIdx_iff_getElem?.1 h1
  simp only [ah1] at this
  exact⟨this,rfl,rfl,rfl⟩
def G9 (ops:Array Oper) (listed:Array Bool) (i:Nat):Prop:=∀o,ops[i]?=some o→∀e∈o.after,Region.binds .any e=true→listed.getD e.on false=true
theorem J0 {t p:Nat}:(zS t).testBit p=decide (t=p):=by
 unfold zS
 rw [Nat.one_shiftLeft,Nat.testBit_two_pow]
theorem Ut {P:Nat→Prop}(acc:List Nat):∀(es:List Edge) (m:Nat),(∀p,m.testBit p=true→P p) →
  (∀e∈es,Region.binds .any e=true→P e.on∧∀p,(acc.getD e.on 0).testBit p=true→P p) →
  ∀p,(es.foldl (fun m e=>bif Region.binds .any e then m ||| zS e.on ||| acc.getD e.on 0 else m) m).testBit p=true→P p:=by
 intro es
 induction es with
 | nil=>intro m hm _ p hp;exact hm p hp
 | cons e es ih =>
  intro m hm he p hp
  refine ih _ (fun q hq=>?_) (fun x hx=>he x (by simp [hx])) p hp
  cases hbd:Region.binds .any e with
  | false=>simp only [hbd,cond_false] at hq;exact hm q hq
  | true =>
   simp only [hbd,cond_true,Nat.testBit_or,Bool.or_eq_true,J0,decide_eq_true_eq] at hq
   obtain⟨h1,h2⟩:=he e (by simp) hbd
   rcases hq with (hq | hq) | hq
   ·exact hm q hq
   ·exact hq ▸ h1
   ·exact h2 q hq
theorem JK {listed:Array Bool}(hdc:∀i,listed.getD i false=true→G9 ops listed i):∀(rest:List Oper) (pre:List Oper) (acc:List Nat),pre++rest=ops.toList→acc.length=pre.length →
  (∀q,G9 ops listed q→∀p,(acc.getD q 0).testBit p=true→listed.getD p false=true) →
  ∀q,G9 ops listed q→∀p,((HL rest acc).getD q 0).testBit p=true→listed.getD p false=true:=by
 intro rest
 induction rest with
 | nil=>intro pre acc _ _ h;exact h
 | cons o rest ih =>
  intro pre acc hpre hlen h
  refine ih (pre++[o]) _ (by simpa using hpre) (by simp [hlen]) fun q hq p hp=>?_
  have ho:ops[pre.length]?=some o:=by
   rw [←ah1,←hpre];simp
  rw [ad9,List.getElem?_append] at hp
  split at hp
  ·rename_i hlt
   exact h q hq p (by rw [ad9];exact hp)
  ·rename_i hge
   by_cases he:q=acc.length
   ·subst he
    simp only [Nat.sub_self,List.getElem?_cons_zero,Option.getD_some] at hp
    refine Ut (P:=fun p=>listed.getD p false=true) acc _ _ (by simp) (fun e hm hbd=>?_) p hp
    have h1:=hq o (by rw [hlen];exact ho) e (by simpa using hm) hbd
    exact⟨h1,h e.on (hdc e.on h1)⟩
   ·have:q-acc.length=(q-acc.length-1)+1:=by omega
    rw [this] at hp
    simp at hp
theorem Uu {listed:Array Bool}(hdc:∀i,listed.getD i false=true→G9 ops listed i) {q p:Nat}(hq:G9 ops listed q) (hp:((JJ ops.toList).getD q 0).testBit p=true):listed.getD p false=true :=
 JK hdc ops.toList [] [] rfl rfl (by simp) q hq p hp
theorem Bs {os:List Oper}{cl:List Nat}:∀{L:List Item},Au os cl L=true↔L.Pairwise fun p q=>H5 os cl p q=true
 | []=>by simp [Au]
 | p::r=>by simp [Au,Bs (L:=r)]
theorem PB (hrb:cx.rb=false) {m:Nat}{k:List kN→kO→Option R}(hJ:PJ J ops.toList) (hX:tO cx.P cx.A) (hK:qR cx.P cx.A cx.K) (hedges:∀i o,ops[i]?=some o→∀e∈o.after,Region.binds .any e=true→e.on<i) :
  ∀(n:Nat) (L:List Item) (seen ρ:List kN) (h:kO) (G:Gh) (w:World) (a:Act) (listed:Array Bool),L.length=n →
  Au ops.toList (JJ ops.toList) L=true→(∀it∈L,ops[it.i]?=some it.o∧(oV it.o=false→it.locks=[])∧(it.rsv≠none∨it.hid=true→oV it.o=true))→seen.length=ops.size→listed.size=ops.size →
  (∀j,listed.getD j true=false↔∃it∈L,it.i=j)→(∀i,listed.getD i false=true→G9 ops listed i) →
  nF cx ops.toList m L seen ρ h k kp=some r→Inv G h w→o_ cx.A G h w→nC J G h ρ a →
  (∀ρ' h' G' w' a',k ρ' h'=some r→Ext G h w G' h' w'→Inv G' h' w'→nC J G' h' ρ' a'→Q .normal a' w') →
  (∀v h' G' w' V a',kp v h'=some r→Ext G h w G' h' w'→Inv G' h' w'→k_ G' h' v V→J a'→Q (.panic [{ v:=V,recovered:=false }]) a' w') →
  wpAny cx.P .any ops Q n listed a w:=by
 intro n
 induction n with
 | zero =>
  intro L seen ρ h G w a listed hn _ _ _ _ hun _ hb i gl s hk _
  cases List.eq_nil_of_length_eq_zero hn
  refine⟨?_,hk _ _ G w a hb (Ext.refl G h w) i s⟩
  cases hr:Region.ready .any ops listed with
  | nil=>rfl
  | cons j js =>
   have hj:j∈Region.ready .any ops listed:=by rw [hr];simp
   obtain⟨it,hit,_⟩:=(hun j).1 (mem_ready.1 hj).1
   cases hit
 | succ n ih =>
  intro L seen ρ h G w a listed hn hp hit hseen hsz hun hdc hb i gl s hk hkp
  have lt:∀j,listed.getD j true=false→j<listed.size:=fun j hj=>by
   by_cases h:j<listed.size
   ·exact h
   ·simp [Array.getD,h] at hj
  have conv:∀j,j<listed.size→listed.getD j false≠true→listed.getD j true=false:=fun j hj hn=>by
   simp only [Array.getD,hj,dite_true] at hn ⊢
   simpa using hn
  have notIn:∀j,listed.getD j false=true→listed.getD j true=false→False:=fun j h1 h2=>by
   have:=lt j h2
   simp [Array.getD,this] at h1 h2
   rw [h1] at h2;cases h2
  have some_ready:∀m,(∃it∈L,it.i=m)→∃j,j∈Region.ready .any ops listed:=by
   intro m
   induction m using Nat.strongRecOn with
   | _ m ihm =>
    rintro⟨x,hx,rfl⟩
    by_cases hall:∀e∈x.o.after,Region.binds .any e=true→listed.getD e.on false=true
    ·exact⟨x.i,mem_ready.2 ⟨(hun x.i).2 ⟨x,hx,rfl⟩,x.o,(hit x hx).1,hall⟩⟩
    ·simp only [Classical.not_forall] at hall
     obtain⟨e,he,hbd,hnl⟩:=hall
     have hlt:=hedges x.i x.o (hit x hx).1 e he hbd
     have:=lt x.i ((hun x.i).2 ⟨x,hx,rfl⟩)
     exact ihm e.on hlt ((hun e.on).1 (conv e.on (by omega) hnl))
  refine⟨fun hr=>?_,fun j hj=>?_⟩
  ·obtain⟨x,hx⟩:=List.exists_mem_of_length_pos (l:=L) (by omega)
   obtain⟨y,hy⟩:=some_ready x.i ⟨x,hx,rfl⟩
   rw [hr] at hy;cases hy
  ·obtain⟨hju,o,hjo,hje⟩:=mem_ready.1 hj
   obtain⟨it,hitL,rfl⟩:=(hun j).1 hju
   obtain⟨pre,post,rfl⟩:=List.append_of_mem hitL
   have hpw:=Bs.1 hp
   have hsub:(pre++post).Sublist (pre++it::post):=List.Sublist.append (List.Sublist.refl _) (List.sublist_cons_self _ _)
   have hpw2:=hpw.sublist hsub
   have hpa:=List.pairwise_append.1 hpw
   have ho:o=it.o:=by have:=(hit it (by simp)).1;rw [hjo] at this;exact Option.some.inj this
   subst ho
   have hpre:∀p∈pre,indep ops.toList p it=true∧p.i≠it.i∧p.i<seen.length:=by
    intro p hpm
    have h1:=hpa.2.2 p hpm it (by simp)
    simp only [H5,ae7,Bool.or_eq_true,bne_iff_ne,Bool.not_eq_true'] at h1
    have hpu:=(hun p.i).2 ⟨p,by simp [hpm],rfl⟩
    refine⟨h1.2.resolve_left fun hbit=>?_,h1.1.1,by rw [hseen,←hsz];exact lt _ hpu⟩
    exact notIn p.i (Uu hdc (q:=it.i) (fun o' ho' e he hbd=>by rw [hjo] at ho';cases ho';exact hje e he hbd) hbit) hpu
   have hnd:(pre.map (·.i)).Nodup:=by
    rw [List.nodup_iff_pairwise_ne,List.pairwise_map]
    exact hpa.1.imp fun hpq=>by
     simp only [H5,ae7,bne_iff_ne] at hpq
     exact hpq.1.1
   have hpost:∀q∈pre++post,q.i≠it.i:=by
    intro q hq
    rcases List.mem_append.1 hq with hq | hq
    ·exact(hpre q hq).2.1
    ·have h1:=(List.pairwise_cons.1 hpa.2.1).1 q hq
     simp only [H5,ae7,bne_iff_ne] at h1
     exact Ne.symm h1.1.1
   obtain⟨ids,kv,e1,_,e3,e4⟩:=move hrb it post (hit it (by simp)).2.1 (hit it (by simp)).2.2 pre seen ρ h hpre hnd hb
   refine Gc hrb hX hK hjo e1 e3 i gl s (fun v h' G' w' V f1 f2 f3 f4 f5=>?_) (fun v h' G' w' V f1 f2 f3 f4=>hkp v h' G' w' V a f1 f2 f3 f4 s.df)
   have hlen:(pre++post).length=n:=by simp at hn ⊢;omega
   have hlt:=lt it.i hju
   refine ih (pre++post) _ _ h' G' w' _ _ hlen (Bs.2 hpw2) (fun x hx=>hit x (hsub.subset hx)) (by simpa using hseen) (by simpa using hsz) (fun q=>?_) (fun q hq=>?_) (e4 v h' f5 f1) f3 (gl.mono f2)
    ((s.mono f2.toMono).put it.o.dst f4 (hJ.at hjo s.df))
    (fun ρ' h'' G'' w'' a' g1 g2 g3 g4=>hk ρ' h'' G'' w'' a' g1 (f2.trans g2) g3 g4)
    (fun v h'' G'' w'' V a' g1 g2 g3 g4 g5=>hkp v h'' G'' w'' V a' g1 (f2.trans g2) g3 g4 g5)
   ·by_cases hq:it.i=q
    ·subst hq
     constructor
     ·intro h1;simp [Array.getD,hlt] at h1
     ·rintro⟨x,hx,he⟩;exact absurd he (hpost x hx)
    ·rw [getD_set_ne true hq,hun q]
     constructor
     ·rintro⟨x,hx,he⟩
      refine⟨x,?_,he⟩
      rcases List.mem_append.1 hx with hx | hx
      ·simp [hx]
      ·rcases List.mem_cons.1 hx with rfl | hx
       ·exact absurd he hq
       ·simp [hx]
     ·rintro⟨x,hx,he⟩;exact⟨x,hsub.subset hx,he⟩
   ·have hE:G9 ops listed q:=by
     by_cases hqi:it.i=q
     ·subst hqi;intro o' ho' e he hbd;rw [hjo] at ho';cases ho';exact hje e he hbd
     ·rw [getD_set_ne false hqi] at hq;exact hdc q hq
    exact fun o' ho' e he hbd=>getD_set_true (hE o' ho' e he hbd)
end
end
section
open Go Go.RowKit
section
variable {J:Act→Prop}{cx:Cx}{ρ:List kN}{h:kO}{k:List kN→kO→Option R}{r:R}{ops:Array Oper}{G:Gh}{w:World}{a:Act}{Q:Exit→Act→World→Prop}
theorem FZ:∀{fl:List Nat}{i k:Nat},GH fl i k≠none→i∈fl
 | [],_,_,h=>absurd rfl h
 | a::r,i,k,h=>by
  unfold GH at h
  cases ha:a == i with
  | true=>simp at ha;simp [ha]
  | false=>rw [ha] at h;exact List.mem_cons_of_mem _ (FZ h)
theorem HW {os:List Oper}{cl fl:List Nat}(hfl:∀i∈fl,aa7 rO os i=true):∀(l before:List Nat),∀it∈z0 os cl fl l before,os[it.i]?=some it.o∧(oV it.o=false→it.locks=[])∧(it.rsv≠none∨it.hid=true→oV it.o=true):=by
 intro l
 induction l with
 | nil=>intro before it hit;cases hit
 | cons i l ih =>
  intro before it hit
  unfold z0 at hit
  split at hit
  ·rename_i o ho
   rcases List.mem_cons.1 hit with rfl | hit
   ·refine⟨ho,fun he=>by simp at he;simp [he],fun hx=>?_⟩
    rcases hx with hx | hx
    ·have h1:=hfl i (FZ hx)
     simp only [aa7,ho] at h1
     exact Km h1
    ·simp only [ae7] at hx
     exact OG hx.1
   ·exact ih _ it hit
  ·cases hit
theorem Bx (ρ:List kN) (d:Option Tmp) (v:kN):(pD ρ d v).length=ρ.length:=by cases d <;> simp [pD]
theorem wK {os:List Oper}{m:Nat}{kp:kN→kO→Option R}(n:Nat):∀(items:List Item) (seen ρ:List kN) (h:kO),ρ.length=n →
  nF cx os m items seen ρ h k kp=nF cx os m items seen ρ h (fun ρ' h'=>if ρ'.length=n then k ρ' h' else none) kp:=by
 intro items
 induction items with
 | nil=>intro seen ρ h hn;simp [nF,hn]
 | cons it rest ih =>
  intro seen ρ h hn
  simp only [nF,vY]
  congr 1
  funext v h'
  exact ih _ _ _ (by rw [Bx,hn])
def sZ (J:Act→Prop) (n:Nat) (kn:List kN→kO→Option R) (ke:Ex→List kN→kO→Option R) (r:R) (G:Gh) (h:kO) (w:World) (Q:Exit→Act→World→Prop):Prop :=
 (∀ρ' h' G' w' a',kn ρ' h'=some r→Ext G h w G' h' w'→Inv G' h' w'→nC J G' h' ρ' a'→ρ'.length=n→Q .normal a' w') ∧
 (∀e ρ' h' G' w' a',ke e ρ' h'=some r→Ext G h w G' h' w'→Inv G' h' w'→nC J G' h' ρ' a'→ρ'.length=n →
  match e with
  | .exit id=>Q (.exit id) a' w'
  | .ret=>Q .ret a' w'
  | _=>True) ∧
 ∀v ρ' h' G' w' a' V,ke (.pan v) ρ' h'=some r→Ext G h w G' h' w'→Inv G' h' w'→k_ G' h' v V→J a'→Q (.panic [{ v:=V,recovered:=false }]) a' w'
theorem Ext.X0 {G':Gh}{h':kO}{w':World}(x:Ext G h { w with drawn:=w.drawn+1 } G' h' w'):Ext G h w G' h' w' :=
 ⟨x.os,x.tape,x.output,x.size,x.frame,x.hmono,x.own,x.kinds⟩
theorem Inv.B3 (i:Inv G h w) (n:Nat):Inv G (B3 n h) w∧Ext G h w G (B3 n h) w:=by
 cases n with
 | zero=>exact⟨i,Ext.refl G h w⟩
 | succ n =>
  have hfr:∀(n j:Nat) (bl:lN),(Kp n)[j]?=some bl→bl=.free:=by
   intro n
   induction n with
   | zero=>intro j bl hb;simp [Kp] at hb
   | succ n ih =>
    intro j bl hb
    cases j with
    | zero=>simp [Kp] at hb;exact hb.symm
    | succ j=>exact ih j bl (by simpa [Kp] using hb)
  refine i.push rfl rfl rfl (Nat.le_refl _) (fun _ _=>rfl) (fun _ _=>rfl) (fun _ _=>rfl) (fun _ _ _ h=>h) (fun _ _ _=>rfl) (fun b k v _ hv=>i.ok b k v hv) (fun j bl hb _=>?_) (fun j bl b hb ho=>?_) (fun j j' bl bl' b hb _ ho _=>?_)
  ·rw [hfr _ j bl hb];trivial
  ·rw [hfr _ j bl hb] at ho;cases ho
  ·rw [hfr _ j bl hb] at ho;cases ho
def Yz (P:Program) (ops:Array Oper) (draw:Bool) (Q:Exit→Act→World→Prop) (a:Act) (w:World):Prop :=
 match draw with
 | false=>wpOps P ops Q (ar2 ops.size) a w
 | true=>wpAny P .any ops Q ops.size (Array.replicate ops.size false) a { w with drawn:=w.drawn+1 }
theorem EL {draw:Bool}(hJ:PJ J ops.toList) (hm:cx.P.follows .mixedOrders=true) (hX:tO cx.P cx.A) (hK:qR cx.P cx.A cx.K) {kp:kN→kO→Option R}(hb:uS cx ops.toList draw ρ h k kp=some r) (i:Inv G h w) (gl:o_ cx.A G h w) (s:nC J G h ρ a)
  (hn:ρ.length=cx.n)
  (hk:∀ρ' h' G' w' a',k ρ' h'=some r→Ext G h w G' h' w'→Inv G' h' w'→nC J G' h' ρ' a'→ρ'.length=cx.n→Q .normal a' w')
  (hkp:∀v h' G' w' a' V,kp v h'=some r→Ext G h w G' h' w'→Inv G' h' w'→k_ G' h' v V→J a'→Q (.panic [{ v:=V,recovered:=false }]) a' w'):Yz cx.P ops draw Q a w:=by
 cases draw with
 | false =>
  simp only [uS] at hb
  rw [wK cx.n _ _ _ _ hn] at hb
  show wpOps _ _ _ _ _ _
  rw [←rP.1]
  refine FT hJ hX hK _ _ _ _ G w a rP.2 hb i gl s (fun ρ' h' G' w' a' e1 e2 e3 e4=>?_) (fun v h' G' w' V a' e1 e2 e3 e4 e5=>?_)
  ·split at e1
   ·rename_i hl;exact hk ρ' h' G' w' a' e1 e2 e3 e4 hl
   ·cases e1
  ·exact hkp v h' G' w' a' V e1 e2 e3 e4 e5
 | true =>
  simp only [uS] at hb
  cases hd:An ops.toList with
  | none=>simp only [hd] at hb;cases hb
  | some items =>
   simp only [hd] at hb
   unfold An at hd
   simp only [] at hd
   generalize hit:z0 ops.toList (JJ ops.toList) (HU ops.toList (JJ ops.toList)) (TH ops.toList) []=items' at hd
   cases hc:(Au ops.toList (JJ ops.toList) items'&&Le ops.toList&&(items'.length == ops.toList.length)&&(ar2 ops.toList.length).all (fun i=>items'.any fun it=>it.i == i)) with
   | false=>rw [hc] at hd;cases hd
   | true =>
    rw [hc] at hd
    cases hd
    rw [wK cx.n _ _ _ _ hn] at hb
    simp only [ae7,beq_iff_eq,aq7,al0,List.mem_range,List.any_eq_true] at hc
    obtain⟨⟨⟨h1,h2⟩,h3⟩,h4⟩:=hc
    have hspec:∀it∈items,ops[it.i]?=some it.o∧(oV it.o=false→it.locks=[])∧(it.rsv≠none∨it.hid=true→oV it.o=true):=by
     intro it hm
     rw [←hit] at hm
     have:=HW (fun i hi=>by
      have:=(List.mem_filter.1 hi).2
      simp only [ae7] at this
      exact this.1) _ _ it hm
     rwa [ah1] at this
    show wpAny _ _ _ _ _ _ _ _
    obtain⟨ir,xr⟩:=i.B3 (Dy items)
    refine PB (cx:={ cx with rb:=false }) rfl (m:=h.length) hJ hX hK (fun j o ho e he hbd=>?_) ops.size items _ ρ (B3 (Dy items) h) G _ a _ h3 h1 hspec (by simp) (by simp) (fun j=>?_) (fun j hj=>?_) hb ir.drew (gl.mono (xr.trans (Ext.drew _ _ _))) (s.mono xr.toMono)
     (fun ρ' h' G' w' a' e1 e2 e3 e4=>by
      split at e1
      ·rename_i hl;exact hk ρ' h' G' w' a' e1 (xr.trans e2.X0) e3 e4 hl
      ·cases e1) (fun v h' G' w' V a' e1 e2 e3 e4 e5=>hkp v h' G' w' a' V e1 (xr.trans e2.X0) e3 e4 e5)
    ·simp only [Le,al0] at h2
     have:=h2 (o,j) (List.mem_zipIdx_iff_getElem?.2 (by simpa using ho)) e (by simpa using he)
     simpa [hbd] using this
    ·constructor
     ·intro hj
      have hlt:j<ops.size:=by
       by_cases hlt:j<ops.size
       ·exact hlt
       ·simp [Array.getD,hlt] at hj
      obtain⟨x,hx,he⟩:=h4 j hlt
      exact⟨x,hx,by simpa using he⟩
     ·rintro⟨x,hx,rfl⟩
      have:=(Array.getElem?_eq_some_iff.1 (hspec x hx).1).1
      simp [Array.getD,this]
    ·exfalso
     simp [Array.getD] at hj
end
end
section
open Go Go.RowKit
section
variable {G G':Gh}{h h':kO}{w:World}{m:Nat}
def Vy (G:Gh) (h:kO) (w:World) (G':Gh) (m:Nat):Prop :=
 (∀id cs,m≤id→h[id]?=some (.cells cs)→∀k,G'.H (G.mO id) k=w.cell? ⟨G.mO id,k,none⟩) ∧
  ∀id tot sz cs b,m≤id→h[id]?=some (.vec tot sz cs)→(G.cur id).ownBlock=some b→∀k,G'.H b k=w.cell? ⟨b,k,none⟩
theorem D0 (i : Inv G h w) (l : Left G h G' h' m) (st : Vy G h w G' m) {v : kN} {V : Value} (r : k_ G h v V) : k_ G' h' (v.oW m h) V := by
  have junk : k_ G' h' .junk V := .p _ _ (.junk _)
  have cellsOf : ∀ (id : Nat) (cs row part : List kN) (off : Nat), m ≤ id → h[id]? = some (.cells cs) → (∀ (j : Nat) (c : kN), part[j]? = some c → cs[off + j]? = some c) → sH part = some row →
      ∃ F : Nat → Value, ∀ (j : Nat) (v : kN), row[j]? = some v → G'.H (G.mO id) (off + j) = some (F j) ∧ v.lS = true ∧ oL G'.H v (F j) := by
    intro id cs row part off hid hc hpart hrow
    obtain ⟨C, e, h1, h2, h3, h4⟩ := i.mO id _ hc
    obtain ⟨p1, p2⟩ := qU hrow
    refine ⟨fun j => C.getD (off + j) undef, fun j v hv => ?_⟩
    have hj : j < part.length := by rw [← p1]; exact (ad0.1 hv).1
    obtain ⟨c', e1, e2⟩ := p2 j _ (ae1 hj)
    rw [hv] at e1; cases e1
    have hcs := hpart j _ (ae1 hj)
    have hlt : off + j < C.size := by rw [h2]; exact (ad0.1 hcs).1
    obtain ⟨e3, e4⟩ := wC e2 (h4 _ _ hcs).2
    refine ⟨?_, e4, e3.mono l.hmono⟩
    rw [st.1 id cs hid hc, cell_of w _ _ h1]
    simp [ad1, hlt]
  cases v with
  | slice rows t =>
    cases t with
    | own id =>
      simp only [kN.oW]
      cases hd : decide (id < m) with
      | true =>
        simp only [cond_true]
        exact tE l (by simpa [kN.sC, tS] using hd) r
      | false =>
        simp only [cond_false]
        exact .p _ _ (r.uB.mono l.hmono)
    | _ => exact tE l rfl r
  | ptr id off =>
    simp only [kN.oW]
    cases hd : decide (id < m) with
    | true =>
      simp only [cond_true]
      exact tE l (by simpa [kN.sC, tS] using hd) r
    | false =>
      simp only [cond_false]
      have hid : m ≤ id := by simpa using hd
      split
      · rename_i cs hc
        split
        · rename_i row hrow
          obtain ⟨rfl, _⟩ := r.yN
          obtain ⟨F, hF⟩ := cellsOf id cs row _ off hid hc (fun j c hj => by rwa [ah9] at hj) hrow
          exact .p _ _ (.pptr row _ off F (fun j v hv => (hF j v hv).1) (fun j v hv => (hF j v hv).2.1) (fun j v hv => (hF j v hv).2.2))
        · exact junk
      · exact junk
  | mslice id off len sz =>
    simp only [kN.oW]
    cases hd : decide (id < m) with
    | true =>
      simp only [cond_true]
      exact tE l (by simpa [kN.sC, tS] using hd) r
    | false =>
      simp only [cond_false]
      have hid : m ≤ id := by simpa using hd
      split
      · rename_i cs hc
        split
        · rename_i row hrow
          cases hle : decide (off + len * sz ≤ cs.length) with
          | false => exact junk
          | true =>
            simp only [cond_true]
            have hle : off + len * sz ≤ cs.length := by simpa using hle
            obtain ⟨a, cap, rfl, hcap, ha⟩ := r.vZ
            by_cases h0 : len = 0
            · subst h0; exact .p _ _ (.slice0 a cap)
            · obtain ⟨rfl, _⟩ := ha (by omega)
              obtain ⟨F, hF⟩ := cellsOf id cs row _ off hid hc (fun j c hj => by
                rw [ah8] at hj
                split at hj
                · rwa [ah9] at hj
                · cases hj) hrow
              have hrl : row.length = len * sz := by rw [(qU hrow).1]; simp; omega
              exact .p _ _ (B0 (by omega) hcap (fun j v hv _ => ⟨(hF j v hv).1, (hF j v hv).2.2, (hF j v hv).2.1⟩))
        · exact junk
      · exact junk
  | vslice id tot off len sz =>
    simp only [kN.oW]
    cases hd : decide (id < m) with
    | true =>
      simp only [cond_true]
      exact tE l (by simpa [kN.sC, tS] using hd) r
    | false =>
      simp only [cond_false]
      have hid : m ≤ id := by simpa using hd
      split
      · rename_i tot' sz' cs hc
        split
        · rename_i row hrow
          cases hle : decide (tot = tot' ∧ off + len * sz ≤ cs.length) with
          | false => exact junk
          | true =>
            simp only [cond_true]
            obtain ⟨rfl, hle⟩ : tot = tot' ∧ off + len * sz ≤ cs.length := by simpa using hle
            obtain ⟨b, cap, rfl, hnf, htot, hlc, hv⟩ := r.s9
            obtain ⟨b', cap', C, e0, g1, g2, g3, g4, g5, g6, g7, g8, g9⟩ := i.mO id _ hc
            obtain ⟨l0, cap0, k1, _⟩ := hv (by rw [g1]; rfl)
            have hcur := g1
            rw [g1] at k1
            simp only [Value.slice.injEq, aa9, Addr.mk.injEq] at k1
            obtain ⟨⟨rfl, _⟩, _, rfl⟩ := k1
            obtain ⟨p1, p2⟩ := qU hrow
            have hdl : ((cs.drop off).take (len * sz)).length = len * sz := by rw [List.length_take, List.length_drop]; omega
            rw [hdl] at p1
            refine .p _ _ (B0 (F := fun j => C.getD (off + j) undef) (by omega) hlc fun j v hvv _ => ?_)
            have hj : j < len * sz := by rw [← p1]; exact (ad0.1 hvv).1
            obtain ⟨c', e1, e2⟩ := p2 j _ (ae1 (by omega))
            rw [hvv] at e1; cases e1
            have hcs : cs[off + j]? = some (((cs.drop off).take (len * sz))[j]'(by omega)) := by
              have := ae1 (l := (cs.drop off).take (len * sz)) (i := j) (by omega)
              rw [ah8, if_pos hj, ah9] at this
              exact this
            obtain ⟨_, hrel⟩ := g9 _ _ hcs
            obtain ⟨z1, z2⟩ := wC e2 hrel
            have hlt : off + j < C.size := by
              have := (ad0.1 hcs).1
              have h2 : cs.length ≤ C.size := by rw [g7, g5]; exact Nat.mul_le_mul_right _ g3
              omega
            refine ⟨?_, z1.mono l.hmono, z2⟩
            rw [st.2 id _ _ _ b' hid hc (by rw [hcur]; rfl), cell_of w _ _ g2]
            simp [ad1, hlt]
        · exact junk
      · exact junk
  | _ =>
    simp only [kN.oW]
    first
      | (cases hs : kN.rI m _ with
         | true => exact u_ l hs r
         | false => exact junk)
theorem acW (i:Inv G h w) (l:Left G h G' h' m) (st:Vy G h w G' m) {v:kN}{V:Value}(r:k_ G h v V):k_ G' h' (v.vS m h) V:=by
 have one:∀{v:kN}{V:Value},k_ G h v V→k_ G' h' (v.oW m h) V:=fun r=>D0 i l st r
 have agg:∀(cs:List kN) (X:Value),k_ G h (.agg cs) X→k_ G' h' (.agg (cs.map (·.oW m h))) X:=by
  intro cs X hx
  obtain⟨C,rfl,hl,hr⟩:=hx.vB
  refine .agg _ _ (by simpa using hl) fun i u hu=>?_
  simp only [ah3,ad2] at hu
  obtain⟨a,ha,rfl⟩:=hu
  exact one (hr i a ha)
 cases v with
 | agg cs=>exact agg cs V r
 | tuple vs =>
  obtain⟨C,rfl,hl,hr⟩:=r.Ad
  refine .tuple _ _ (by simpa using hl) fun i u hu=>?_
  simp only [ah3,ad2] at hu
  obtain⟨a,ha,rfl⟩:=hu
  have:=hr i a ha
  cases a <;> first | exact agg _ _ this | exact one this
 | iface t v =>
  obtain⟨W,rfl,hr⟩:=r.zZ
  cases v <;> first | exact .iface _ _ _ (agg _ _ hr) | exact .iface _ _ _ (one hr)
 | _=>exact one r
theorem tD:∀{cs cs':List kN},mI m h cs=some cs'→cs'.length=cs.length∧∀(j:Nat) (c:kN),cs'[j]?=some c→c.lS=true∧∃c0,cs[j]?=some c0∧c=c0.oW m h
 | [],cs',hc=>by simp only [mI,aa9] at hc;subst hc;simp
 | v::r,cs',hc=>by
  simp only [mI] at hc
  cases hk:(v.oW m h).lS with
  | false=>rw [hk] at hc;cases hc
  | true =>
   rw [hk] at hc
   simp only [cond_true] at hc
   split at hc
   ·rename_i r' hr
    cases hc
    obtain⟨h1,h2⟩:=tD hr
    refine⟨by simp [h1],fun j c hj=>?_⟩
    cases j with
    | zero=>simp at hj;subst hj;exact⟨hk,v,rfl,rfl⟩
    | succ j=>simpa using h2 j c (by simpa using hj)
   ·cases hc
theorem D9:∀{bs bs':List lN},sJ m h bs=some bs'→bs'.length=bs.length∧∀(j:Nat) (b:lN),bs[j]?=some b→∃b',bs'[j]?=some b'∧pW m h b=some b'
 | [],bs',hb=>by simp only [sJ,aa9] at hb;subst hb;simp
 | b::r,bs',hb=>by
  simp only [sJ] at hb
  split at hb
  ·rename_i b' r' hb' hr
   cases hb
   obtain⟨h1,h2⟩:=D9 hr
   refine⟨by simp [h1],fun j c hj=>?_⟩
   cases j with
   | zero=>simp at hj;subst hj;exact⟨b',rfl,hb'⟩
   | succ j=>simpa using h2 j c (by simpa using hj)
  ·cases hb
theorem Td (ht:vT m h=some h') (hm:m≤h.length):h'.length=m∧∀(id:Nat) (b:lN),id<m→h[id]?=some b→∃b',h'[id]?=some b'∧pW m h b=some b':=by
 obtain⟨h1,h2⟩:=D9 ht
 refine⟨by rw [h1];simp;omega,fun id b hid hb=>?_⟩
 exact h2 id b (by rw [ah8,if_pos hid];exact hb)
theorem wW {b b':lN}(hs:pW m h b=some b'):(∀G G':Gh,G'.mO=G.mO→G'.cur=G.cur→∀id,Kind G G' id b b')∧(b≠.free→b'≠.free)∧(∀n sz t,b=.front n sz t→b'=.front n sz t) ∧
  ∀(G:Gh) (id:Nat),mF G id b'=mF G id b:=by
 cases b with
 | cells cs =>
  simp only [pW,ad2] at hs
  obtain⟨cs',h1,rfl⟩:=hs
  refine⟨fun G G' e1 e2 id=>⟨(tD h1).1.symm,by rw [e1],by rw [e2]⟩,by simp,by simp,by simp [mF]⟩
 | vec t sz cs =>
  simp only [pW,ad2] at hs
  obtain⟨cs',h1,rfl⟩:=hs
  exact⟨fun G G' e1 e2 id=>by simp [Kind,e1,e2],by simp,by simp,by simp [mF]⟩
 | tcells t cs =>
  simp only [pW,ad2] at hs
  obtain⟨cs',h1,rfl⟩:=hs
  exact⟨fun G G' e1 e2 id=>⟨rfl,(tD h1).1.symm,by rw [e1],by rw [e2]⟩,by simp,by simp,by simp [mF]⟩
 | map es =>
  simp only [pW] at hs
  cases ha:es.all (fun e=>e.2.rI m) <;> rw [ha] at hs <;> cases hs
  exact⟨fun G G' e1 e2 id=>by simp [Kind,e1,e2],by simp,by simp,by simp⟩
 | free=>cases hs;exact⟨fun G G' e1 e2 id=>trivial,by simp,by simp,by simp⟩
 | gone=>cases hs;exact⟨fun G G' e1 e2 id=>by simp [Kind,e1,e2],by simp,by simp,by simp⟩
 | front n sz t=>cases hs;exact⟨fun G G' e1 e2 id=>by simp [Kind,e1,e2],by simp,by simp,by simp⟩
end
theorem wX {G G1:Gh}{h h1 h2:kO}{w w1:World}(x:Ext G h w G1 h1 w1) (i1:Inv G1 h1 w1) (ht:vT h.length h1=some h2) :
  ∃G2,Inv G2 h2 w1∧Ext G h w G2 h2 w1∧h2.length=h.length∧(∀(v:kN) (V:Value),k_ G1 h1 v V→k_ G2 h2 (v.vS h.length h1) V)∧∀b k v,G1.H b k=some v→G2.H b k=some v:=by
 classical
 have hm:h.length≤h1.length:=by
  by_cases h0:h.length=0
  ·omega
  ·have hlt:h.length-1<h.length:=by omega
   obtain⟨bl',hb,_⟩:=x.kinds (h.length-1) _ (ae1 hlt)
   have:=(ad0.1 hb).1
   omega
 let Drop:Nat→Prop:=fun b=>∃id,h.length≤id∧owner G1 h1 id=some b∧((∃cs,h1[id]?=some (.cells cs))∨∃tot sz cs,h1[id]?=some (.vec tot sz cs))
 let G2:Gh:={ G1 with H:=fun b k=>if Drop b then w1.cell? ⟨b,k,none⟩ else G1.H b k }
 have hH:∀b k,G2.H b k=if Drop b then w1.cell? ⟨b,k,none⟩ else G1.H b k:=fun _ _=>rfl
 have dropNone:∀b,Drop b→∀k,G1.H b k=none:=by
  rintro b ⟨id,_,ho,⟨cs,hc⟩ | ⟨tot,sz,cs,hc⟩⟩ k
  ·rw [mM hc] at ho
   obtain⟨C,e,_,_,h3,_⟩:=i1.mO id _ hc
   cases ho;exact h3 k
  ·rw [mM hc] at ho
   obtain⟨b',cap',C,e0,g1,g2,g3,g4,g5,g6,g7,g8,g9⟩:=i1.mO id _ hc
   simp only [mF,g1,Value.ownBlock,aa9] at ho
   subst ho;exact g8 k
 have hmono:∀b k v,G1.H b k=some v→G2.H b k=some v:=by
  intro b k v hv
  rw [hH]
  split
  ·rename_i hd;rw [dropNone b hd k] at hv;cases hv
  ·exact hv
 obtain⟨tl,tb⟩:=Td ht hm
 have back:∀(id:Nat) (b':lN),h2[id]?=some b'→id<h.length∧∃b,h1[id]?=some b∧pW h.length h1 b=some b':=by
  intro id b' hb'
  have hid:id<h.length:=by rw [←tl];exact(ad0.1 hb').1
  have hlt:id<h1.length:=by omega
  obtain⟨b'',e1,e2⟩:=tb id _ hid (ae1 hlt)
  rw [hb'] at e1;cases e1
  exact⟨hid,_,ae1 hlt,e2⟩
 have l:Left G1 h1 G2 h2 h.length:=by
  refine⟨hmono,rfl,rfl,fun id hid ⟨b,hb,hf⟩=>?_,fun id n sz t hid hf=>?_,fun id hid ⟨b,hb,hf,hn⟩=>?_⟩
  ·obtain⟨b',e1,e2⟩:=tb id b hid hb
   exact⟨b',e1,(wW e2).2.1 hf⟩
  ·obtain⟨b',e1,e2⟩:=tb id _ hid hf
   rw [e1,(wW e2).2.2.1 n sz _ rfl]
  ·obtain⟨b',e1,e2⟩:=tb id b hid hb
   have hk:=(wW e2).1 G1 G1 rfl rfl id
   exact⟨b',e1,(hk.mO hf).1,hk.nf hf hn⟩
 have st:Vy G1 h1 w1 G2 h.length:=by
  refine⟨fun id cs hid hc k=>?_,fun id tot sz cs b hid hc ho k=>?_⟩
  ·rw [hH,if_pos ⟨id,hid,by rw [mM hc];rfl,.inl ⟨cs,hc⟩⟩]
  ·rw [hH,if_pos ⟨id,hid,by rw [mM hc];exact ho,.inr ⟨tot,sz,cs,hc⟩⟩]
 have own:∀id b,owner G2 h2 id=some b→id<h.length∧owner G1 h1 id=some b:=by
  intro id b ho
  obtain⟨bl,hb,hob⟩:=oC ho
  obtain⟨hid,b0,e1,e2⟩:=back id bl hb
  refine⟨hid,?_⟩
  rw [mM e1,←(wW e2).2.2.2]
  cases bl <;> exact hob
 have noDrop:∀id b,id<h.length→owner G1 h1 id=some b→¬Drop b:=by
  rintro id b hid ho ⟨id',hid',ho',_⟩
  have:=i1.inj id id' _ ho ho'
  omega
 have ext:Ext G h w G2 h2 w1:=by
  refine⟨x.os,x.tape,x.output,x.size,fun b hb hn=>?_,fun b k v hv=>hmono b k v (x.hmono b k v hv),fun id b ho hb=>x.own id b (own id b ho).2 hb,fun id bl hb=>?_⟩
  ·obtain⟨e1,e2⟩:=x.frame b hb hn
   refine⟨e1,fun k=>?_⟩
   rw [hH,if_neg,e2]
   rintro⟨id,hid,ho,_⟩
   exact hn id (x.own id _ ho hb)
  ·obtain⟨bl',e1,e2⟩:=x.kinds id bl hb
   obtain⟨b',e3,e4⟩:=tb id bl' (ad0.1 hb).1 e1
   exact⟨b',e3,e2.trans ((wW e4).1 G1 G2 rfl rfl id)⟩
 refine⟨G2,⟨fun b k v hv=>?_,fun id bl hb=>?_,fun a b c ha hb=>i1.inj a b c (own a c ha).2 (own b c hb).2⟩,ext,tl,fun v V r=>acW i1 l st r,hmono⟩
 ·rw [hH] at hv
  split at hv
  ·exact hv
  ·exact i1.ok b k v hv
 ·obtain⟨hid,b0,e1,e2⟩:=back id bl hb
  have hk:=i1.mO id b0 e1
  have keepH:∀b,owner G1 h1 id=some b→∀k,G2.H b k=G1.H b k:=fun b ho k=>by rw [hH,if_neg (noDrop id b hid ho)]
  cases b0 with
  | free=>cases e2;trivial
  | gone=>cases e2;trivial
  | cells cs =>
   simp only [pW,ad2] at e2
   obtain⟨cs',e3,rfl⟩:=e2
   obtain⟨C,e,g1,g2,g3,g4⟩:=hk
   obtain⟨s1,s2⟩:=tD e3
   refine⟨C,e,g1,by rw [s1];exact g2,fun k=>by rw [show G2.mO id=G1.mO id from rfl,keepH _ (by rw [mM e1];rfl)];exact g3 k,fun j v hv=>?_⟩
   obtain⟨k1,c0,k2,rfl⟩:=s2 j v hv
   exact⟨k1,D0 i1 l st (g4 j c0 k2).2⟩
  | vec tot sz cs =>
   simp only [pW,ad2] at e2
   obtain⟨cs',e3,rfl⟩:=e2
   obtain⟨b',cap',C,e0,g1,g2,g3,g4,g5,g6,g7,g8,g9⟩:=hk
   obtain⟨s1,s2⟩:=tD e3
   refine⟨b',cap',C,e0,g1,g2,g3,g4,g5,g6,by rw [s1];exact g7,fun k=>by rw [keepH b' (by rw [mM e1];simp [mF,g1,Value.ownBlock])];exact g8 k,fun j v hv=>?_⟩
   obtain⟨k1,c0,k2,rfl⟩:=s2 j v hv
   exact⟨k1,D0 i1 l st (g9 j c0 k2).2⟩
  | tcells t cs =>
   simp only [pW,ad2] at e2
   obtain⟨cs',e3,rfl⟩:=e2
   obtain⟨C,g1,g2,g3,g4⟩:=hk
   obtain⟨s1,s2⟩:=tD e3
   refine⟨C,g1,by rw [s1];exact g2,fun k=>by rw [show G2.mO id=G1.mO id from rfl,keepH _ (by rw [mM e1];rfl)];exact g3 k,fun j v hv=>?_⟩
   obtain⟨k1,c0,k2,rfl⟩:=s2 j v hv
   exact⟨k1,D0 i1 l st (g4 j c0 k2).2⟩
  | map es =>
   simp only [pW] at e2
   cases ha:es.all (fun e=>e.2.rI h.length) <;> rw [ha] at e2 <;> cases e2
   simp only [al0] at ha
   obtain⟨E,clock,g1,g2,g3,g4,hst⟩:=hk
   refine⟨E,clock,g1,g2,fun k=>by rw [show G2.mO id=G1.mO id from rfl,keepH _ (by rw [mM e1];rfl)];exact g3 k,fun j kv hkv=>?_,hst⟩
   obtain⟨mm,k1,k2,k3,k4⟩:=g4 j kv hkv
   exact⟨mm,k1,k2,k3.mono hmono,u_ l (ha kv (ae0 hkv)) k4⟩
  | front n sz t =>
   cases e2
   rcases hk with ⟨k1,k2⟩ | ⟨b,cap,C,e,k1,k2,k3,k4,k5,k6,k7,k8⟩
   ·exact .inl ⟨k1,k2⟩
   ·exact .inr ⟨b,cap,C,e,k1,k2,k3,k4,k5,k6,fun k hk=>by rw [keepH b (by rw [mM e1];simp [mF,k1,Value.ownBlock])];exact k7 k hk,k8⟩
end
section
open Go Go.RowKit
def FR (rd:Option Nat):Fence:={ Fence.wide with round:=rd }
theorem TE {rd:Option Nat}{n:Nat}:(FR rd).depth.isSome=true→1≤n:=fun h=>by cases h
theorem P8 {rd:Option Nat}{n:Nat}{P:Program}{f:FuncId}{args:Array Value}{w:World}{S:Ending→World→Prop}(h:Calls P f args w S):CallsIn (FR rd) n P f args w S :=
 (callsIn_wide (n:=n)).2 h
theorem UU {rd:Option Nat}{n:Nat}{P:Program}{row:String}{args:Array Value}{w:World}{S:Value→World→Prop}(h:Rows P row args w S):RowsIn (FR rd) n P row args w S :=
 fun c cs _=>let ⟨v,w',r,s⟩:=h c cs;⟨v,w',r,stepsIn_wide.2 s⟩
section
variable {rd:Option Nat}{n:Nat}{P:Program}{o:Oper}{a:Act}{w:World}{K K':Act→World→Prop}{Q:Exit→Act→World→Prop}{ops:Array Oper}
theorem UZ {r:Result Next}(hK:∀a w,K a w→K' a w) (h:o.upon P a K Q r):o.uponIn (FR rd) n P a K' Q r:=by
 cases r with
 | ok x w' =>
  cases x <;> simp only [Oper.upon,Oper.uponIn] at h ⊢ <;> first
   | exact hK _ _ h
   | exact h.elim
   | exact⟨TE,UU (h.mono fun _ _ he=>hK _ _ he)⟩
   | exact⟨TE,P8 (h.mono fun e _ he=>by cases e <;> first | exact hK _ _ he | exact he)⟩
 | halt x w'=>cases x <;> simp only [Oper.upon,Oper.uponIn] at h ⊢ <;> exact h
def O5 (o:Oper):Prop:=∀c,o.op≠.defer c
theorem aa8 (hd:rd=none∨O5 o) (hK:∀a w,K a w→K' a w) (h:o.wp P a w K Q):o.wpIn (FR rd) n P a w K' Q:=by
 refine⟨fun _ _=>trivial,?_⟩
 have e:o.semAt (FR rd).round a.eval=execOp a.eval o:=by
  rcases hd with rfl | hd
  ·rfl
  ·exact Oper.semAt_eq _ _ _ hd
 rw [e]
 exact UZ hK h
theorem Uf (hd:rd=none∨∀o∈ops.toList,O5 o) (hno:∀a w,¬Q .outgrown a w) {i:Nat}(hK:∀a w,K a w→K' a w) (h:wpOp P ops Q i K a w):wpOpIn (FR rd) n P ops Q i K' a w:=by
 unfold wpOp at h
 unfold wpOpIn
 cases ho:ops[i]? with
 | none=>rw [ho] at h;exact hK _ _ h
 | some o =>
  simp only [ho] at h ⊢
  split at h
  ·rename_i hw
   rw [if_pos hw]
   rcases h with h | ⟨_,a',w',h⟩
   ·exact aa8 (hd.imp id fun hd=>hd o (ae0 (by rw [ah1];exact ho))) hK h
   ·exact(hno _ _ h).elim
  ·rename_i hw
   rw [if_neg hw]
   exact⟨fun _ _=>trivial,hK _ _ h⟩
theorem PC (hd:rd=none∨∀o∈ops.toList,O5 o) (hno:∀a w,¬Q .outgrown a w):∀(l:List Nat) (a:Act) (w:World),wpOps P ops Q l a w→wpOpsIn (FR rd) n P ops Q l a w
 | [],_,_,h=>h
 | i::l,a,w,h=>by
  rw [wpOps_cons] at h
  rw [wpOpsIn_cons]
  exact Uf hd hno (PC hd hno l) h
theorem Pz (hd:rd=none∨∀o∈ops.toList,O5 o) (hno:∀a w,¬Q .outgrown a w) {md:Region.Mode}:∀(fuel:Nat) (listed:Array Bool) (a:Act) (w:World),wpAny P md ops Q fuel listed a w→wpAnyIn (FR rd) n P md ops Q fuel listed a w
 | 0,_,_,_,h=>h
 | fuel+1,listed,a,w,h=>⟨h.1,fun i hi=>Uf hd hno (Pz hd hno fuel _) (h.2 i hi)⟩
theorem Yz.wpIn {id:Nat}{draw:Bool}(hm:P.follows .mixedOrders=true) (hd:rd=none∨∀o∈ops.toList,O5 o) (hno:∀a w,¬Q .outgrown a w) (h:Yz P ops draw Q a w):(Code.region id ops draw).wpIn (FR rd) n P Q a w:=by
 cases draw with
 | false=>exact wpIn_region (PC hd hno _ _ _ h)
 | true=>exact wpIn_region_any hm (Pz hd hno _ _ _ _ h)
end
end
section
open Go Go.RowKit
theorem xD (L:Nat) (f:kN→kN):∀(ρ pre:List kN) (i:Nat),(unpackFrom L (pre++(uN L i ρ).map f) ρ.length i pre.length).length=ρ.length ∧
  ∀(j:Nat) (v:kN),(unpackFrom L (pre++(uN L i ρ).map f) ρ.length i pre.length)[j]?=some v→v=.junk∨∃u,ρ[j]?=some u∧v=f u
 | [],pre,i=>by simp [unpackFrom]
 | u::r,pre,i=>by
  cases hb:L.testBit i with
  | true =>
   obtain⟨h1,h2⟩:=xD L f r (pre++[f u]) (i+1)
   have e1:pre++(uN L i (u::r)).map f=(pre++[f u])++(uN L (i+1) r).map f:=by simp [uN,hb]
   have e2:(pre++[f u]).length=pre.length+1:=by simp
   rw [e2] at h1 h2
   have e3:((pre++[f u])++(uN L (i+1) r).map f).getD pre.length .junk=f u:=by simp [ad9]
   rw [e1]
   simp only [List.length_cons,unpackFrom,hb,cond_true,e3]
   refine⟨by rw [h1],fun j v hv=>?_⟩
   cases j with
   | zero=>simp at hv;exact .inr ⟨u,rfl,hv.symm⟩
   | succ j=>simpa using h2 j v (by simpa using hv)
  | false =>
   obtain⟨h1,h2⟩:=xD L f r pre (i+1)
   simp only [uN,List.length_cons,unpackFrom,hb,cond_false,List.length_cons]
   refine⟨by rw [h1],fun j v hv=>?_⟩
   cases j with
   | zero=>simp at hv;exact .inl hv.symm
   | succ j=>simpa using h2 j v (by simpa using hv)
theorem yZ (L:Nat) (x:List kN):∀(n i j:Nat),(unpackFrom L x n i j).length=n
 | 0,_,_=>rfl
 | n+1,i,j=>by unfold unpackFrom;cases L.testBit i <;> simp [yZ L x n]
theorem oK (n L:Nat) (x:List kN):(unpack n L x).length=n:=yZ L x n 0 0
theorem Jk {n L:Nat}{ρ:List kN}(f:kN→kN) (hn:ρ.length=n) (j:Nat) (v:kN) (hv:(unpack n L ((pack L ρ).map f))[j]?=some v):v=.junk∨∃u,ρ[j]?=some u∧v=f u:=by
 subst hn
 have:=(xD L f ρ [] 0).2 j v
 simpa [unpack,pack] using this (by simpa [unpack,pack] using hv)
section
variable {J:Act→Prop}{cx:Cx}{ρ:List kN}{h:kO}{kn:List kN→kO→Option R}{ke:Ex→List kN→kO→Option R}{r:R}{G:Gh}{w:World}{a:Act}{Q:Exit→Act→World→Prop}{n L:Nat}
theorem nC.Fi {G':Gh}{h':kO}(s:nC J G h ρ a) (hn:ρ.length=n) (f:kN→kN) (hf:∀v V,k_ G h v V→k_ G' h' (f v) V):nC J G' h' (unpack n L ((pack L ρ).map f)) a:=by
 refine⟨by rw [oK,←hn,s.len],fun j v hv=>?_,s.df⟩
 rcases Jk f hn j v hv with rfl | ⟨u,hu,rfl⟩
 ·exact .p _ _ (.junk _)
 ·exact hf u _ (s.rel j u hu)
theorem nC.pack (s:nC J G h ρ a) (hn:ρ.length=n):nC J G h (unpack n L (pack L ρ)) a:=by
 have:=s.Fi (L:=L) hn id fun _ _ r=>r
 simpa using this
theorem sZ.trans {G':Gh}{h':kO}{w':World}(p:sZ J n kn ke r G h w Q) (x:Ext G h w G' h' w'):sZ J n kn ke r G' h' w' Q :=
 ⟨fun ρ' h'' G'' w'' a' h1 h2 h3 h4=>p.1 ρ' h'' G'' w'' a' h1 (x.trans h2) h3 h4,fun e ρ' h'' G'' w'' a' h1 h2 h3 h4=>p.2.1 e ρ' h'' G'' w'' a' h1 (x.trans h2) h3 h4,
  fun v ρ' h'' G'' w'' a' V h1 h2 h3 h4 h5=>p.2.2 v ρ' h'' G'' w'' a' V h1 (x.trans h2) h3 h4 h5⟩
theorem sZ.pack {r0:R}(hn:r0.1=.normal→kn (unpack n L r0.2.1) r0.2.2=some r) (he:∀e,r0.1=e→e≠.normal→ke e (unpack n L r0.2.1) r0.2.2=some r) (p:sZ J n kn ke r G h w Q) :
  sZ J n (FY L) (FX L) r0 G h w Q:=by
 refine⟨fun ρ' h' G' w' a' h1 h2 h3 h4 h5=>?_,fun e ρ' h' G' w' a' h1 h2 h3 h4 h5=>?_,fun v ρ' h' G' w' a' V h1 h2 h3 h4 h5=>?_⟩
 ·cases h1
  exact p.1 _ h' G' w' a' (hn rfl) h2 h3 (h4.pack h5) (oK _ _ _)
 ·cases h1
  cases e with
  | exit id=>exact p.2.1 (.exit id) _ h' G' w' a' (he _ rfl (by simp)) h2 h3 (h4.pack h5) (oK _ _ _)
  | ret=>exact p.2.1 .ret _ h' G' w' a' (he _ rfl (by simp)) h2 h3 (h4.pack h5) (oK _ _ _)
  | _=>trivial
 ·cases h1
  exact p.2.2 v _ h' G' w' a' V (he _ rfl (by simp)) h2 h3 h4 h5
theorem sZ.ae8 {j:Bool}{r0:R}(hn:r0.1=.normal→kn (unpack n L r0.2.1) r0.2.2=some r) (he:∀e,r0.1=e→e≠.normal→ke e (unpack n L r0.2.1) r0.2.2=some r) (p:sZ J n kn ke r G h w Q) :
  sZ J n (Cy j h.length L .normal) (Cy j h.length L) r0 G h w Q:=by
 cases j with
 | false=>exact sZ.pack hn he p
 | true =>
  refine⟨fun ρ' h' G' w' a' h1 h2 h3 h4 h5=>?_,fun e ρ' h' G' w' a' h1 h2 h3 h4 h5=>?_,fun v ρ' h' G' w' a' V h1 h2 h3 h4 h5=>?_⟩
  all_goals
   unfold Cy kZ at h1
   simp only [ad2] at h1
   obtain⟨h9,ht,rfl⟩:=h1
   obtain⟨G3,i3,x3,hlen3,hrel,_⟩:=wX h2 h3 ht
  ·exact p.1 _ h9 G3 w' a' (hn rfl) x3 i3 (h4.Fi h5 _ hrel) (oK _ _ _)
  ·cases e with
   | exit id=>exact p.2.1 (.exit id) _ h9 G3 w' a' (he _ rfl (by simp [Ex.vS])) x3 i3 (h4.Fi h5 _ hrel) (oK _ _ _)
   | ret=>exact p.2.1 .ret _ h9 G3 w' a' (he _ rfl (by simp [Ex.vS])) x3 i3 (h4.Fi h5 _ hrel) (oK _ _ _)
   | _=>trivial
  ·exact p.2.2 _ _ h9 G3 w' a' V (he _ rfl (by simp [Ex.vS])) x3 i3 (hrel _ _ h4) h5
theorem sZ.inBlock {id:Nat}(p:sZ J n kn ke r G h w Q):sZ J n kn (fun e ρ' h'=>e.inBlock id (kn ρ' h') fun e=>ke e ρ' h') r G h w (Exit.inBlock id Q):=by
 refine⟨p.1,fun e ρ' h' G' w' a' h1 h2 h3 h4 h5=>?_,fun v ρ' h' G' w' a' V h1 h2 h3 h4 h5=>p.2.2 v ρ' h' G' w' a' V h1 h2 h3 h4 h5⟩
 cases e with
 | exit j =>
  simp only [Ex.inBlock] at h1
  simp only [Exit.inBlock]
  cases hj:j == id with
  | true =>
   rw [hj] at h1
   rw [if_pos (by simpa using hj)]
   exact p.1 ρ' h' G' w' a' h1 h2 h3 h4 h5
  | false =>
   rw [hj] at h1
   rw [if_neg (by simpa using hj)]
   exact p.2.1 (.exit j) ρ' h' G' w' a' h1 h2 h3 h4 h5
 | ret=>exact p.2.1 .ret ρ' h' G' w' a' h1 h2 h3 h4 h5
 | _=>trivial
def KI (lp:(List kN×kO→Option R)→List kN×kO→Option R):Prop:=∀F s r,lp F s=some r→∃n,rV n F s=some r
theorem PW {v:kN}{t e:Option R}(hb:kV v t e=some r):∃b,v=.bool b∧(if b then t else e)=some r:=by
 unfold kV at hb
 split at hb
 ·rename_i b;exact⟨b,rfl,by cases b <;> exact hb⟩
 ·cases hb
def Vm (J:Act→Prop):Code→Prop
 | .region _ ops _=>PJ J ops.toList
 | .seq a b=>Vm J a∧Vm J b
 | .cond _ a b=>Vm J a∧Vm J b
 | .block _ c=>Vm J c
 | .loop c=>Vm J c
 | .scope c=>Vm J c
 | _=>True
theorem sZ.scope (p:sZ J n kn ke r G h w Q):sZ J n kn ke r G h w (Exit.noGoto Q):=by
 refine⟨fun ρ' h' G' w' a' h1 h2 h3 h4 h5=>p.1 ρ' h' G' w' a' h1 h2 h3 h4 h5,fun e ρ' h' G' w' a' h1 h2 h3 h4 h5=>?_,fun v ρ' h' G' w' a' V h1 h2 h3 h4 h5=>p.2.2 v ρ' h' G' w' a' V h1 h2 h3 h4 h5⟩
 have:=p.2.1 e ρ' h' G' w' a' h1 h2 h3 h4 h5
 cases e <;> first | exact this | trivial
theorem WH {id:Nat}{Q:Exit→Act→World→Prop}(hno:∀a w,¬Q .outgrown a w):∀a w,¬Exit.inBlock id Q .outgrown a w:=hno
theorem BX {rd:Option Nat}{p q:Bool}(h:rd=none∨(p&&q)=true):(rd=none∨p=true)∧(rd=none∨q=true):=by
 rcases h with h | h
 ·exact⟨.inl h,.inl h⟩
 ·simp only [ae7] at h;exact⟨.inr h.1,.inr h.2⟩
theorem Gb {rd:Option Nat}{n₀:Nat}(hm:cx.P.follows .mixedOrders=true) (hX:tO cx.P cx.A) (hK:qR cx.P cx.A cx.K) (hlp:KI cx.lp):∀(c:Code) (L:Nat) (ρ:List kN) (h:kO) (kn:List kN→kO→Option R) (ke:Ex→List kN→kO→Option R) (r:R) (G:Gh) (w:World) (a:Act) (Q:Exit→Act→World→Prop),Vm J c →
  evalCode cx c L ρ h kn ke=some r→Inv G h w→o_ cx.A G h w→nC J G h ρ a→ρ.length=cx.n→sZ J cx.n kn ke r G h w Q→(rd=none∨BW c=true)→(∀a w,¬Q .outgrown a w)→c.wpIn (FR rd) n₀ cx.P Q a w:=by
 intro c
 induction c with
 | skip =>
  intro L ρ h kn ke r G w a Q hJ hb i gl s hn hk hp0 hno
  exact wpIn_skip (hk.1 ρ h G w a hb (Ext.refl G h w) i s hn)
 | region id ops draw =>
  intro L ρ h kn ke r G w a Q hJ hb i gl s hn hk hp0 hno
  refine Yz.wpIn hm (hp0.imp (fun x=>x) fun hp o ho c e=>by
   have:=al0.1 hp o ho
   rw [e] at this;cases this) hno (EL hJ hm hX hK hb i gl s hn hk.1 fun v h' G' w' a' V e1 e2 e3 e4 e5=>?_)
  cases hp:cx.pan with
  | true=>rw [hp] at e1;exact hk.2.2 v ρ h' G' w' a' V e1 e2 e3 e4 e5
  | false=>rw [hp] at e1;cases e1
 | seq x y ihx ihy =>
  intro L ρ h kn ke r G w a Q hJ hb i gl s hn hk hp0 hno
  refine wpIn_seq (ihx _ ρ h _ _ r G w a _ hJ.1 hb i gl s hn ⟨fun ρ' h' G' w' a' h1 h2 h3 h4 h5=>?_,fun e ρ' h' G' w' a' h1 h2 h3 h4 h5=>?_,fun v ρ' h' G' w' a' V h1 h2 h3 h4 h5=>hk.2.2 v ρ' h' G' w' a' V h1 h2 h3 h4 h5⟩ (BX hp0).1 hno)
  ·exact ihy L ρ' h' kn ke r G' w' a' Q hJ.2 h1 h3 (gl.mono h2) h4 h5 (hk.trans h2) (BX hp0).2 hno
  ·have:=hk.2.1 e ρ' h' G' w' a' h1 h2 h3 h4 h5
   cases e <;> first | exact this | trivial
 | cond c x y ihx ihy =>
  intro L ρ h kn ke r G w a Q hJ hb i gl s hn hk hp0 hno
  have fin:∀{v:kN}{t e:Option R}{r:R}{kn:List kN→kO→Option R}{ke:Ex→List kN→kO→Option R},v=qF cx.A ρ c→kV v t e=some r→t=evalCode cx x L ρ h kn ke→e=evalCode cx y L ρ h kn ke→sZ J cx.n kn ke r G h w Q→(Code.cond c x y).wpIn (FR rd) n₀ cx.P Q a w:=by
   intro v t e r kn ke hv hc ht he hk
   obtain⟨b,rfl,hb⟩:=PW hc
   have hcv:=(hv ▸ s.eval gl.cells c).uJ
   subst ht;subst he
   refine wpIn_cond hcv ?_
   cases b with
   | true=>exact ihx L ρ h kn ke r G w a Q hJ.1 hb i gl s hn hk (BX hp0).1 hno
   | false=>exact ihy L ρ h kn ke r G w a Q hJ.2 hb i gl s hn hk (BX hp0).2 hno
  simp only [evalCode] at hb
  cases hf:uW x&&uW y with
  | true =>
   rw [hf] at hb
   simp only [cond_true] at hb
   obtain⟨r0,hr0,hk0⟩:=aa6.1 hb
   refine fin rfl hr0 rfl rfl (.ae8 (fun he=>?_) (fun e he hne=>?_) hk)
   ·rw [he] at hk0
    cases hl:cx.pan || (leaves [] x || leaves [] y) <;> rw [hl] at hk0 <;> exact hk0
   ·rw [he] at hk0
    cases hl:cx.pan || (leaves [] x || leaves [] y) <;> rw [hl] at hk0
    ·cases e <;> first | exact absurd rfl hne | cases hk0
    ·cases e <;> first | exact absurd rfl hne | exact hk0
  | false =>
   rw [hf] at hb
   exact fin rfl hb rfl rfl hk
 | block id c ih =>
  intro L ρ h kn ke r G w a Q hJ hb i gl s hn hk hp0 hno
  refine wpIn_block ?_
  simp only [evalCode] at hb
  cases hf:decide (2≤zG id c+bif uW c then 1 else 0) with
  | true =>
   rw [hf] at hb
   simp only [cond_true] at hb
   obtain⟨r0,hr0,hk0⟩:=aa6.1 hb
   refine ih L ρ h _ _ r0 G w a _ hJ hr0 i gl s hn (.ae8 (fun he=>?_) (fun e he hne=>?_) (hk.inBlock (id:=id))) hp0 (WH hno)
   ·rw [he] at hk0;exact hk0
   ·rw [he] at hk0;exact hk0
  | false =>
   rw [hf] at hb
   exact ih L ρ h _ _ r G w a _ hJ hb i gl s hn hk.inBlock hp0 (WH hno)
 | scope c ih =>
  intro L ρ h kn ke r G w a Q hJ hb i gl s hn hk hp0 hno
  rcases hp0 with rfl | hp0
  ·exact(wpIn_wide (n:=n₀)).2 (wp_scope_straight ((wpIn_wide (n:=n₀)).1 (ih L ρ h kn ke r G w a _ hJ hb i gl s hn hk.scope (.inl rfl) (fun a w hq=>hno a w hq))))
  ·cases hp0
 | label l =>
  intro L ρ h kn ke r G w a Q hJ hb i gl s hn hk hp0 hno
  exact wpIn_label (hk.1 ρ h G w a hb (Ext.refl G h w) i s hn)
 | loop c ih =>
  intro L ρ h kn ke r G w a Q hJ hb i gl s hn hk hp0 hno
  simp only [evalCode] at hb
  obtain⟨r0,hr0,hk0⟩:=aa6.1 hb
  obtain⟨n,hloop⟩:=hlp _ _ _ hr0
  refine wpIn_loop_rounds n ?_
  have key:∀(n:Nat) (G':Gh) (h':kO) (w':World) (a':Act) (x:List kN),rV n (fun s=>evalCode cx c (L ||| ue cx.full c) (unpack cx.n (L ||| ue cx.full c) s.1) s.2 (Bc cx.lkp h.length (L ||| ue cx.full c) .normal) (Bc cx.lkp h.length (L ||| ue cx.full c))) (x,h')=some r0→(cx.lkp=true∨h'.length=h.length) →
    Ext G h w G' h' w'→Inv G' h' w'→nC J G' h' (unpack cx.n (L ||| ue cx.full c) x) a'→Code.roundsIn (FR rd) n₀ cx.P c Q n a' w':=by
   intro n
   induction n with
   | zero=>intro G' h' w' a' x hl;simp [rV] at hl
   | succ n ihn =>
    intro G' h' w' a' x hl hlen x1 i1 s1
    simp only [rV] at hl
    obtain⟨r1,hr1,hl⟩:=aa6.1 hl
    rw [roundsIn_succ]
    have round:∀(e:Ex) (ρ':List kN) (h'':kO) (G2:Gh) (w2:World) (a2:Act),Bc cx.lkp h.length (L ||| ue cx.full c) e ρ' h''=some r1→Ext G' h' w' G2 h'' w2→Inv G2 h'' w2→nC J G2 h'' ρ' a2→ρ'.length=cx.n →
      ∃G3 h3 f e3,r1=(e3,(pack (L ||| ue cx.full c) ρ').map f,h3)∧Inv G3 h3 w2∧Ext G' h' w' G3 h3 w2∧(cx.lkp=true∨h3.length=h.length)∧(∀v V,k_ G2 h'' v V→k_ G3 h3 (f v) V) ∧
       (e=.normal→e3=.normal)∧(∀id,e=.exit id→e3=.exit id)∧(e=.ret→e3=.ret):=by
     intro e ρ' h'' G2 w2 a2 e1 e2 e3 e4 e5
     cases hlk:cx.lkp with
     | true =>
      rw [hlk] at e1
      simp only [Bc,aa9] at e1
      exact⟨G2,h'',id,e,by rw [←e1];simp,e3,e2,.inl rfl,fun _ _ h=>h,fun h=>h,fun _ h=>h,fun h=>h⟩
     | false =>
      have hlen:h'.length=h.length:=by
       rcases hlen with h1 | h1
       ·rw [hlk] at h1;cases h1
       ·exact h1
      rw [hlk] at e1
      simp only [Bc] at e1
      unfold endRound kZ at e1
      simp only [ad2] at e1
      obtain⟨h3,ht,rfl⟩:=e1
      rw [←hlen] at ht
      obtain⟨G3,i3,x3,hlen3,hrel,_⟩:=wX e2 e3 ht
      rw [hlen] at hrel
      exact⟨G3,h3,(·.vS h.length h''),e.vS h.length h'',rfl,i3,x3,.inr (hlen3.trans hlen),hrel,fun h=>by rw [h];rfl,fun _ h=>by rw [h];rfl,fun h=>by rw [h];rfl⟩
    refine ih _ _ h' _ _ r1 G' w' a' _ hJ hr1 i1 (gl.mono x1) s1 (oK _ _ _) ⟨fun ρ' h'' G2 w2 a2 e1 e2 e3 e4 e5=>?_,fun e ρ' h'' G2 w2 a2 e1 e2 e3 e4 e5=>?_,fun v ρ' h'' G2 w2 a2 V e1 e2 e3 e4 e5=>?_⟩ hp0 hno
    ·obtain⟨G3,h3,f,ee,rfl,i3,x3,hl3,hrel,q1,_,_⟩:=round _ _ _ _ _ _ e1 e2 e3 e4 e5
     obtain rfl:=q1 rfl
     exact ihn G3 h3 w2 a2 _ hl hl3 (x1.trans x3) i3 (e4.Fi e5 _ hrel)
    ·obtain⟨G3,h3,f,ee,rfl,i3,x3,hl3,hrel,_,q2,q3⟩:=round _ _ _ _ _ _ e1 e2 e3 e4 e5
     have s3:=e4.Fi (L:=L ||| ue cx.full c) e5 _ hrel
     cases e with
     | exit id =>
      obtain rfl:=q2 id rfl
      simp only [Ex.l_,aa9] at hl
      subst hl
      exact hk.2.1 (.exit id) _ h3 G3 w2 a2 hk0 (x1.trans x3) i3 s3 (oK _ _ _)
     | ret =>
      obtain rfl:=q3 rfl
      simp only [Ex.l_,aa9] at hl
      subst hl
      exact hk.2.1 .ret _ h3 G3 w2 a2 hk0 (x1.trans x3) i3 s3 (oK _ _ _)
     | _=>trivial
    ·cases hlk:cx.lkp with
     | true =>
      rw [hlk] at e1
      simp only [Bc,aa9] at e1
      subst e1
      simp only [Ex.l_,aa9] at hl
      subst hl
      exact hk.2.2 _ _ _ G2 w2 a2 V hk0 (x1.trans e2) e3 e4 e5
     | false =>
      have hlen:h'.length=h.length:=by
       rcases hlen with h1 | h1
       ·rw [hlk] at h1;cases h1
       ·exact h1
      rw [hlk] at e1
      simp only [Bc] at e1
      unfold endRound kZ at e1
      simp only [ad2] at e1
      obtain⟨h3,ht,rfl⟩:=e1
      rw [←hlen] at ht
      obtain⟨G3,i3,x3,hlen3,hrel,_⟩:=wX e2 e3 ht
      rw [hlen] at hrel
      simp only [Ex.vS,Ex.l_,aa9] at hl
      subst hl
      exact hk.2.2 _ _ h3 G3 w2 a2 V hk0 (x1.trans x3) i3 (hrel _ _ e4) e5
  exact key n G h w a _ hloop (.inr rfl) (Ext.refl G h w) i (s.pack hn)
 | exit id =>
  intro L ρ h kn ke r G w a Q hJ hb i gl s hn hk hp0 hno
  exact wpIn_exit (hk.2.1 (.exit id) ρ h G w a hb (Ext.refl G h w) i s hn)
 | ret =>
  intro L ρ h kn ke r G w a Q hJ hb i gl s hn hk hp0 hno
  exact wpIn_ret (hk.2.1 .ret ρ h G w a hb (Ext.refl G h w) i s hn)
 | _=>intro L ρ h kn ke r G w a Q _ hb;simp [evalCode] at hb
theorem tP (hm:cx.P.follows .mixedOrders=true) (hX:tO cx.P cx.A) (hK:qR cx.P cx.A cx.K) (hlp:KI cx.lp) (c:Code) (L:Nat) (ρ:List kN) (h:kO) (kn:List kN→kO→Option R) (ke:Ex→List kN→kO→Option R) (r:R) (G:Gh) (w:World) (a:Act) (Q:Exit→Act→World→Prop) (hJ:Vm J c)
  (hb:evalCode cx c L ρ h kn ke=some r) (i:Inv G h w) (gl:o_ cx.A G h w) (s:nC J G h ρ a) (hn:ρ.length=cx.n) (hk:sZ J cx.n kn ke r G h w Q) (hno:∀a w,¬Q .outgrown a w):c.wp cx.P Q a w :=
 (wpIn_wide (n:=0)).1 (Gb (rd:=none) hm hX hK hlp c L ρ h kn ke r G w a Q hJ hb i gl s hn hk (.inl rfl) hno)
theorem JF {P:Program}{x:ResultVar}{v:kN}(hb:wH P ρ h x=some v) (i:Inv G h w) (s:nC J G h ρ a) :
  ∃V,(match x with | .tmp t=>(pure (a.tmps.getD t undef):Sem Value) | .cell b t=>do loadVar t (←asAddr (a.tmps.getD b undef))).run P w=.ok V w∧k_ G h v V:=by
 cases x with
 | tmp t=>simp only [wH,aa9] at hb;subst hb;exact⟨_,Sem.run_pure ..,s.get t⟩
 | cell b t =>
  simp only [wH] at hb
  split at hb
  ·rename_i g n hg hn
   have hx:=s.get b
   obtain⟨V,h1,h2⟩:=FC (P:=P) hg hn i hb hx
   refine⟨V,?_,h2⟩
   have:∃A,a.tmps.getD b undef=.pointer (some A):=by
    generalize ρ.getD b .junk=x at hb hx
    generalize a.tmps.getD b undef=X at hx
    unfold kY at hb
    split at hb
    ·have hp:=hx.Bt
     cases hp with | pptr cs b off F=>exact⟨_,rfl⟩
    ·obtain⟨rfl,_⟩:=hx.yN;exact⟨_,rfl⟩
    ·obtain⟨_,rfl,_⟩:=hx.BG;exact⟨_,rfl⟩
    ·cases hb
   obtain⟨A,hA⟩:=this
   rw [hA] at h1
   dsimp only
   rw [hA]
   simpa [Instr.loadAt,Instr.sureAddr,asAddr] using h1
  ·cases hb
theorem wN {P:Program}{fn:Func}{vs:List kN}(hb:fn.results.toList.mapM (wH P ρ h)=some vs) (i:Inv G h w) (s:nC J G h ρ a) :
  ∃V,(results fn a.tmps).run P w=.ok V w∧k_ G h (oneOf vs) V:=by
 have key:∀(l:List ResultVar) (vs:List kN),l.mapM (wH P ρ h)=some vs→∃Vs:List Value,(l.mapM (fun x:ResultVar=>match x with | .tmp t=>(pure (a.tmps.getD t undef):Sem Value) | .cell b t=>do loadVar t (←asAddr (a.tmps.getD b undef)))).run P w=.ok Vs w ∧
   vs.length=Vs.length∧∀(j:Nat) (v:kN),vs[j]?=some v→k_ G h v (Vs.getD j undef):=by
  intro l
  induction l with
  | nil=>intro vs hv;simp at hv;subst hv;exact⟨[],by simp [Sem.run_pure],rfl,by simp⟩
  | cons x l ih =>
   intro vs hv
   simp only [List.mapM_cons,Option.bind_eq_bind,aa6] at hv
   obtain⟨v,hv1,us,hus,hv⟩:=hv
   simp only [Option.pure_def,aa9] at hv;subst hv
   obtain⟨V,h1,h2⟩:=JF hv1 i s
   obtain⟨Vs,h3,h4,h5⟩:=ih us hus
   refine⟨V::Vs,?_,by simp [h4],fun j u hu=>?_⟩
   ·simp only [List.mapM_cons,Sem.run_bind,h1,Result.andThen_ok,h3,Sem.run_pure]
   ·cases j with
    | zero=>simp at hu;subst hu;exact h2
    | succ j=>simpa using h5 j u (by simpa using hu)
 obtain⟨Vs,h1,h2,h3⟩:=key _ _ hb
 have h4:(fn.results.mapM (fun x:ResultVar=>match x with | .tmp t=>(pure (a.tmps.getD t undef):Sem Value) | .cell b t=>do loadVar t (←asAddr (a.tmps.getD b undef)))).run P w=.ok Vs.toArray w:=by
  rw [Array.mapM_eq_mapM_toList,map_eq_pure_bind]
  simp only [Sem.run_bind,h1,Result.andThen_ok,Sem.run_pure]
 refine⟨if h:Vs.toArray.size=1 then Vs.toArray[0] else .tuple Vs.toArray,?_,?_⟩
 ·have e:results fn a.tmps=(fn.results.mapM (fun x:ResultVar=>match x with | .tmp t=>(pure (a.tmps.getD t undef):Sem Value) | .cell b t=>do loadVar t (←asAddr (a.tmps.getD b undef)))).bind fun vs=>(pure (if h:vs.size=1 then vs[0] else .tuple vs):Sem Value):=rfl
  rw [e]
  show(Bind.bind _ _:Sem Value).run P w=_
  rw [Sem.run_bind,h4,Result.andThen_ok,Sem.run_pure]
 ·match vs,Vs,h2,h3 with
  | [v],[V],_,h3=>simpa [oneOf] using h3 0 v rfl
  | [],[],_,_=>exact k_.undef
  | u::v::vs,U::V::Vs,h2,h3 =>
   have:oneOf (u::v::vs)=.tuple (u::v::vs):=rfl
   rw [this]
   simp only [List.size_toArray,List.length_cons,Nat.add_eq_right,Nat.add_one_ne_zero,reduceDIte]
   refine .tuple _ _ (by simpa using h2) fun j x hx=>?_
   have:=h3 j x hx
   rw [ad9] at this
   rwa [ad1,List.getElem?_toArray]
  | [],_::_,h2,_=>simp at h2
  | _::_,[],h2,_=>simp at h2
  | [_],_::_::_,h2,_=>simp at h2
  | _::_::_,[_],h2,_=>simp at h2
end
end
section
open Go Go.RowKit
section
variable {cx:Cx}{ops:Array Oper}{h:kO}{G:Gh}{w:World}{a:Act}{r:R}
def JD (L:Nat) (a0:Act) (a:Act):Prop:=a.defers=a0.defers∧a.tmps.size=a0.tmps.size∧∀t,L.testBit t=true→a.tmps.getD t undef=a0.tmps.getD t undef
theorem JD.put {L:Nat}{a0:Act}{dst:Option Tmp}{V:Value}(h:JD L a0 a) (hd:∀d,dst=some d→L.testBit d=false):JD L a0 (a.put dst V):=by
 cases dst with
 | none=>exact h
 | some d =>
  refine⟨h.1,by simpa [Act.put] using h.2.1,fun t ht=>?_⟩
  rw [←h.2.2 t ht]
  have hne:d≠t:=by
   rintro rfl
   rw [hd d rfl] at ht;cases ht
  simp [Act.put,ad1,Array.getElem?_setIfInBounds,hne]
theorem v_ {L:Nat}{a0:Act}:∀{b:Code},Br L b=true→Vm (JD L a0) b
 | .region _ ops _,hb=>by
  simp only [Br,al0] at hb
  intro o ho a V hj
  refine hj.put fun d hd=>?_
  have:=hb o ho
  rw [hd] at this
  simpa using this
 | .seq x y,hb=>by
  simp only [Br,ae7] at hb
  exact⟨v_ hb.1,v_ hb.2⟩
 | .cond _ x y,hb=>by
  simp only [Br,ae7] at hb
  exact⟨v_ hb.1,v_ hb.2⟩
 | .block _ c,hb=>v_ (b:=c) hb
 | .loop c,hb=>v_ (b:=c) hb
 | .skip,_=>trivial
 | .exit _,_=>trivial
 | .ret,_=>trivial
 | .scope _,hb=>by simp [Br] at hb
 | .label _,_=>trivial
 | .goto _,_=>trivial
 | .refuse _,_=>trivial
 | .rangeFunc ..,_=>trivial
theorem rA {D:List Deferred}:∀c:Code,Vm (fun a=>a.defers=D) c
 | .region _ ops _=>fun o _ a V h=>by cases o.dst <;> exact h
 | .seq a b=>⟨rA a,rA b⟩
 | .cond _ a b=>⟨rA a,rA b⟩
 | .block _ c=>rA c
 | .loop c=>rA c
 | .scope c=>rA c
 | .skip | .exit _ | .ret=>trivial
 | .label _ | .goto _ | .refuse _ | .rangeFunc ..=>trivial
theorem yQ {args:List kN}{X:Array Value}{n:Nat}(hx:xW G h args X) (hn:args.length≤n) :
  nC (fun a=>a.defers=[]) G h (args++ai1 (n-args.length) (.tuple [])) { tmps:=X++Array.replicate (n-X.size) undef,defers:=[] }:=by
 refine⟨by simp [hx.1],fun j v hv=>?_,rfl⟩
 have hs:=hx.1
 simp only [ad1]
 by_cases hj:j<args.length
 ·rw [ah6 hj] at hv
  rw [aq0 (by omega)]
  have:=hx.2 j v hv
  rwa [ad1] at this
 ·rw [af7 (by omega)] at hv
  rw [Array.getElem?_append_right (by omega)]
  rw [List.getElem?_replicate] at hv
  split at hv
  ·cases hv
   rename_i hlt
   rw [Array.getElem?_replicate,if_pos (by omega)]
   exact .undef
  ·cases hv
theorem FB {P:Program}{Q:Exit→Act→List Frame→World→Prop}{cs:List Frame}(hno:∀a w,¬Q .outgrown a cs w):∀(l:List Nat) (a:Act) (w:World),
  wpOps P ops (fun e a w=>Q e a cs w) l a w→wpOpsS P ops Q l a cs w
 | [],a,w,h=>h
 | i::rest,a,w,h=>by
  have ih:=FB (P:=P) (Q:=Q) (cs:=cs) hno rest
  simp only [wpOps,wpOpsS] at h ⊢
  cases ho:ops[i]? with
  | none=>simp only [ho] at h ⊢;exact ih a w h
  | some o =>
   simp only [ho] at h ⊢
   by_cases hw:Region.wanted o (yielded ops a.tmps)=true
   ·simp only [hw,if_true] at h ⊢
    rcases h with h | ⟨_,x,y,hl⟩
    ·have h':o.upon P a (fun a' w'=>wpOpsS P ops Q rest a' cs w') (fun e a' w'=>Q e a' cs w') ((execOp a.eval o).run P w):=Oper.wp_mono (fun a w=>ih a w) h
     split
     ·rename_i w' hr
      rw [hr] at h'
      exact h'.elim
     ·exact h'
    ·exact absurd hl (hno _ _)
   ·simp only [hw,if_false,Bool.false_eq_true] at h ⊢
    exact ih _ _ h
def z6:Option Value→FrameMode
 | none=>.returning
 | some V=>.panicking [{ v:=V,recovered:=true }]
def EK:Option Value→FrameMode
 | none=>.returning
 | some V=>.panicking [{ v:=V,recovered:=false }]
def To (G:Gh) (h:kO) (w:World) (h':kO) (PV:Option Value) (e:Ending) (u':FrameMode) (w':World):Prop :=
 (∃v,e=.returned v)∧u'=z6 PV∧∃G',Ext G h w G' h' w'∧Inv G' h' w'
theorem JO {g:Nat}{caps:List kN}{pv:Option kN}{PV:Option Value}{h':kO}{X:Array Value}(hm:cx.P.follows .mixedOrders=true) (hX:tO cx.P cx.A) (hK:qR cx.P cx.A cx.K) (hlp:KI cx.lp)
  (hb:uQ cx g caps pv h=some h') (i:Inv G h w) (gl:o_ cx.A G h w) (hx:xW G h caps X) (hpv:∀v,pv=some v→∃V,PV=some V∧k_ G h v V) (hpn:pv=none→PV=none) :
  (∀w,(callFunc g X).run cx.P w=.ok (.enter g X) w) ∧
  CallsD cx.P g X (EK PV) w (To G h w h' PV):=by
 unfold uQ at hb
 cases hf:cx.P.funcs[g]? with
 | none=>rw [hf] at hb;cases hb
 | some fn =>
  simp only [hf] at hb
  split at hb
  ·rename_i id ops c hbody
   split at hb
   ·rename_i o os hops
    cases hc:(BT o&&decide (caps.length≤fn.ntmps)&&fn.results.isEmpty&&!(fn.name == "runtime.NumGoroutine")) with
    | false=>rw [hc] at hb;cases hb
    | true =>
     rw [hc] at hb
     simp only [ae7,decide_eq_true_eq,Bool.not_eq_true'] at hc
     obtain⟨⟨⟨hrec,hcl⟩,hres⟩,hnm⟩:=hc
     have hne:¬fn.name = "runtime.NumGoroutine" := by simpa using hnm
     refine⟨fun w=>by simp [callFunc,Sem.run_bind,hf,hbody,hne,Sem.run_pure],?_⟩
     simp only [cond_true] at hb
     obtain⟨r0,hr0,hend⟩:=aa6.1 hb
     refine callsD_of_wpS hf hbody fun c₀ cs hu=>?_
     have h0:ops[0]?=some o:=by rw [←ah1,hops];rfl
     unfold BT at hrec
     simp only [ae7,Option.isNone_iff_eq_none] at hrec
     obtain⟨hgu,hrec⟩:=hrec
     obtain⟨cl,hop,hcal⟩:∃cl,o.op=.call cl∧cl.callee=.builtin .recover:=by
      split at hrec
      ·rename_i cl ho
       split at hrec
       ·rename_i hcal;exact⟨cl,ho,hcal⟩
       ·cases hrec
      ·cases hrec
     have hrun:∀(a:Act) (w:World),(execOp a.eval o).run cx.P w=.ok .recover w:=by
      intro a w
      simp [execOp,hop,resolve,hcal,invoke,builtin,Sem.run_bind,Sem.run_pure]
     have hsz:ar2 ops.size=0::((pC ops.toList).tail).map (·.i):=by
      rw [List.map_tail,rP.1]
      have:ops.size=os.length+1:=by rw [←aq7,hops];rfl
      rw [this,List.range_succ_eq_map];rfl
     let cs':List Frame:={ c₀ with mode:=z6 PV }::cs
     have hrv:k_ G h (pv.getD .niliface) (PV.getD .nilIface):=by
      cases hp:pv with
      | none =>
       rw [hpn hp]
       exact .p _ _ .niliface
      | some v =>
       obtain⟨V,hV,hr⟩:=hpv v hp
       rw [hV]
       exact hr
     obtain⟨RR,hRR⟩:∃RR,RR=To G h w h' PV:=⟨_,rfl⟩
     rw [←hRR]
     have slots:nC (fun a=>a.defers=[]) G h (pD (caps++ai1 (fn.ntmps-caps.length) (.tuple [])) o.dst (pv.getD .niliface)) (Act.put { tmps:=X++Array.replicate (fn.ntmps-X.size) undef,defers:=[] } o.dst (PV.getD .nilIface)) :=
      (yQ hx hcl).put o.dst hrv (by cases o.dst <;> rfl)
     have fin:∀(e:Ex) (ρ2:List kN) (h2:kO) (G2:Gh) (w2:World) (a2:Act),(e=.normal∨e=.ret)→(e,pack 0 ρ2,h2)=r0→Ext G h w G2 h2 w2→Inv G2 h2 w2→nC (fun a=>a.defers=[]) G2 h2 ρ2 a2 →
       a2.defers=[]∧∃u',cs'={ c₀ with mode:=u' }::cs∧∃v,(results fn a2.tmps).run cx.P w2=.ok v w2∧RR (.returned v) u' w2:=by
      intro e ρ2 h2 G2 w2 a2 he hr x2 i2 s2
      subst hr
      have ht:vT h.length h2=some h':=by rcases he with rfl | rfl <;> exact hend
      obtain⟨G3,i3,x3,_,_,_⟩:=wX x2 i2 ht
      have hrs:fn.results.toList.mapM (wH cx.P ρ2 h2)=some []:=by
       have:fn.results=#[]:=by simpa using hres
       rw [this];rfl
      obtain⟨V,hV,_⟩:=wN hrs i2 s2
      rw [hRR]
      exact⟨s2.df,_,rfl,V,hV,⟨V,rfl⟩,rfl,G3,x3,i3⟩
     have hlen:(pD (caps++ai1 (fn.ntmps-caps.length) (.tuple [])) o.dst (pv.getD .niliface)).length=fn.ntmps:=by rw [Bx];simp;omega
     rw [wK fn.ntmps _ _ _ _ hlen] at hr0
     have tailP:=FT (cx:={ cx with n:=fn.ntmps,full:=2^fn.ntmps-1,pan:=false }) (J:=fun a=>a.defers=[]) (Q:=fun e a w=>Exit.thenS (c.wpS cx.P (bodyPostS cx.P fn c₀ cs RR))
       (bodyPostS cx.P fn c₀ cs RR) e a cs' w) (ops:=ops) (fun o _ a V h=>by cases o.dst <;> exact h) hX hK (pC ops.toList).tail [] _ h G w _
      (fun it hit=>rP.2 it (List.mem_of_mem_tail hit)) hr0 i gl slots
      (fun ρ1 h1 G1 w1 a1 e1 x1 i1 s1=>by
       split at e1
       case isFalse=>cases e1
       rename_i hl1
       refine wpS_of_wp (tP (cx:={ cx with n:=fn.ntmps,full:=2^fn.ntmps-1,pan:=false }) (J:=fun a=>a.defers=[]) hm hX hK hlp c 0 ρ1 h1 _ _ r0 G1 w1 a1 _ (rA c) e1 i1 (gl.mono x1) s1 hl1 ?_ (fun a w hq=>by obtain⟨_,hq⟩:=hq;rw [hRR] at hq;obtain⟨⟨_,h1⟩,_⟩:=hq;cases h1))
       ·refine⟨fun ρ2 h2 G2 w2 a2 e2 x2 i2 s2 _=>?_,fun e ρ2 h2 G2 w2 a2 e2 x2 i2 s2 _=>?_,fun v ρ2 h2 G2 w2 a2 V e2 x2 i2 _ _=>?_⟩
        ·exact fin _ ρ2 h2 G2 w2 a2 (.inl rfl) (Option.some.inj e2) (x1.trans x2) i2 s2
        ·cases e with
         | ret=>exact fin _ ρ2 h2 G2 w2 a2 (.inr rfl) (Option.some.inj e2) (x1.trans x2) i2 s2
         | exit id=>cases e2;cases hend
         | _=>trivial
        ·cases e2;cases hend)
      (fun v h1 G1 w1 V a1 e1=>by cases e1)
     have tail:wpOps cx.P ops (fun e a w=>Exit.thenS (c.wpS cx.P (bodyPostS cx.P fn c₀ cs RR))
       (bodyPostS cx.P fn c₀ cs RR) e a cs' w) (((pC ops.toList).tail).map (·.i))
       (Act.put { tmps:=X++Array.replicate (fn.ntmps-X.size) undef,defers:=[] } o.dst (PV.getD .nilIface)) w:=by
      exact tailP
     refine wpS_seq (wpS_region ?_)
     rw [hsz]
     simp only [wpOpsS,h0]
     rw [if_pos (by simp [Region.wanted,hgu])]
     simp only [hrun]
     cases PV with
     | none =>
      have hu':c₀.mode=.returning:=hu
      have hrd:recoverD (c₀::cs)=none:=by simp [recoverD,hu']
      have hcs:(c₀::cs:List Frame)=cs':=by
       have:({ c₀ with mode:=.returning }:Frame)=c₀:=by rw [←hu']
       simp only [cs',z6,this]
      rw [hrd]
      simp only []
      rw [hcs]
      exact FB (fun a w hq=>by obtain⟨_,hq⟩:=hq;rw [hRR] at hq;obtain⟨⟨_,h1⟩,_⟩:=hq;cases h1) _ _ _ tail
     | some V =>
      have hu':c₀.mode=.panicking [{ v:=V,recovered:=false }]:=hu
      have hrd:recoverD (c₀::cs)=some (V,cs'):=by simp [recoverD,hu',cs',z6]
      rw [hrd]
      exact FB (fun a w hq=>by obtain⟨_,hq⟩:=hq;rw [hRR] at hq;obtain⟨⟨_,h1⟩,_⟩:=hq;cases h1) _ _ _ tail
   ·cases hb
  ·cases hb
theorem yE {L:Nat}{x:List kN}:∀(n i j k:Nat) (v:kN),(unpackFrom L x n i j)[k]?=some v→v=.junk∨L.testBit (i+k)=true
 | 0,i,j,k,v,h=>by simp [unpackFrom] at h
 | n+1,i,j,k,v,h=>by
  unfold unpackFrom at h
  cases hb:L.testBit i with
  | true =>
   rw [hb] at h
   cases k with
   | zero=>exact .inr hb
   | succ k =>
    have:=yE n (i+1) (j+1) k v (by simpa using h)
    rwa [show i+(k+1)=i+1+k by omega]
  | false =>
   rw [hb] at h
   cases k with
   | zero=>simp at h;exact .inl h.symm
   | succ k =>
    have:=yE n (i+1) j k v (by simpa using h)
    rwa [show i+(k+1)=i+1+k by omega]
theorem nC.any {J J':Act→Prop}{ρ:List kN}(s:nC J G h ρ a) (hj:J' a):nC J' G h ρ a:=⟨s.len,s.rel,hj⟩
theorem HR {fn:Func}{RE:Ending→World→Prop}(hno:∀w,¬RE .outgrown w) {b:Code}{L:Nat}{fv:kN}{V:Value}{ρ:List kN}(hm:cx.P.follows .mixedOrders=true) (hX:tO cx.P cx.A) (hK:qR cx.P cx.A cx.K) (hlp:KI cx.lp)
  (hb:xY cx b L fv ρ h=some r) (i:Inv G h w) (gl:o_ cx.A G h w) (s:nC (fun a=>a.defers=[]) G h ρ a) (hn:ρ.length=cx.n) (hfv:k_ G h fv V)
  (hfin:∀(a':Act) G' w',r.1=.ret→Ext G h w G' r.2.2 w'→Inv G' r.2.2 w'→nC (fun _=>True) G' r.2.2 (unpack cx.n L r.2.1) a'→∃v,(results fn a'.tmps).run cx.P w'=.ok v w'∧RE (.returned v) w') :
  ∃d,(∀w,(Deferred.ofValue V #[]).run cx.P w=.ok d w)∧b.wp cx.P (bodyPostD cx.P fn RE) { a with defers:=d::a.defers } w:=by
 unfold xY at hb
 cases hok:Br L b with
 | false=>rw [hok] at hb;cases hb
 | true =>
  rw [hok] at hb
  simp only [cond_true] at hb
  obtain⟨⟨g,fi,ca⟩,hg,hb⟩:=aa6.1 hb
  unfold uO at hg
  split at hg <;> simp only [aa9,ap2,reduceCtorEq] at hg
  rename_i g' fi' ca'
  obtain⟨rfl,rfl,rfl⟩:=hg
  obtain⟨F,C,rfl,hlf,hlc,hrf,hrc⟩:=hfv.Dr
  refine⟨{ target:=.fn (.func g') C,args:=F++#[] },fun w=>by simp [Deferred.ofValue,Sem.run_pure],?_⟩
  simp only [] at hb
  obtain⟨r0,hr0,hend⟩:=aa6.1 hb
  have hxs:∀{G':Gh}{h':kO}{w':World},Ext G h w G' h' w'→xW G' h' (fi'++ca') (F++#[]++C):=by
   intro G' h' w' x
   refine⟨by simp [hlf,hlc],fun j u hu=>?_⟩
   rw [ad1]
   by_cases h1:j<fi'.length
   ·rw [ah6 h1] at hu
    have:=(hrf j u hu).mono x.toMono
    rw [ad1] at this
    simpa [Array.getElem?_append,←hlf,h1] using this
   ·rw [af7 (by omega)] at hu
    have:=(hrc _ u hu).mono x.toMono
    rw [ad1] at this
    simpa [Array.getElem?_append,←hlf,h1] using this
  have hdf:a.defers=[]:=s.df
  have leave:∀(pv:Option kN) (PV:Option Value) (G2:Gh) (h2:kO) (w2:World) (a2:Act) (h3:kO) (pk:List kN),Ext G h w G2 h2 w2→Inv G2 h2 w2→(∀v,pv=some v→∃V,PV=some V∧k_ G2 h2 v V)→(pv=none→PV=none) →
    JD L { a with defers:={ target:=.fn (.func g') C,args:=F++#[] }::a.defers } a2→uQ cx g' (fi'++ca') pv h2=some h3→r=(.ret,pk,h3)→nC (fun _=>True) G2 h2 (unpack cx.n L pk) a2 →
    Leaves cx.P fn a2.tmps RE a2.defers (EK PV) w2:=by
   intro pv PV G2 h2 w2 a2 h3 pk x2 i2 hv1 hv2 hj hrec hr s2
   have hd2:a2.defers=[{ target:=.fn (.func g') C,args:=F++#[] }]:=by rw [hj.1,hdf]
   obtain⟨hin,hcd⟩:=JO hm hX hK hlp hrec i2 (gl.mono x2) (hxs x2) hv1 hv2
   rw [hd2]
   refine leaves_cons (by cases PV <;> simp [EK]) (f:=g') (args:=F++#[]++C) (by simpa [invoke] using hin w2) ?_
   refine hcd.mono fun e u' w' hpost=>?_
   obtain⟨⟨v,rfl⟩,rfl,G',x3,i3⟩:=hpost
   have hset:settle (z6 PV)=.returning:=by cases PV <;> simp [settle,z6]
   simp only [hset]
   subst hr
   exact hfin a2 G' w' rfl (x2.trans x3) i3 (s2.mono x3.toMono)
  refine tP (cx:={ cx with pan:=true }) (J:=JD L { a with defers:={ target:=.fn (.func g') C,args:=F++#[] }::a.defers }) hm hX hK hlp b L ρ h _ _ r0 G w _ _ (v_ hok) hr0 i gl (s.any (J':=JD L _) ⟨rfl,rfl,fun _ _=>rfl⟩ |> fun s=>⟨s.len,s.rel,⟨rfl,rfl,fun _ _=>rfl⟩⟩) hn
   ⟨fun ρ2 h2 G2 w2 a2 e2 x2 i2 s2 hn2=>?_,fun e ρ2 h2 G2 w2 a2 e2 x2 i2 s2 hn2=>?_,fun v ρ2 h2 G2 w2 a2 V e2 x2 i2 rv hj=>?_⟩ (fun _ w hq=>hno w hq)
  ·cases e2
   obtain⟨h3,hrec,hr⟩:=ad2.1 hend
   exact leave none none G2 h2 w2 a2 h3 _ x2 i2 (by simp) (by simp) s2.df hrec hr.symm ((s2.pack hn2).any trivial)
  ·cases e2
   cases e with
   | ret =>
    obtain⟨h3,hrec,hr⟩:=ad2.1 hend
    exact leave none none G2 h2 w2 a2 h3 _ x2 i2 (by simp) (by simp) s2.df hrec hr.symm ((s2.pack hn2).any trivial)
   | exit id=>cases hend
   | _=>trivial
  ·cases e2
   obtain⟨h3,hrec,hr⟩:=ad2.1 hend
   refine leave (some v) (some V) G2 h2 w2 a2 h3 _ x2 i2 (fun u hu=>by cases hu;exact⟨V,rfl,rv⟩) (by simp) hj hrec hr.symm ⟨?_,fun j u hu=>?_,trivial⟩
   ·rw [oK,←hn,s.len]
    exact hj.2.1.symm
   ·rcases yE _ _ _ _ _ hu with rfl | hbit
    ·exact .p _ _ (.junk _)
    ·rcases Jk (f:=id) hn j u (by simpa using hu) with rfl | ⟨u',hu',he⟩
     ·exact .p _ _ (.junk _)
     ·rw [Nat.zero_add] at hbit
      rw [hj.2.2 j hbit]
      have he:u=u':=he
      subst he
      exact(s.rel j u hu').mono x2.toMono
theorem HX {os:List Oper}{f:Operand}(hl:z5 os=some f):∃o c,os.getLast?=some o∧o.guard=none∧o.op=.defer c∧c.callee=.value f∧c.args=#[]∧o.dst=none:=by
 unfold z5 at hl
 obtain⟨o,h1,h2⟩:=aa6.1 hl
 unfold Tu at h2
 split at h2
 ·rename_i c hg ho
  split at h2
  ·rename_i f' hc
   cases he:c.args.isEmpty&&o.dst.isNone with
   | false=>rw [he] at h2;cases h2
   | true =>
    rw [he] at h2
    simp only [ae7,Array.isEmpty_iff,Option.isNone_iff_eq_none] at he
    cases h2
    exact⟨o,c,h1,hg,ho,hc,he.1,he.2⟩
  ·cases h2
 ·cases h2
theorem JN {fn:Func}{RE:Ending→World→Prop}(hno:∀w,¬RE .outgrown w) (hm:cx.P.follows .mixedOrders=true) (hX:tO cx.P cx.A) (hK:qR cx.P cx.A cx.K) (hlp:KI cx.lp) (hpan:cx.pan=false):∀(c:Code) (L:Nat) (ρ:List kN) (h:kO) (r:R) (G:Gh) (w:World) (a:Act),
  rF cx c L ρ h=some r→Inv G h w→o_ cx.A G h w→nC (fun a=>a.defers=[]) G h ρ a→ρ.length=cx.n →
  (∀(a':Act) G' w',r.1=.ret→Ext G h w G' r.2.2 w'→Inv G' r.2.2 w'→nC (fun _=>True) G' r.2.2 (unpack cx.n L r.2.1) a'→∃v,(results fn a'.tmps).run cx.P w'=.ok v w'∧RE (.returned v) w') →
  c.wp cx.P (bodyPostD cx.P fn RE) a w:=by
 intro c
 induction c with
 | seq x y ihx ihy =>
  intro L ρ h r G w a hb i gl s hn hfin
  have piece:evalCode cx x (L ||| ue cx.full y) ρ h (fun ρ' h'=>rF cx y L ρ' h') (Ks L)=some r→(Code.seq x y).wp cx.P (bodyPostD cx.P fn RE) a w:=by
   intro hb
   refine wp_seq (tP (J:=fun a=>a.defers=[]) hm hX hK hlp x _ ρ h _ _ r G w a _ (rA x) hb i gl s hn ⟨fun ρ2 h2 G2 w2 a2 e2 x2 i2 s2 hn2=>?_,fun e ρ2 h2 G2 w2 a2 e2 x2 i2 s2 hn2=>?_,fun v ρ2 h2 G2 w2 a2 V e2 x2 i2 rv hj=>?_⟩ (fun _ w hq=>hno w hq))
   ·exact ihy L ρ2 h2 r G2 w2 a2 e2 i2 (gl.mono x2) s2 hn2 fun a' G' w' hr x3 i3 s3=>hfin a' G' w' hr (x2.trans x3) i3 s3
   ·cases e with
    | ret =>
     cases e2
     show Leaves cx.P fn a2.tmps RE a2.defers .returning w2
     have hd2:a2.defers=[]:=s2.df
     rw [hd2]
     exact hfin a2 G2 w2 rfl x2 i2 ((s2.pack hn2).any trivial)
    | exit id=>cases e2
    | _=>trivial
   ·cases e2
  cases x with
  | region id ops draw =>
   cases draw with
   | true=>simp only [rF] at hb;exact piece hb
   | false =>
    simp only [rF] at hb
    cases hl:z5 ops.toList with
    | none=>simp only [hl] at hb;exact piece hb
    | some f =>
     simp only [hl] at hb
     obtain⟨o,cl,h1,hgu,hop,hcal,hargs,hdst⟩:=HX hl
     rw [wK cx.n _ _ _ _ hn] at hb
     have hsz:ar2 ops.size=((pC ops.toList).dropLast).map (·.i)++[ops.size-1]:=by
      have hne:ops.toList≠[]:=by intro h0;rw [h0] at h1;cases h1
      have hlen:(pC ops.toList).length=ops.size:=by simp [pC]
      have hm1:((pC ops.toList).dropLast).map (·.i)=(ar2 ops.size).dropLast:=by rw [List.map_dropLast,rP.1]
      rw [hm1]
      have hpos:0<ops.size:=by rw [←aq7];exact List.length_pos_iff.2 hne
      obtain⟨m,hmm⟩:∃m,ops.size=m+1:=⟨ops.size-1,by omega⟩
      rw [hmm,List.range_succ,List.dropLast_concat]
      rfl
     have hlast:ops[ops.size-1]?=some o:=by
      rw [←ah1]
      rw [List.getLast?_eq_getElem?] at h1
      simpa using h1
     refine wp_seq (wp_region ?_)
     rw [hsz]
     refine Dv (J:=fun a=>a.defers=[]) [ops.size-1] (fun o _ a V h=>by cases o.dst <;> exact h) hX hK _ [] ρ h G w a (fun it hit=>rP.2 it ((List.dropLast_sublist _).subset hit)) hb i gl s (fun ρ2 h2 G2 w2 a2 e2 x2 i2 s2=>?_) (fun v h2 G2 w2 V a2 e2=>by cases e2)
     split at e2
     case isFalse=>cases e2
     rename_i hn2
     obtain⟨d,hd,hwp⟩:=HR (fn:=fn) (RE:=RE) hno hm hX hK hlp e2 i2 (gl.mono x2) s2 hn2 (s2.eval (gl.mono x2).cells f) fun a' G' w' hr x3 i3 s3=>hfin a' G' w' hr (x2.trans x3) i3 s3
     have hrun:(execOp a2.eval o).run cx.P w2=.ok (.defer d) w2:=by
      simp [execOp,hop,resolve,hcal,hargs,Sem.run_bind,Sem.run_pure,hd w2]
     simp only [wpOps,hlast]
     rw [if_pos (by simp [Region.wanted,hgu])]
     left
     unfold Oper.wp
     rw [hrun,Oper.upon_defer,hdst]
     exact hwp
  | _=>simp only [rF] at hb;exact piece hb
 | _=>intro L ρ h r G w a hb;simp [rF] at hb
end
end
section
open Go Go.RowKit
def sameShape:lN→lN→Prop
 | .free,.free=>True
 | .gone,.gone=>True
 | .cells _,.cells _=>True
 | .front n sz t,.front n' sz' t'=>n=n'∧sz=sz'∧t=t'
 | .vec _ _ _,.vec _ _ _=>True
 | .map _,.map _=>True
 | .tcells t _,.tcells t' _=>t'=t
 | _,_=>False
theorem wO {f:Nat→Nat}(b:lN):sameShape b (b.pO f):=by cases b <;> simp [sameShape,lN.pO]
structure A4 (G:Gh) (h:kO) (G2:Gh) (h2:kO) (f:Nat→Nat) (p:Nat→Bool):Prop where
 hmono:∀b k v,G.H b k=some v→G2.H b k=some v
 mO:∀id b,p id=true→h[id]?=some b→∃b2,h2[f id]?=some b2∧sameShape b b2
 pl:∀id,p id=true→G2.mO (f id)=G.mO id
 cur:∀id,p id=true→G2.cur (f id)=G.cur id
section
variable {G G2:Gh}{h h2:kO}{f:Nat→Nat}{p:Nat→Bool}
theorem A4.live (m:A4 G h G2 h2 f p) {id:Nat}(hp:p id=true) (hl:live h id):live h2 (f id):=by
 obtain⟨b,h1,hn⟩:=hl
 obtain⟨b2,h3,h4⟩:=m.mO id b hp h1
 exact⟨b2,h3,by cases b <;> cases b2 <;> simp_all [sameShape]⟩
theorem A4.nf (m:A4 G h G2 h2 f p) {id:Nat}(hp:p id=true) (hl:uA h id):uA h2 (f id):=by
 obtain⟨b,h1,hn,hf⟩:=hl
 obtain⟨b2,h3,h4⟩:=m.mO id b hp h1
 exact⟨b2,h3,by cases b <;> cases b2 <;> simp_all [sameShape],by cases b <;> cases b2 <;> simp_all [sameShape]⟩
theorem yA (m:A4 G h G2 h2 f p) {v:kN}{V:Value}(r:k_ G h v V) (hok:v.MA p=true):k_ G2 h2 (v.xC f) V:=by
 cases r with
 | p v V hp =>
  have e:v.xC f=v:=by cases hp <;> rfl
  rw [e];exact .p _ _ (hp.mono m.hmono)
 | agg cs C hl hh=>cases hok
 | tuple cs C hl hh=>cases hok
 | nil=>exact .nil
 | own rows id n sz V hp hf hn hr hc =>
  have hq:p id=true:=hok
  obtain⟨b2,h3,h4⟩:=m.mO id _ hq hf
  cases b2 <;> simp only [sameShape] at h4
  obtain⟨rfl,rfl,rfl⟩:=h4
  exact .own rows (f id) n sz V (hp.mono m.hmono) h3 hn hr fun e=>by rw [m.cur id hq];exact hc e
 | ownv id V hp hb=>exact .ownv (f id) V (hp.mono m.hmono) (m.nf hok hb)
 | vslice id tot off len sz b cap hl ht hc hv =>
  have hq:p id=true:=hok
  refine .vslice (f id) tot off len sz b cap (m.nf hq hl) ?_ hc ?_
  ·rw [m.cur id hq];exact ht
  ·rw [m.cur id hq];exact hv
 | vptr id tot off b hl ht hv =>
  have hq:p id=true:=hok
  refine .vptr (f id) tot off b (m.nf hq hl) ?_ ?_
  ·rw [m.cur id hq];exact ht
  ·rw [m.cur id hq];exact hv
 | ptr id off hl =>
  have hq:p id=true:=hok
  rw [←m.pl id hq];exact .ptr (f id) off (m.live hq hl)
 | mslice id off len sz cap hl hc =>
  have hq:p id=true:=hok
  rw [←m.pl id hq];exact .mslice (f id) off len sz cap (m.live hq hl) hc
 | mslice0 id off sz cap a=>exact .mslice0 (f id) off sz cap a
 | map id hl =>
  have hq:p id=true:=hok
  rw [←m.pl id hq];exact .map (f id) (m.live hq hl)
 | func g first cap F C hlf hlc hf hc =>
  simp only [kN.MA,ae7,List.isEmpty_iff] at hok
  obtain⟨rfl,rfl⟩:=hok
  exact .func g [] [] F C hlf hlc (fun i v hv=>by simp at hv) (fun i v hv=>by simp at hv)
 | iface t v V hh=>cases hok
theorem B2 (m:A4 G h G2 h2 f p) {v:kN}{V:Value}(r:k_ G h v V) (hok:v.ok p=true):k_ G2 h2 (v.pO f) V:=by
 have agg:∀(cs:List kN) (V:Value),cs.all (kN.MA p)=true→k_ G h (.agg cs) V→k_ G2 h2 (.agg (cs.map (kN.xC f))) V:=by
  intro cs V hk hx
  obtain⟨C,rfl,hl,hr⟩:=hx.vB
  refine .agg _ _ (by simpa using hl) fun i u hu=>?_
  simp only [ah3,ad2] at hu
  obtain⟨a,ha,rfl⟩:=hu
  exact yA m (hr i a ha) (al0.1 hk a (ae0 ha))
 cases v with
 | agg cs=>exact agg cs V hok r
 | tuple vs =>
  obtain⟨C,rfl,hl,hr⟩:=r.Ad
  simp only [kN.ok,al0] at hok
  refine .tuple _ _ (by simpa using hl) fun i u hu=>?_
  simp only [ah3,ad2] at hu
  obtain⟨a,ha,rfl⟩:=hu
  have h1:=hr i a ha
  have h2:=hok a (ae0 ha)
  cases a <;> first | exact agg _ _ h2 h1 | exact yA m h1 h2
 | _=>exact yA m r hok
theorem BC {v:kN}(h:v.lS=true):(v.xC f).lS=true:=by
 cases v <;> first | exact h | rfl | skip
 rename_i rows t
 cases t <;> rfl
theorem xE.pO {w:World}{id j:Nat}{b:lN}(m:A4 G h G2 h2 f p) (hH:G2.H=G.H) (hb:G2.mO j=G.mO id) (hc:G2.cur j=G.cur id) (hok:b.ok p=true)
  (hk:xE G h w id b):xE G2 h2 w j (b.pO f):=by
 cases b with
 | free=>trivial
 | gone=>trivial
 | cells cs =>
  obtain⟨C,e,h1,h2',h3,h4⟩:=hk
  refine⟨C,e,by rw [hb];exact h1,by rw [List.length_map];exact h2',by rw [hb,hH];exact h3,fun i v hv=>?_⟩
  rw [ah3] at hv
  obtain⟨u,hu,rfl⟩:=ad2.1 hv
  exact⟨BC (h4 i u hu).1,yA m (h4 i u hu).2 (al0.1 hok u (ae0 hu))⟩
 | tcells t cs =>
  obtain⟨C,h1,h2',h3,h4⟩:=hk
  refine⟨C,by rw [hb];exact h1,by rw [List.length_map];exact h2',by rw [hb,hH];exact h3,fun i v hv=>?_⟩
  rw [ah3] at hv
  obtain⟨u,hu,rfl⟩:=ad2.1 hv
  exact⟨BC (h4 i u hu).1,yA m (h4 i u hu).2 (al0.1 hok u (ae0 hu))⟩
 | front n sz t =>
  show xE G2 h2 w j (.front n sz t)
  simp only [xE] at hk ⊢
  rw [hc,hH];exact hk
 | vec tot sz cs =>
  obtain⟨b,cap,C,e,h1,h2',h3,h4,h5,h6,h7,h8,h9⟩:=hk
  refine⟨b,cap,C,e,by rw [hc];exact h1,h2',h3,h4,h5,h6,by rw [List.length_map];exact h7,by rw [hH];exact h8,fun i v hv=>?_⟩
  rw [ah3] at hv
  obtain⟨u,hu,rfl⟩:=ad2.1 hv
  exact⟨BC (h9 i u hu).1,yA m (h9 i u hu).2 (al0.1 hok u (ae0 hu))⟩
 | map es =>
  obtain⟨E,c,h1,h2',h3,h4,h5⟩:=hk
  refine⟨E,c,by rw [hb];exact h1,by rw [List.length_map];exact h2',by rw [hb,hH];exact h3,fun i kv hv=>?_,h5⟩
  rw [ah3] at hv
  obtain⟨u,hu,rfl⟩:=ad2.1 hv
  obtain⟨mm,a1,a2,a3,a4⟩:=h4 i u hu
  have hok':(es.all fun e=>e.2.MA p)=true:=hok
  exact⟨mm,a1,a2,by rw [hH];exact a3,yA m a4 (al0.1 hok' u (ae0 hu))⟩
theorem As {id j:Nat}{b:lN}(hb:G2.mO j=G.mO id) (hc:G2.cur j=G.cur id):mF G2 j (b.pO f)=mF G id b:=by
 cases b <;> simp [lN.pO,mF,hb,hc]
end
theorem uY:∀{l:List Nat}{i:Nat},i∈l→l[AU l i]?=some i
 | [],i,h=>by simp at h
 | a::r,i,h=>by
  unfold AU
  cases hab:a == i with
  | true =>
   have:a=i:=by simpa using hab
   subst this;rfl
  | false =>
   have hne:a≠i:=by simpa using hab
   have hm:i∈r:=by
    rcases List.mem_cons.1 h with h | h
    ·exact absurd h.symm hne
    ·exact h
   simp only [cond_false,List.getElem?_cons_succ]
   exact uY hm
theorem uK:∀{l:List Nat},uV l=true→∀{i j a:Nat},l[i]?=some a→l[j]?=some a→i=j
 | [],_,i,j,a,h,_=>by simp at h
 | b::r,hd,i,j,a,hi,hj=>by
  simp only [uV,ae7,Bool.not_eq_true'] at hd
  have hnb:∀k,r[k]?=some b→False:=fun k hk=>by
   have:=ae0 hk
   have h1:r.contains b=true:=by simpa using this
   rw [hd.1] at h1;cases h1
  cases i with
  | zero =>
   cases j with
   | zero=>rfl
   | succ j=>simp at hi hj;subst hi;exact(hnb j hj).elim
  | succ i =>
   cases j with
   | zero=>simp at hi hj;subst hj;exact(hnb i hi).elim
   | succ j=>have:=uK hd.2 (i:=i) (j:=j) (by simpa using hi) (by simpa using hj);omega
theorem Bw:∀{is:List Nat}{bs:kO}{h:kO}{id:Nat},¬id∈is→(yO is bs h)[id]?=h[id]?
 | [],_,_,_,_=>rfl
 | i::is,[],_,_,_=>rfl
 | i::is,b::bs,h,id,hn=>by
  rw [yO,Bw (fun hm=>hn (by simp [hm])),List.getElem?_set_ne (fun e=>hn (by simp [e]))]
theorem H_:∀{is:List Nat}{bs:kO}{h:kO}{j id:Nat}{b:lN},uV is=true→is[j]?=some id→bs[j]?=some b→id<h.length→(yO is bs h)[id]?=some b
 | [],_,_,_,_,_,_,h,_,_=>by simp at h
 | i::is,[],_,_,_,_,_,_,h,_=>by simp at h
 | i::is,c::bs,h,j,id,b,hd,hi,hb,hl=>by
  simp only [uV,ae7,Bool.not_eq_true'] at hd
  rw [yO]
  cases j with
  | zero =>
   simp at hi hb;subst hi;subst hb
   rw [Bw (fun hm=>by
    have h1:is.contains i=true:=by simpa using hm
    rw [hd.1] at h1;cases h1)]
   simp [hl]
  | succ j=>exact H_ hd.2 (by simpa using hi) (by simpa using hb) (by simpa using hl)
theorem Ox:∀{r acc:List Nat},∃l,Ow acc r=acc++l
 | [],acc=>⟨[],by simp [Ow]⟩
 | i::r,acc=>by
  obtain⟨l,hl⟩:=Ox (r:=r) (acc:=bif acc.contains i then acc else acc++[i])
  rw [Ow,hl]
  cases acc.contains i with
  | true=>exact⟨l,rfl⟩
  | false=>exact⟨i::l,by simp⟩
theorem Qd {G G':Gh}{h h' h2:kO}{w w':World}{v:kN}{V:Value}{r:mR}(hb:zY h.length v h'=some (r,h2)) (x:Ext G h w G' h' w') (i:Inv G' h' w') (hv:k_ G' h' v V) :
  tN G h w r h2 (.returned V) w':=by
 unfold zY at hb
 obtain⟨rest,hids⟩:=Ox (r:=reach h' [v]) (acc:=ar2 h.length)
 have hids:vJ h.length v h'=ar2 h.length++rest:=hids
 generalize vJ h.length v h'=ids at *
 unfold FO at hb
 cases ho:v.ok (fun i=>ids.contains i)&&D_ ids h' with
 | false=>rw [ho] at hb;cases hb
 | true =>
  rw [ho] at hb
  simp only [cond_true,aa9,ap2] at hb
  obtain⟨rfl,rfl⟩:=hb
  simp only [D_,ae7,al0] at ho
  obtain⟨hvok,hdis,hiok⟩:=ho
  have hmem:∀{id:Nat},ids.contains id=true↔id∈ids:=by intro id;simp
  have hblk:∀id,id∈ids→∃b,h'[id]?=some b∧b.ok (fun i=>ids.contains i)=true:=by
   intro id hid
   have:=hiok id hid
   cases hg:h'[id]? with
   | none=>rw [hg] at this;cases this
   | some b=>rw [hg] at this;exact⟨b,rfl,this⟩
  let Gs:Gh:={ H:=G'.H,mO:=fun j=>G'.mO (ids.getD j 0),cur:=fun j=>G'.cur (ids.getD j 0) }
  have getj:∀{j id:Nat},ids[j]?=some id→ids.getD j 0=id:=fun hj=>by rw [ad9,hj];rfl
  have sg:∀{j id:Nat}{b:lN},ids[j]?=some id→h'[id]?=some b→(zK ids h')[j]?=some (b.pO (AU ids)):=by
   intro j id b hj hbb
   unfold zK
   rw [ah3,hj]
   simp [ad9,hbb]
  have m1:A4 G' h' Gs (zK ids h') (AU ids) (fun i=>ids.contains i):=⟨fun _ _ _ h=>h,fun id b hp hbb=>⟨_,sg (uY (hmem.1 hp)) hbb,wO b⟩,
   fun id hp=>by show G'.mO _=_;rw [getj (uY (hmem.1 hp))],fun id hp=>by show G'.cur _=_;rw [getj (uY (hmem.1 hp))]⟩
  have sinv:∀{j:Nat}{bl:lN},(zK ids h')[j]?=some bl→∃id b,ids[j]?=some id∧h'[id]?=some b∧b.ok (fun i=>ids.contains i)=true∧bl=b.pO (AU ids):=by
   intro j bl hj
   have hj2:=hj
   unfold zK at hj
   rw [ah3] at hj
   obtain⟨id,hid,_⟩:=ad2.1 hj
   obtain⟨b,hb1,hb2⟩:=hblk id (ae0 hid)
   rw [sg hid hb1] at hj2
   exact⟨id,b,hid,hb1,hb2,(Option.some.inj hj2).symm⟩
  have sown:∀{j id:Nat},ids[j]?=some id→owner Gs (zK ids h') j=owner G' h' id:=by
   intro j id hj
   obtain⟨b,hb1,_⟩:=hblk id (ae0 hj)
   rw [mM (sg hj hb1),mM hb1]
   exact As (by show G'.mO _=_;rw [getj hj]) (by show G'.cur _=_;rw [getj hj])
  have sown2:∀{j b:Nat},owner Gs (zK ids h') j=some b→∃id,ids[j]?=some id∧owner G' h' id=some b:=by
   intro j b hj
   obtain⟨bl,hbl,_⟩:=oC hj
   obtain⟨id,b0,hid,_⟩:=sinv hbl
   exact⟨id,hid,by rw [←sown hid];exact hj⟩
  have low:∀{j:Nat},j<h.length→ids[j]?=some j:=fun hj=>by
   rw [hids,ah6 (by simpa using hj),List.getElem?_range hj]
  have is:Inv Gs (zK ids h') w':=⟨i.ok,fun j bl hj=>by
    obtain⟨id,b,hid,hb1,hb2,rfl⟩:=sinv hj
    exact(i.mO id b hb1).pO m1 rfl (by show G'.mO _=_;rw [getj hid]) (by show G'.cur _=_;rw [getj hid]) hb2,
   fun a c b ha hc=>by
    obtain⟨ia,h1,h2⟩:=sown2 ha
    obtain⟨ic,h3,h4⟩:=sown2 hc
    have:=i.inj ia ic b h2 h4
    subst this
    exact uK hdis h1 h3⟩
  refine⟨Gs,⟨x.os,x.tape,x.output,x.size,fun b hlt hno=>x.frame b hlt hno,x.hmono,fun j b hob hlt=>?_,fun id bl hbl=>?_⟩,is,V,rfl,B2 m1 hv hvok⟩
  ·obtain⟨id,hid,h1⟩:=sown2 hob
   have h2:=x.own id b h1 hlt
   obtain⟨bl,hbl,_⟩:=oC h2
   have hlt2:=(ad0.1 hbl).1
   have:j=id:=uK hdis hid (low hlt2)
   rw [this];exact h2
  ·have hlt:=(ad0.1 hbl).1
   obtain⟨bl',hb1,hk1⟩:=x.kinds id bl hbl
   refine⟨_,sg (low hlt) hb1,?_⟩
   have e1:Gs.mO id=G'.mO id:=by show G'.mO _=_;rw [getj (low hlt)]
   have e2:Gs.cur id=G'.cur id:=by show G'.cur _=_;rw [getj (low hlt)]
   cases bl <;> cases bl' <;> simp only [lN.pO,Kind,List.length_map] at hk1 ⊢ <;> first | exact hk1.elim | (rw [e1,e2];exact hk1) | (rw [e1];exact hk1) | trivial
section
variable {P:Program}{A:xS}{K:kT}
theorem S4 {ids:List Nat}{f:Nat}{args:List kN}{h:kO}{r:mR}{h':kO}(hK:qR P A K) (hb:Xv K ids f args h=some (r,h')) {G:Gh}{w:World}{X:Array Value}(i:Inv G h w) (gl:o_ A G h w) (hx:xW G h args X) :
  (∀w,(callFunc f X).run P w=.ok (.enter f X) w)∧Calls P f X w (tN G h w r h'):=by
 unfold Xv at hb
 cases ho:Kx ids args h with
 | false=>rw [ho] at hb;cases hb
 | true =>
  rw [ho] at hb
  simp only [cond_true] at hb
  obtain⟨⟨r1,h1⟩,hc,hb⟩:=aa6.1 hb
  unfold GJ at hb
  cases hk:h1.length == ids.length&&(h1.all (lN.ok fun j=>decide (j<ids.length))&&r1.ok fun j=>decide (j<ids.length)) with
  | false=>simp only [hk,cond_false] at hb;cases hb
  | true =>
  simp only [hk,cond_true,aa9,ap2] at hb
  obtain⟨rfl,rfl⟩:=hb
  simp only [ae7,beq_iff_eq,al0] at hk
  obtain⟨hlen,hbok,hrok⟩:=hk
  simp only [Kx,ae7,al0] at ho
  obtain⟨haok,hdis,hiok⟩:=ho
  have hmem:∀{id:Nat},ids.contains id=true↔id∈ids:=by intro id;simp
  have hblk:∀id,id∈ids→∃b,h[id]?=some b∧b.ok (fun i=>ids.contains i)=true:=by
   intro id hid
   have:=hiok id hid
   cases hg:h[id]? with
   | none=>rw [hg] at this;cases this
   | some b=>rw [hg] at this;exact⟨b,rfl,this⟩
  let Gs:Gh:={ H:=G.H,mO:=fun j=>G.mO (ids.getD j 0),cur:=fun j=>G.cur (ids.getD j 0) }
  have getj:∀{j id:Nat},ids[j]?=some id→ids.getD j 0=id:=fun hj=>by rw [ad9,hj];rfl
  have sg:∀{j id:Nat}{b:lN},ids[j]?=some id→h[id]?=some b→(zK ids h)[j]?=some (b.pO (AU ids)):=by
   intro j id b hj hbb
   unfold zK
   rw [ah3,hj]
   simp [ad9,hbb]
  have m1:A4 G h Gs (zK ids h) (AU ids) (fun i=>ids.contains i):=⟨fun _ _ _ h=>h,fun id b hp hbb=>⟨_,sg (uY (hmem.1 hp)) hbb,wO b⟩,
   fun id hp=>by show G.mO _=_;rw [getj (uY (hmem.1 hp))],fun id hp=>by show G.cur _=_;rw [getj (uY (hmem.1 hp))]⟩
  have sinv:∀{j:Nat}{bl:lN},(zK ids h)[j]?=some bl→∃id b,ids[j]?=some id∧h[id]?=some b∧b.ok (fun i=>ids.contains i)=true∧bl=b.pO (AU ids):=by
   intro j bl hj
   have hj2:=hj
   unfold zK at hj
   rw [ah3] at hj
   obtain⟨id,hid,_⟩:=ad2.1 hj
   obtain⟨b,hb1,hb2⟩:=hblk id (ae0 hid)
   rw [sg hid hb1] at hj2
   exact⟨id,b,hid,hb1,hb2,(Option.some.inj hj2).symm⟩
  have sown:∀{j id:Nat},ids[j]?=some id→owner Gs (zK ids h) j=owner G h id:=by
   intro j id hj
   obtain⟨b,hb1,_⟩:=hblk id (ae0 hj)
   rw [mM (sg hj hb1),mM hb1]
   exact As (by show G.mO _=_;rw [getj hj]) (by show G.cur _=_;rw [getj hj])
  have sown2:∀{j b:Nat},owner Gs (zK ids h) j=some b→∃id,ids[j]?=some id∧owner G h id=some b:=by
   intro j b hj
   obtain⟨bl,hbl,_⟩:=oC hj
   obtain⟨id,b0,hid,_⟩:=sinv hbl
   exact⟨id,hid,by rw [←sown hid];exact hj⟩
  have is:Inv Gs (zK ids h) w:=⟨i.ok,fun j bl hj=>by
    obtain⟨id,b,hid,hb1,hb2,rfl⟩:=sinv hj
    exact(i.mO id b hb1).pO m1 rfl (by show G.mO _=_;rw [getj hid]) (by show G.cur _=_;rw [getj hid]) hb2,
   fun a c b ha hc=>by
    obtain⟨ia,h1,h2⟩:=sown2 ha
    obtain⟨ic,h3,h4⟩:=sown2 hc
    have:=i.inj ia ic b h2 h4
    subst this
    exact uK hdis h1 h3⟩
  have hxs:xW Gs (zK ids h) (args.map (kN.pO (AU ids))) X:=⟨by rw [List.length_map];exact hx.1,fun j u hu=>by
   rw [ah3] at hu
   obtain⟨v,hv,rfl⟩:=ad2.1 hu
   exact B2 m1 (hx.2 j v hv) (haok v (ae0 hv))⟩
  obtain⟨e1,e2⟩:=hK f _ _ _ _ hc Gs w X is (gl.sub rfl fun j b ho=>by obtain⟨id,_,h2⟩:=sown2 ho;exact⟨id,h2⟩) hxs
  refine⟨e1,Calls.mono e2 fun e w' hpost=>?_⟩
  obtain⟨Ge,x,ie,hpost⟩:=hpost
  let G2:Gh:={ H:=Ge.H,mO:=fun id=>if id∈ids then Ge.mO (AU ids id) else G.mO id,cur:=fun id=>if id∈ids then Ge.cur (AU ids id) else G.cur id }
  have idj:∀{j id:Nat},ids[j]?=some id→AU ids id=j:=fun hj=>uK hdis (uY (ae0 hj)) hj
  have b1:∀{j id:Nat},ids[j]?=some id→G2.mO id=Ge.mO j:=fun hj=>by
   show(if _ then _ else _)=_
   rw [if_pos (ae0 hj),idj hj]
  have c1:∀{j id:Nat},ids[j]?=some id→G2.cur id=Ge.cur j:=fun hj=>by
   show(if _ then _ else _)=_
   rw [if_pos (ae0 hj),idj hj]
  have b2:∀{id:Nat},¬id∈ids→G2.mO id=G.mO id:=fun hn=>if_neg hn
  have c2:∀{id:Nat},¬id∈ids→G2.cur id=G.cur id:=fun hn=>if_neg hn
  let back:Nat→Nat:=fun j=>ids.getD j 0
  let hN:kO:=yO ids (h1.map (lN.pO back)) h
  have gin:∀{j id:Nat}{b:lN},ids[j]?=some id→h1[j]?=some b→hN[id]?=some (b.pO back):=by
   intro j id b hj hbj
   obtain⟨b0,hb0,_⟩:=hblk id (ae0 hj)
   exact H_ hdis hj (by rw [ah3,hbj];rfl) (ad0.1 hb0).1
  have gout:∀{id:Nat},¬id∈ids→hN[id]?=h[id]?:=fun hn=>Bw hn
  have hjl:∀{j id:Nat},ids[j]?=some id→∃b,h1[j]?=some b:=fun hj=>⟨_,ae1 (by rw [hlen];exact(ad0.1 hj).1)⟩
  have m2:A4 Ge h1 G2 hN back (fun j=>decide (j<ids.length)):=by
   have gt:∀{j:Nat},decide (j<ids.length)=true→ids[j]?=some (back j):=fun {j} hp=>by
    have hlt:j<ids.length:=by simpa using hp
    show _=some (ids.getD j 0)
    rw [ad9,ae1 hlt];rfl
   exact⟨fun _ _ _ h=>h,fun j b hp hbj=>⟨_,gin (gt hp) hbj,wO b⟩,fun j hp=>b1 (gt hp),fun j hp=>c1 (gt hp)⟩
  have own2:∀{id b:Nat},owner G2 hN id=some b→(∃j,ids[j]?=some id∧owner Ge h1 j=some b)∨(¬id∈ids∧owner G h id=some b):=by
   intro id b hob
   by_cases hid:id∈ids
   ·obtain⟨j,hj⟩:=List.getElem?_of_mem hid
    obtain⟨bl,hbl⟩:=hjl hj
    refine .inl ⟨j,hj,?_⟩
    rw [mM (gin hj hbl)] at hob
    rw [mM hbl,←hob]
    exact(As (b1 hj) (c1 hj)).symm
   ·refine .inr ⟨hid,?_⟩
    obtain⟨bl,hbl,ho2⟩:=oC hob
    rw [gout hid] at hbl
    rw [mM hbl,←ho2]
    cases bl <;> simp [mF,b2 hid,c2 hid]
  have xo:∀{id:Nat}{b:Nat},¬id∈ids→owner G h id=some b→w'.heap[b]?=w.heap[b]?∧∀k,Ge.H b k=G.H b k:=by
   intro id b hn hob
   obtain⟨bl,hbl,hob2⟩:=oC hob
   refine x.frame b ((i.mO id bl hbl).lt hob2) fun j hj=>?_
   obtain⟨id2,hj2,ho3⟩:=sown2 hj
   have:=i.inj id id2 b hob ho3
   subst this
   exact hn (ae0 hj2)
  have ownS:∀{id b:Nat},owner G2 hN id=some b→b<w.heap.size→owner G h id=some b:=by
   intro id b hob hlt
   rcases own2 hob with ⟨j,hj,h2⟩ | ⟨_,h2⟩
   ·obtain⟨id2,hj2,h3⟩:=sown2 (x.own j b h2 hlt)
    rw [hj] at hj2;cases hj2;exact h3
   ·exact h2
  have kinds:∀id bl,h[id]?=some bl→∃bl',hN[id]?=some bl'∧Kind G G2 id bl bl':=by
   intro id bl hbl
   by_cases hid:id∈ids
   ·obtain⟨j,hj⟩:=List.getElem?_of_mem hid
    obtain⟨bl',hb1,hk1⟩:=x.kinds j _ (sg hj hbl)
    refine⟨_,gin hj hb1,?_⟩
    have e1:Gs.mO j=G.mO id:=by show G.mO _=_;rw [getj hj]
    have e2:Gs.cur j=G.cur id:=by show G.cur _=_;rw [getj hj]
    cases bl <;> cases bl' <;> simp only [lN.pO,Kind,e1,e2,List.length_map] at hk1 ⊢ <;> first | exact hk1.elim | (rw [b1 hj,c1 hj];exact hk1) | (rw [b1 hj];exact hk1) | trivial
   ·refine⟨bl,by rw [gout hid];exact hbl,?_⟩
    cases bl <;> simp [Kind,b2 hid,c2 hid]
  have ext:Ext G h w G2 hN w':=⟨x.os,x.tape,x.output,x.size,fun b hlt hno=>x.frame b hlt fun j hj=>by
    obtain⟨id,_,ho3⟩:=sown2 hj
    exact hno id ho3,x.hmono,fun id b hob hlt=>ownS hob hlt,kinds⟩
  refine⟨G2,ext,⟨ie.ok,fun id bl hbl=>?_,fun a c b ha hc=>?_⟩,?_⟩
  ·by_cases hid:id∈ids
   ·obtain⟨j,hj⟩:=List.getElem?_of_mem hid
    obtain⟨b0,hb0⟩:=hjl hj
    have:=gin hj hb0
    have hbl':hN[id]?=some bl:=hbl
    rw [this] at hbl'
    cases hbl'
    exact(ie.mO j b0 hb0).pO m2 rfl (b1 hj) (c1 hj) (hbok b0 (ae0 hb0))
   ·have hbl':h[id]?=some bl:=by rw [←gout hid];exact hbl
    exact(i.mO id bl hbl').OW ext.toMono (b2 hid) (c2 hid) fun b hob=>xo hid (by rw [mM hbl'];exact hob)
  ·rcases own2 ha with ⟨ja,hja,h2⟩ | ⟨hna,h2⟩
   ·rcases own2 hc with ⟨jc,hjc,h3⟩ | ⟨hnc,h3⟩
    ·have:=ie.inj ja jc b h2 h3
     subst this
     rw [hja] at hjc;exact Option.some.inj hjc
    ·obtain⟨bl,hbl,hob⟩:=oC h3
     have:=ownS ha ((i.mO c bl hbl).lt hob)
     exact i.inj a c b this h3
   ·rcases own2 hc with ⟨jc,hjc,h3⟩ | ⟨hnc,h3⟩
    ·obtain⟨bl,hbl,hob⟩:=oC h2
     have:=ownS hc ((i.mO a bl hbl).lt hob)
     exact i.inj a c b h2 this
    ·exact i.inj a c b h2 h3
  ·cases r1 with
   | ret v=>obtain⟨V,he,hV⟩:=hpost;exact⟨V,he,B2 m2 hV hrok⟩
   | pan v=>obtain⟨V,he,hV⟩:=hpost;exact⟨V,he,B2 m2 hV hrok⟩
end
end
section
open Go Go.RowKit
section
variable {P:Program}{A:xS}{K:kT}{lp:U3}{G:Gh}{h:kO}{w:World}
theorem Dq {f:Nat}{v:kN}{V:Value}{r:mR}{h' h2:kO}{G':Gh}{w':World}(hb:finish A f h.length v h'=some (r,h2)) (x:Ext G h w G' h' w') (i:Inv G' h' w') (hv:k_ G' h' v V) :
  tN G h w r h2 (.returned V) w':=by
 unfold finish at hb
 cases he:A.esc f with
 | true =>
  rw [he] at hb;cases hb
  exact⟨G',x,i,V,rfl,hv⟩
 | false =>
  rw [he] at hb
  simp only [cond_false] at hb
  cases hg:A.grow f with
  | true =>
   rw [hg] at hb
   simp only [cond_true,CA,ad2] at hb
   obtain⟨h3,ht,hb⟩:=hb
   obtain⟨G3,i3,x3,_,hrel,_⟩:=wX x i ht
   cases hb
   exact⟨G3,x3,i3,V,rfl,hrel _ _ hv⟩
  | false =>
   rw [hg] at hb
   cases hz:A.frr f with
   | true =>
    rw [hz] at hb
    simp only [cond_true,cond_false,atU] at hb
    obtain⟨y,hy,hb⟩:=aa6.1 hb
    obtain⟨G1,i1,x1,r1⟩:=zB i hy hv
    simp only [oM,ad2] at hb
    obtain⟨h3,ht,hb⟩:=hb
    obtain⟨G3,i3,x3,_,hrel,_⟩:=wX (x.trans x1) i1 ht
    cases hb
    exact⟨G3,x3,i3,V,rfl,Ae (hrel _ _ r1)⟩
   | false =>
   rw [hz] at hb
   cases hout:A.out f with
   | true =>
    rw [hout] at hb
    simp only [cond_true,cond_false] at hb
    exact Qd hb x i hv
   | false =>
    rw [hout] at hb
    simp only [cond_false,oM,ad2] at hb
    obtain⟨h3,ht,hb⟩:=hb
    obtain⟨G3,i3,x3,_,hrel,_⟩:=wX x i ht
    cases hb
    exact⟨G3,x3,i3,V,rfl,Ae (hrel _ _ hv)⟩
theorem wI {ρ:List kN}{x:mR×kO}:∀{l:List ResultVar}{k:List kN→Option (mR×kO)},wP P ρ h l k=some x→∃vs,l.mapM (wH P ρ h)=some vs∧k vs=some x
 | [],k,hb=>⟨[],rfl,hb⟩
 | .tmp t::l,k,hb=>by
  obtain⟨vs,h1,h2⟩:=wI (l:=l) hb
  exact⟨ρ.getD t .junk::vs,by simp [List.mapM_cons,wH,h1],h2⟩
 | .cell a t::l,k,hb=>by
  simp only [wP] at hb
  split at hb
  ·rename_i g n hg hn
   obtain⟨v,hv,hb⟩:=aa6.1 hb
   obtain⟨vs,h1,h2⟩:=wI (l:=l) hb
   exact⟨v::vs,by simp only [ad9] at hv;simp [List.mapM_cons,wH,hg,hn,hv,h1],h2⟩
  ·cases hb
theorem ae4 (G:Gh) (h:kO) (w:World) (r:mR) (h':kO):∀w',¬tN G h w r h' .outgrown w':=by
 rintro w' ⟨G',_,_,hq⟩
 cases r with
 | ret v=>obtain⟨_,hq,_⟩:=hq;cases hq
 | pan v=>obtain⟨_,hq,_⟩:=hq;cases hq
theorem Lh {f:Nat}{fn:Func}{c:Code}{args:List kN}{X:Array Value}{r:mR}{h':kO}(hm:P.follows .mixedOrders=true) (hX:tO P A) (hK:qR P A K) (hlp:KI lp)
  (hf:P.funcs[f]?=some fn) (hc:fn.body=some c) (hb:Lg P A K lp f fn c args h=some (r,h')) (i:Inv G h w) (gl:o_ A G h w) (hx:xW G h args X) (hn:args.length≤fn.ntmps) :
  Calls P f X w (tN G h w r h'):=by
 unfold Lg at hb
 obtain⟨r0,hr0,hend⟩:=aa6.1 hb
 cases hd:A.dfr f with
 | true =>
  rw [hd] at hr0
  simp only [Be] at hr0
  refine calls_of_wp_defers hf hc ?_
  refine JN (ae4 G h w r h') (cx:={ P,A,K,lp,n:=fn.ntmps,full:=2^fn.ntmps-1,pan:=false,vec:=A.adF f,frz:=A.frz f,vlit:=A.Ub f,vmk:=A.vmk f,jt:=A.jt f,lkp:=A.lkp f,rb:=A.rb f,frl:=A.frl f,tb:=A.tb f,ck:=A.ck f }) hm hX hK hlp rfl c _ _ h r0 G w _ hr0 i gl (yQ hx hn) (by simp;omega) ?_
  intro a' G' w' he x2 i2 s2
  have hend':wP P (unpack fn.ntmps (yS fn) r0.2.1) r0.2.2 fn.results.toList (fun vs=>finish A f h.length (oneOf vs) r0.2.2)=some (r,h'):=by
   unfold Kk at hend
   rw [he] at hend
   cases hp:A.pan f <;> rw [hp] at hend <;> exact hend
  obtain⟨vs,hvs,hend'⟩:=wI hend'
  obtain⟨V,hV,hrel⟩:=wN hvs i2 s2
  exact⟨V,hV,Dq hend' x2 i2 hrel⟩
 | false =>
 rw [hd] at hr0
 simp only [Be] at hr0
 refine calls_of_wp hf hc ?_
 refine tP (cx:={ P,A,K,lp,n:=fn.ntmps,full:=2^fn.ntmps-1,pan:=A.pan f,vec:=A.adF f,frz:=A.frz f,vlit:=A.Ub f,vmk:=A.vmk f,jt:=A.jt f,lkp:=A.lkp f,rb:=A.rb f,frl:=A.frl f,tb:=A.tb f,ck:=A.ck f }) hm hX hK hlp c _ _ h _ _ r0 G w _ _ (rA c) hr0 i gl (yQ hx hn) (by simp;omega) ?_ (fun _ w' hq=>ae4 G h w r h' w' hq)
 have ret:∀(e:Ex) (ρ':List kN) (h1:kO) (G':Gh) (w':World) (a':Act),(e=.normal∨e=.ret)→Kk P A f fn h.length e (unpack fn.ntmps (yS fn) (pack (yS fn) ρ')) h1=some (r,h')→Ext G h w G' h1 w'→Inv G' h1 w'→nC (fun a=>a.defers=[]) G' h1 ρ' a'→ρ'.length=fn.ntmps →
   a'.defers=[]∧∃v,(results fn a'.tmps).run P w'=.ok v w'∧tN G h w r h' (.returned v) w':=by
  intro e ρ' h1 G' w' a' he hend h3 h4 s hn'
  have s':=s.pack (L:=yS fn) hn'
  have hend':wP P (unpack fn.ntmps (yS fn) (pack (yS fn) ρ')) h1 fn.results.toList (fun vs=>finish A f h.length (oneOf vs) h1)=some (r,h'):=by
   unfold Kk at hend
   cases hp:A.pan f <;> rw [hp] at hend <;> rcases he with rfl | rfl <;> exact hend
  obtain⟨vs,hvs,hend'⟩:=wI hend'
  obtain⟨V,hV,hrel⟩:=wN hvs h4 s'
  exact⟨s.df,V,hV,Dq hend' h3 h4 hrel⟩
 refine⟨fun ρ' h1 G' w' a' h2 h3 h4 h5 h6=>?_,fun e ρ' h1 G' w' a' h2 h3 h4 h5 h6=>?_,fun v ρ' h1 G' w' a' V h2 h3 h4 h5 h6=>?_⟩
 ·cases h2
  exact ret _ ρ' h1 G' w' a' (.inl rfl) hend h3 h4 h5 h6
 ·cases h2
  cases e with
  | ret=>exact ret _ ρ' h1 G' w' a' (.inr rfl) hend h3 h4 h5 h6
  | exit id=>unfold Kk at hend;cases hp:A.pan f <;> rw [hp] at hend <;> cases hend
  | _=>trivial
 ·cases h2
  unfold Kk at hend
  cases hp:A.pan f with
  | false=>rw [hp] at hend;cases hend
  | true =>
   rw [hp] at hend
   simp only [cond_true,Ex.Ga] at hend
   cases hkp:A.kp f with
   | true =>
    rw [hkp] at hend
    simp only [cond_true] at hend
    cases hend
    exact⟨h6,G',h3,h4,V,rfl,h5⟩
   | false =>
   rw [hkp] at hend
   simp only [cond_false,OO,ad2] at hend
   obtain⟨h3',ht,hend⟩:=hend
   obtain⟨G3,i3,x3,_,hrel,_⟩:=wX h3 h4 ht
   cases hend
   exact⟨h6,G3,x3,i3,V,rfl,Ae (hrel _ _ h5)⟩
theorem O_ {f:Nat}{k:Yy}{args:List kN}{r:mR}{h':kO}{X:Array Value}(hP:adL P A f k) (hb:O9 A.bld k args h=some (r,h')) (i:Inv G h w) (gl:o_ A G h w) (hx:xW G h args X) :
  (∀w,(callFunc f X).run P w=.ok (.enter f X) w)∧Calls P f X w (tN G h w r h'):=by
 cases k with
 | fn g =>
  obtain⟨p1,p2⟩:=hP
  refine⟨fun w=>p1 X w,?_⟩
  simp only [O9] at hb
  obtain⟨v,hv,hb⟩:=ad2.1 hb
  cases hb
  refine Calls.mono (p2 G h w args X v i gl hx.1 hx.2 hv) fun e w' hp=>?_
  obtain⟨⟨V,rfl,hV⟩,q1,q2,q3,os,q4⟩:=hp
  have key:=i.push (G':=G) (ext:=[]) (w':=w') q1 q2 q3 (by rw [q4];simp) (fun k hk=>by rw [q4];exact aq0 hk) (fun _ _=>rfl) (fun _ _=>rfl) (fun _ _ _ h=>h) (fun _ _ _=>rfl)
   (fun b k v hb hv=>by have:=i.Ca (b:=b) (k:=k) (v:=v) hv;omega)
   (fun j bl hj=>by simp at hj) (fun j bl b hj=>by simp at hj) (fun j j' bl bl' b hj=>by simp at hj)
  rw [List.append_nil] at key
  exact⟨G,key.2,key.1,V,rfl,.p _ _ hV⟩
 | _=>exact hP.elim
theorem Uy (hm:P.follows .mixedOrders=true) (hX:tO P A) (hK:qR P A (lG A K)) (hlp:KI lp):qR P A (C8 P A lp K):=by
 intro f args h r h' hb G w X i gl hx
 unfold C8 at hb
 cases hpr:A.prm f with
 | some k =>
  simp only [hpr] at hb
  exact O_ (hX.2 f k hpr) hb i gl hx
 | none =>
 simp only [hpr] at hb
 cases hf:P.funcs[f]? with
 | none=>rw [hf] at hb;cases hb
 | some fn =>
  simp only [hf] at hb
  cases hc:fn.body with
  | none=>rw [hc] at hb;cases hb
  | some c =>
   simp only [hc] at hb
   cases hg:decide (args.length≤fn.ntmps)&&!(fn.name == "runtime.NumGoroutine") with
   | false=>rw [hg] at hb;cases hb
   | true =>
    rw [hg] at hb
    simp only [ae7,decide_eq_true_eq,Bool.not_eq_true'] at hg
    have key:Calls P f X w (tN G h w r h'):=by
     exact Lh hm hX hK hlp hf hc hb i gl hx hg.1
    refine⟨fun w=>?_,key⟩
    have hne:¬fn.name = "runtime.NumGoroutine" := by simpa using hg.2
    simp [callFunc,Sem.run_bind,hf,hc,hne,Sem.run_pure]
theorem Inv.empty (i:Inv G h w):Inv G [] w:=⟨i.ok,fun id bl hb=>by simp at hb,fun a b c ha=>by simp [owner] at ha⟩
theorem H8 {out:Bool}{r1 r:mR}{h1 h':kO}{e:Ending}{w':World}(hb:tR out h (r1,h1)=some (r,h')) (i:Inv G h w) (hpost:tN G [] w r1 h1 e w'):tN G h w r h' e w':=by
 obtain⟨G',x,i',hpost⟩:=hpost
 have fr:∀b,b<w.heap.size→w'.heap[b]?=w.heap[b]?∧∀k,G'.H b k=G.H b k:=fun b hb=>x.frame b hb fun id=>by simp [owner]
 have new:∀{j b:Nat},owner G' h1 j=some b→¬b<w.heap.size:=fun ho hlt=>by
  have:=x.own _ _ ho hlt
  simp [owner] at this
 have hcase:(h1=[]∧r=r1∧h'=h)∨(h1.all (lN.ok fun j=>decide (j<h1.length))=true∧r1.ok (fun j=>decide (j<h1.length))=true∧r=r1.pO (fun j=>h.length+j)∧h'=h++h1.map (lN.pO fun j=>h.length+j)):=by
  unfold tR at hb
  cases h1 with
  | nil=>cases hb;exact .inl ⟨rfl,rfl,rfl⟩
  | cons b t =>
   simp only at hb
   cases hc:out&&((b::t).all (lN.ok fun j=>decide (j<(b::t).length))&&r1.ok fun j=>decide (j<(b::t).length)) with
   | false=>rw [hc] at hb;cases hb
   | true =>
    rw [hc] at hb
    simp only [ae7] at hc
    cases hb
    exact .inr ⟨hc.2.1,hc.2.2,rfl,rfl⟩
 rcases hcase with ⟨rfl,rfl,rfl⟩ | ⟨hbok,hrok,rfl,rfl⟩
 ·let G2:Gh:={ G' with mO:=G.mO,cur:=G.cur }
  have mono:Cb G h' G2 h':=⟨x.hmono,fun id bl hb=>⟨bl,hb,by cases bl <;> simp [Kind,G2]⟩⟩
  have key:∀{v:kN}{V:Value},k_ G' [] v V→k_ G2 h' v V:=by
   intro v V r
   have nl:∀id,¬live ([]:kO) id:=fun id ⟨b,hb,_⟩=>by simp at hb
   induction r with
   | p v V hp=>exact .p v V hp
   | agg cs C hl _ ih=>exact .agg cs C hl ih
   | tuple cs C hl _ ih=>exact .tuple cs C hl ih
   | nil=>exact .nil
   | own rows id n sz V hp hf=>simp at hf
   | ownv id V hp hb=>obtain⟨b,hb,_⟩:=hb;simp at hb
   | vslice id tot off len sz b cap hb=>obtain⟨b,hb,_⟩:=hb;simp at hb
   | vptr id tot off b hb=>obtain⟨b,hb,_⟩:=hb;simp at hb
   | ptr id off hl=>exact absurd hl (nl id)
   | mslice id off len sz cap hl=>exact absurd hl (nl id)
   | mslice0 id off sz cap a=>exact .mslice0 id off sz cap a
   | map id hl=>exact absurd hl (nl id)
   | func f first cap F C hlf hlc _ _ ih1 ih2=>exact .func f first cap F C hlf hlc ih1 ih2
   | iface t v V _ ih=>exact .iface t v V ih
  refine⟨G2,⟨x.os,x.tape,x.output,x.size,fun b hb _=>fr b hb,x.hmono,fun id b ho _=>ho,mono.kinds⟩,⟨i'.ok,fun id bl hb=>?_,fun a b c ha hb=>i.inj a b c ha hb⟩,?_⟩
  ·refine(i.mO id bl hb).OW mono rfl rfl fun b ho=>?_
   exact fr b ((i.mO id bl hb).lt ho)
  ·cases r with
   | ret v=>obtain⟨V,he,hV⟩:=hpost;exact⟨V,he,key hV⟩
   | pan v=>obtain⟨V,he,hV⟩:=hpost;exact⟨V,he,key hV⟩
 ·simp only [al0] at hbok
  let G2:Gh:={ H:=G'.H,mO:=fun id=>if id<h.length then G.mO id else G'.mO (id-h.length),cur:=fun id=>if id<h.length then G.cur id else G'.cur (id-h.length) }
  let sh:Nat→Nat:=fun j=>h.length+j
  have b1:∀{id:Nat},id<h.length→G2.mO id=G.mO id:=fun hl=>if_pos hl
  have c1:∀{id:Nat},id<h.length→G2.cur id=G.cur id:=fun hl=>if_pos hl
  have b2:∀{j:Nat},G2.mO (sh j)=G'.mO j:=fun {j}=>by
   show(if _ then _ else _)=_
   rw [if_neg (by show ¬h.length+j<h.length;omega)];congr 1;show h.length+j-h.length=j;omega
  have c2:∀{j:Nat},G2.cur (sh j)=G'.cur j:=fun {j}=>by
   show(if _ then _ else _)=_
   rw [if_neg (by show ¬h.length+j<h.length;omega)];congr 1;show h.length+j-h.length=j;omega
  let hN:kO:=h++h1.map (lN.pO sh)
  have g1:∀{id:Nat},id<h.length→hN[id]?=h[id]?:=fun hl=>ah6 hl
  have g2:∀{j:Nat},hN[sh j]?=(h1[j]?).map (lN.pO sh):=fun {j}=>by
   show(h++_)[h.length+j]?=_
   rw [af7 (by omega),Nat.add_sub_cancel_left,ah3]
  have m2:A4 G' h1 G2 hN sh (fun j=>decide (j<h1.length)):=⟨fun _ _ _ h=>h,fun j b _ hb=>⟨_,by rw [g2,hb];rfl,wO b⟩,fun _ _=>b2,fun _ _=>c2⟩
  have own2:∀{id b:Nat},owner G2 hN id=some b→(id<h.length∧owner G h id=some b)∨(∃j,id=sh j∧owner G' h1 j=some b):=by
   intro id b ho
   obtain⟨bl,hbl,ho2⟩:=oC ho
   by_cases hl:id<h.length
   ·refine .inl ⟨hl,?_⟩
    rw [g1 hl] at hbl
    rw [mM hbl,←ho2]
    cases bl <;> simp [mF,b1 hl,c1 hl]
   ·have e:id=sh (id-h.length):=by show id=h.length+(id-h.length);omega
    refine .inr ⟨id-h.length,e,?_⟩
    rw [e,g2] at hbl
    obtain⟨b0,hb0,rfl⟩:=ad2.1 hbl
    have e3:=As (G:=G') (G2:=G2) (f:=sh) (id:=id-h.length) (j:=sh (id-h.length)) (b:=b0) b2 c2
    rw [←e] at e3
    rw [mM hb0,←e3]
    exact ho2
  have kinds:∀id bl,h[id]?=some bl→∃bl',hN[id]?=some bl'∧Kind G G2 id bl bl':=by
   intro id bl hbl
   have hl:=(ad0.1 hbl).1
   refine⟨bl,by rw [g1 hl];exact hbl,?_⟩
   cases bl <;> simp [Kind,b1 hl,c1 hl]
  have ext:Ext G h w G2 hN w':=⟨x.os,x.tape,x.output,x.size,fun b hb _=>fr b hb,x.hmono,fun id b ho hlt=>by
   rcases own2 ho with ⟨_,h2⟩ | ⟨j,_,h2⟩
   ·exact h2
   ·exact absurd hlt (new h2),kinds⟩
  refine⟨G2,ext,⟨i'.ok,fun id bl hbl=>?_,fun a c b ha hc=>?_⟩,?_⟩
  ·have hbl:hN[id]?=some bl:=hbl
   by_cases hl:id<h.length
   ·rw [g1 hl] at hbl
    exact(i.mO id bl hbl).OW ext.toMono (b1 hl) (c1 hl) fun b ho=>fr b ((i.mO id bl hbl).lt ho)
   ·have e:id=sh (id-h.length):=by show id=h.length+(id-h.length);omega
    rw [e,g2] at hbl
    obtain⟨b0,hb0,rfl⟩:=ad2.1 hbl
    rw [e]
    exact(i'.mO _ b0 hb0).pO m2 rfl b2 c2 (hbok b0 (ae0 hb0))
  ·rcases own2 ha with ⟨hla,h2⟩ | ⟨ja,rfl,h2⟩
   ·rcases own2 hc with ⟨hlc,h3⟩ | ⟨jc,rfl,h3⟩
    ·exact i.inj a c b h2 h3
    ·obtain⟨bl,hbl,hob⟩:=oC h2
     exact absurd ((i.mO a bl hbl).lt hob) (new h3)
   ·rcases own2 hc with ⟨hlc,h3⟩ | ⟨jc,rfl,h3⟩
    ·obtain⟨bl,hbl,hob⟩:=oC h3
     exact absurd ((i.mO c bl hbl).lt hob) (new h2)
    ·rw [i'.inj ja jc b h2 h3]
  ·cases r1 with
   | ret v=>obtain⟨V,he,hV⟩:=hpost;exact⟨V,he,B2 m2 hV hrok⟩
   | pan v=>obtain⟨V,he,hV⟩:=hpost;exact⟨V,he,B2 m2 hV hrok⟩
theorem OF (hK:qR P A K):qR P A (lG A K):=by
 intro f args h r h' hb G w X i gl hx
 unfold lG at hb
 cases hp:A.pure f with
 | false =>
  rw [hp] at hb
  cases hsb:A.sub f with
  | false=>rw [hsb] at hb;exact hK f args h r h' hb G w X i gl hx
  | true=>rw [hsb] at hb;exact S4 hK hb i gl hx
 | true =>
  rw [hp] at hb
  simp only [cond_true] at hb
  cases hs:args.all (kN.rI 0) with
  | false=>rw [hs] at hb;cases hb
  | true =>
   rw [hs] at hb
   simp only [cond_true] at hb
   obtain⟨⟨r1,h1⟩,hc,hb⟩:=aa6.1 hb
   simp only [al0] at hs
   have l:Left G h G [] 0:=⟨fun _ _ _ h=>h,rfl,rfl,fun id hid=>absurd hid (by omega),fun id n sz t hid=>absurd hid (by omega),fun id hid=>absurd hid (by omega)⟩
   have hx0:xW G [] args X:=⟨hx.1,fun j u hu=>u_ l (hs u (ae0 hu)) (hx.2 j u hu)⟩
   obtain⟨e1,e2⟩:=hK f args [] _ _ hc G w X i.empty (gl.sub rfl fun id b ho=>by simp [owner] at ho) hx0
   refine⟨e1,Calls.mono e2 fun e w' hpost=>?_⟩
   exact H8 hb i hpost
theorem Kl (hm:P.follows .mixedOrders=true) (hX:tO P A) (hlp:KI lp):∀n,qR P A (Uz P A lp n)
 | 0=>fun f args h r h' hb=>by simp [Uz] at hb
 | n+1=>fun f args h r h' hb=>Uy hm hX (OF (Kl hm hX hlp n)) hlp f args h r h' hb
end
end
end Hk
