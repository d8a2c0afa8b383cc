/-
  The texts Vk.Dfr, Vk.Sub, Vk.Fn, Vk.Lim, Vk.Front, Vk.Simp, Vk.Simp2, Vk.Fns, one behind another. No conditions.
-/
import Derived.Test.YtlddmnojanpdoaaGreatDoorPVk2
import Derived.Recover
import Derived.OpenShut
import Derived.WideKeyArgs
import Derived.Test.YtlddmnojanpdoaaGreatDoorPVk1
set_option linter.unusedVariables false
set_option linter.unusedSimpArgs false
set_option linter.all false
open Array renaming getD_eq_getD_getElem? → ab2, getElem?_toList → ad3, length_toList → ak1
open Bool renaming and_eq_true → ad2
open List renaming all_eq_true → ah1, getD → ad1, getElem?_append_left → af7, getElem?_append_right → ac9, getElem?_eq_some_iff → ab1, getElem?_map → ai1, length_map → al0, replicate → aj3
open Nat renaming le_refl → ac5
open Option renaming bind_eq_some_iff → aa2, bind_some → af4, map_eq_some_iff → ac6
open Option.some renaming injEq → ab0
open Prod.mk renaming injEq → af8
namespace Hk
section
open Go Go.RowKit
section
variable {cx:Cx}{ops:Array Oper}{h:kP}{G:Gh}{w:World}{a:Act}{r:R}
def JD (L:Nat) (a0:Act) (a:Act):Prop:=a.defers=a0.defers∧a.tmps.size=a0.tmps.size∧∀t,L.testBit t=true→a.tmps.getD t undef=a0.tmps.getD t undef
theorem JD.put {L:Nat}{a0:Act}{dst:Option Tmp}{V:Value}(h:JD L a0 a) (hd:∀d,dst=some d→L.testBit d=false):JD L a0 (a.put dst V):=by
 cases dst with
 | none=>exact h
 | some d =>
  refine⟨h.1,by simpa [Act.put] using h.2.1,fun t ht=>?_⟩
  rw [←h.2.2 t ht]
  have hne:d≠t:=by
   rintro rfl
   rw [hd d rfl] at ht; cases ht
  simp [Act.put,ab2,Array.getElem?_setIfInBounds,hne]
theorem AT {L:Nat}{a0:Act}:∀{b:Code},E_ L b=true→JOk (JD L a0) b
 | .region _ ops _,hb=>by
  simp only [E_,ah1] at hb
  intro o ho a V hj
  refine hj.put fun d hd=>?_
  have:=hb o ho
  rw [hd] at this
  simpa using this
 | .seq x y,hb=>by
  simp only [E_,ad2] at hb
  exact⟨AT hb.1,AT hb.2⟩
 | .cond _ x y,hb=>by
  simp only [E_,ad2] at hb
  exact⟨AT hb.1,AT hb.2⟩
 | .block _ c,hb=>AT (b:=c) hb
 | .loop c,hb=>AT (b:=c) hb
 | .skip,_=>trivial
 | .exit _,_=>trivial
 | .ret,_=>trivial
 | .scope _,hb=>by simp [E_] at hb
 | .label _,_=>trivial
 | .goto _,_=>trivial
 | .refuse _,_=>trivial
 | .rangeFunc ..,_=>trivial
theorem vI {D:List Deferred}:∀c:Code,JOk (fun a=>a.defers=D) c
 | .region _ ops _=>fun o _ a V h=>by cases o.dst <;> exact h
 | .seq a b=>⟨vI a,vI b⟩
 | .cond _ a b=>⟨vI a,vI b⟩
 | .block _ c=>vI c
 | .loop c=>vI c
 | .scope c=>vI c
 | .skip | .exit _ | .ret=>trivial
 | .label _ | .goto _ | .refuse _ | .rangeFunc ..=>trivial
theorem Fh {args:List kM}{X:Array Value}{n:Nat}(hx:CP G h args X) (hn:args.length≤n) :
  p_ (fun a=>a.defers=[]) G h (args++aj3 (n - args.length) (.tuple [])) { tmps:=X++Array.replicate (n - X.size) undef,defers:=[] }:=by
 refine⟨by simp [hx.1],fun j v hv=>?_,rfl⟩
 have hs:=hx.1
 simp only [ab2]
 by_cases hj:j < args.length
 ·rw [af7 hj] at hv
  rw [Array.getElem?_append_left (by omega)]
  have:=hx.2 j v hv
  rwa [ab2] at this
 ·rw [ac9 (by omega)] at hv
  rw [Array.getElem?_append_right (by omega)]
  rw [List.getElem?_replicate] at hv
  split at hv
  ·cases hv
   rename_i hlt
   rw [Array.getElem?_replicate,if_pos (by omega)]
   exact .undef
  ·cases hv
theorem J8 {P:Program}{Q:Exit→Act→List Frame→World→Prop}{cs:List Frame}(hno:∀a w,¬Q .outgrown a cs w):∀(l:List Nat) (a:Act) (w:World),
  wpOps P ops (fun e a w=>Q e a cs w) l a w→wpOpsS P ops Q l a cs w
 | [],a,w,h=>h
 | i::rest,a,w,h=>by
  have ih:=J8 (P:=P) (Q:=Q) (cs:=cs) hno rest
  simp only [wpOps,wpOpsS] at h ⊢
  cases ho:ops[i]? with
  | none=>simp only [ho] at h ⊢; exact ih a w h
  | some o =>
   simp only [ho] at h ⊢
   by_cases hw:Region.wanted o (yielded ops a.tmps)=true
   ·simp only [hw,if_true] at h ⊢
    rcases h with h | ⟨_,x,y,hl⟩
    ·have h':o.upon P a (fun a' w'=>wpOpsS P ops Q rest a' cs w') (fun e a' w'=>Q e a' cs w') ((execOp a.eval o).run P w):=Oper.wp_mono (fun a w=>ih a w) h
     split
     ·rename_i w' hr
      rw [hr] at h'
      exact h'.elim
     ·exact h'
    ·exact absurd hl (hno _ _)
   ·simp only [hw,if_false,Bool.false_eq_true] at h ⊢
    exact ih _ _ h
def DF:Option Value→FrameMode
 | none=>.returning
 | some V=>.panicking [{ v:=V,recovered:=true }]
def I3:Option Value→FrameMode
 | none=>.returning
 | some V=>.panicking [{ v:=V,recovered:=false }]
def Yc (G:Gh) (h:kP) (w:World) (h':kP) (PV:Option Value) (e:Ending) (u':FrameMode) (w':World):Prop :=
 (∃v,e=.returned v)∧u'=DF PV∧∃G',Ext G h w G' h' w'∧Inv G' h' w'
theorem Pr {g:Nat}{caps:List kM}{pv:Option kM}{PV:Option Value}{h':kP}{X:Array Value}(hm:cx.P.follows .mixedOrders=true) (hX:yT cx.P cx.A) (hK:vH cx.P cx.A cx.K) (hlp:Tx cx.lp)
  (hb:y8 cx g caps pv h=some h') (i:Inv G h w) (gl:tM cx.A G h w) (hx:CP G h caps X) (hpv:∀v,pv=some v→∃V,PV=some V∧lM G h v V) (hpn:pv=none→PV=none) :
  (∀w,(callFunc g X).run cx.P w=.ok (.enter g X) w) ∧
  CallsD cx.P g X (I3 PV) w (Yc G h w h' PV):=by
 unfold y8 at hb
 cases hf:cx.P.funcs[g]? with
 | none=>rw [hf] at hb; cases hb
 | some fn =>
  simp only [hf] at hb
  split at hb
  ·rename_i id ops c hbody
   split at hb
   ·rename_i o os hops
    cases hc:(FD o && decide (caps.length≤fn.ntmps) && fn.results.isEmpty && !(fn.name == "runtime.NumGoroutine")) with
    | false=>rw [hc] at hb; cases hb
    | true =>
     rw [hc] at hb
     simp only [ad2,decide_eq_true_eq,Bool.not_eq_true'] at hc
     obtain⟨⟨⟨hrec,hcl⟩,hres⟩,hnm⟩:=hc
     have hne:¬fn.name = "runtime.NumGoroutine" := by simpa using hnm
     refine⟨fun w=>by simp [callFunc,Sem.run_bind,hf,hbody,hne,Sem.run_pure],?_⟩
     simp only [cond_true] at hb
     obtain⟨r0,hr0,hend⟩:=aa2.1 hb
     refine callsD_of_wpS hf hbody fun c₀ cs hu=>?_
     have h0:ops[0]?=some o:=by rw [←ad3,hops]; rfl
     unfold FD at hrec
     simp only [ad2,Option.isNone_iff_eq_none] at hrec
     obtain⟨hgu,hrec⟩:=hrec
     obtain⟨cl,hop,hcal⟩:∃cl,o.op=.call cl∧cl.callee=.builtin .recover:=by
      split at hrec
      ·rename_i cl ho
       split at hrec
       ·rename_i hcal; exact⟨cl,ho,hcal⟩
       ·cases hrec
      ·cases hrec
     have hrun:∀(a:Act) (w:World),(execOp a.eval o).run cx.P w=.ok .recover w:=by
      intro a w
      simp [execOp,hop,resolve,hcal,invoke,builtin,Sem.run_bind,Sem.run_pure]
     have hsz:List.range ops.size=0::((sF ops.toList).tail).map (·.i):=by
      rw [List.map_tail,u7.1]
      have:ops.size=os.length+1:=by rw [←ak1,hops]; rfl
      rw [this,List.range_succ_eq_map]; rfl
     let cs':List Frame:={ c₀ with mode:=DF PV }::cs
     have hrv:lM G h (pv.getD .niliface) (PV.getD .nilIface):=by
      cases hp:pv with
      | none =>
       rw [hpn hp]
       exact .p _ _ .niliface
      | some v =>
       obtain⟨V,hV,hr⟩:=hpv v hp
       rw [hV]
       exact hr
     obtain⟨RR,hRR⟩:∃RR,RR=Yc G h w h' PV:=⟨_,rfl⟩
     rw [←hRR]
     have slots:p_ (fun a=>a.defers=[]) G h (sH (caps++aj3 (fn.ntmps - caps.length) (.tuple [])) o.dst (pv.getD .niliface)) (Act.put { tmps:=X++Array.replicate (fn.ntmps - X.size) undef,defers:=[] } o.dst (PV.getD .nilIface)) :=
      (Fh hx hcl).put o.dst hrv (by cases o.dst <;> rfl)
     have fin:∀(e:Ex) (ρ2:List kM) (h2:kP) (G2:Gh) (w2:World) (a2:Act),(e=.normal∨e=.ret)→(e,pack 0 ρ2,h2)=r0→Ext G h w G2 h2 w2→Inv G2 h2 w2→p_ (fun a=>a.defers=[]) G2 h2 ρ2 a2 →
       a2.defers=[]∧∃u',cs'={ c₀ with mode:=u' }::cs∧∃v,(results fn a2.tmps).run cx.P w2=.ok v w2∧RR (.returned v) u' w2:=by
      intro e ρ2 h2 G2 w2 a2 he hr x2 i2 s2
      subst hr
      have ht:l9 h.length h2=some h':=by rcases he with rfl | rfl <;> exact hend
      obtain⟨G3,i3,x3,_,_,_⟩:=Bn x2 i2 ht
      have hrs:fn.results.toList.mapM (BK cx.P ρ2 h2)=some []:=by
       have:fn.results=#[]:=by simpa using hres
       rw [this]; rfl
      obtain⟨V,hV,_⟩:=Dp hrs i2 s2
      rw [hRR]
      exact⟨s2.df,_,rfl,V,hV,⟨V,rfl⟩,rfl,G3,x3,i3⟩
     have hlen:(sH (caps++aj3 (fn.ntmps - caps.length) (.tuple [])) o.dst (pv.getD .niliface)).length=fn.ntmps:=by rw [Ff]; simp; omega
     rw [A6 fn.ntmps _ _ _ _ hlen] at hr0
     have tailP:=Kx (cx:={ cx with n:=fn.ntmps,full:=2 ^ fn.ntmps - 1,pan:=false }) (J:=fun a=>a.defers=[]) (Q:=fun e a w=>Exit.thenS (c.wpS cx.P (bodyPostS cx.P fn c₀ cs RR))
       (bodyPostS cx.P fn c₀ cs RR) e a cs' w) (ops:=ops) (fun o _ a V h=>by cases o.dst <;> exact h) hX hK (sF ops.toList).tail [] _ h G w _
      (fun it hit=>u7.2 it (List.mem_of_mem_tail hit)) hr0 i gl slots
      (fun ρ1 h1 G1 w1 a1 e1 x1 i1 s1=>by
       split at e1
       case isFalse=>cases e1
       rename_i hl1
       refine wpS_of_wp (Ak (cx:={ cx with n:=fn.ntmps,full:=2 ^ fn.ntmps - 1,pan:=false }) (J:=fun a=>a.defers=[]) hm hX hK hlp c 0 ρ1 h1 _ _ r0 G1 w1 a1 _ (vI c) e1 i1 (gl.mono x1) s1 hl1 ?_)
       ·refine⟨fun ρ2 h2 G2 w2 a2 e2 x2 i2 s2 _=>?_,fun e ρ2 h2 G2 w2 a2 e2 x2 i2 s2 _=>?_,fun v ρ2 h2 G2 w2 a2 V e2 x2 i2 _ _=>?_⟩
        ·exact fin _ ρ2 h2 G2 w2 a2 (.inl rfl) (Option.some.inj e2) (x1.trans x2) i2 s2
        ·cases e with
         | ret=>exact fin _ ρ2 h2 G2 w2 a2 (.inr rfl) (Option.some.inj e2) (x1.trans x2) i2 s2
         | exit id=>cases e2; cases hend
         | _=>trivial
        ·cases e2; cases hend)
      (fun v h1 G1 w1 V a1 e1=>by cases e1)
     have tail:wpOps cx.P ops (fun e a w=>Exit.thenS (c.wpS cx.P (bodyPostS cx.P fn c₀ cs RR))
       (bodyPostS cx.P fn c₀ cs RR) e a cs' w) (((sF ops.toList).tail).map (·.i))
       (Act.put { tmps:=X++Array.replicate (fn.ntmps - X.size) undef,defers:=[] } o.dst (PV.getD .nilIface)) w:=by
      exact tailP
     refine wpS_seq (wpS_region ?_)
     rw [hsz]
     simp only [wpOpsS,h0]
     rw [if_pos (by simp [Region.wanted,hgu])]
     simp only [hrun]
     cases PV with
     | none =>
      have hu':c₀.mode=.returning:=hu
      have hrd:recoverD (c₀::cs)=none:=by simp [recoverD,hu']
      have hcs:(c₀::cs:List Frame)=cs':=by
       have:({ c₀ with mode:=.returning }:Frame)=c₀:=by rw [←hu']
       simp only [cs',DF,this]
      rw [hrd]
      simp only []
      rw [hcs]
      exact J8 (fun a w hq=>by obtain⟨_,hq⟩:=hq; rw [hRR] at hq; obtain⟨⟨_,h1⟩,_⟩:=hq; cases h1) _ _ _ tail
     | some V =>
      have hu':c₀.mode=.panicking [{ v:=V,recovered:=false }]:=hu
      have hrd:recoverD (c₀::cs)=some (V,cs'):=by simp [recoverD,hu',cs',DF]
      rw [hrd]
      exact J8 (fun a w hq=>by obtain⟨_,hq⟩:=hq; rw [hRR] at hq; obtain⟨⟨_,h1⟩,_⟩:=hq; cases h1) _ _ _ tail
   ·cases hb
  ·cases hb
theorem Cz {L:Nat}{x:List kM}:∀(n i j k:Nat) (v:kM),(unpackFrom L x n i j)[k]?=some v→v=.junk∨L.testBit (i+k)=true
 | 0,i,j,k,v,h=>by simp [unpackFrom] at h
 | n+1,i,j,k,v,h=>by
  unfold unpackFrom at h
  cases hb:L.testBit i with
  | true =>
   rw [hb] at h
   cases k with
   | zero=>exact .inr hb
   | succ k =>
    have:=Cz n (i+1) (j+1) k v (by simpa using h)
    rwa [show i+(k+1)=i+1+k by omega]
  | false =>
   rw [hb] at h
   cases k with
   | zero=>simp at h; exact .inl h.symm
   | succ k =>
    have:=Cz n (i+1) j k v (by simpa using h)
    rwa [show i+(k+1)=i+1+k by omega]
theorem p_.any {J J':Act→Prop}{ρ:List kM}(s:p_ J G h ρ a) (hj:J' a):p_ J' G h ρ a:=⟨s.len,s.rel,hj⟩
theorem MT {fn:Func}{RE:Ending→World→Prop}{b:Code}{L:Nat}{fv:kM}{V:Value}{ρ:List kM}(hm:cx.P.follows .mixedOrders=true) (hX:yT cx.P cx.A) (hK:vH cx.P cx.A cx.K) (hlp:Tx cx.lp)
  (hb:Ck cx b L fv ρ h=some r) (i:Inv G h w) (gl:tM cx.A G h w) (s:p_ (fun a=>a.defers=[]) G h ρ a) (hn:ρ.length=cx.n) (hfv:lM G h fv V)
  (hfin:∀(a':Act) G' w',r.1=.ret→Ext G h w G' r.2.2 w'→Inv G' r.2.2 w'→p_ (fun _=>True) G' r.2.2 (unpack cx.n L r.2.1) a'→∃v,(results fn a'.tmps).run cx.P w'=.ok v w'∧RE (.returned v) w') :
  ∃d,(∀w,(Deferred.ofValue V #[]).run cx.P w=.ok d w)∧b.wp cx.P (bodyPostD cx.P fn RE) { a with defers:=d::a.defers } w:=by
 unfold Ck at hb
 cases hok:E_ L b with
 | false=>rw [hok] at hb; cases hb
 | true =>
  rw [hok] at hb
  simp only [cond_true] at hb
  obtain⟨⟨g,fi,ca⟩,hg,hb⟩:=aa2.1 hb
  unfold BG at hg
  split at hg <;> simp only [ab0,af8,reduceCtorEq] at hg
  rename_i g' fi' ca'
  obtain⟨rfl,rfl,rfl⟩:=hg
  obtain⟨F,C,rfl,hlf,hlc,hrf,hrc⟩:=hfv.Hz
  refine⟨{ target:=.fn (.func g') C,args:=F++#[] },fun w=>by simp [Deferred.ofValue,Sem.run_pure],?_⟩
  simp only [] at hb
  obtain⟨r0,hr0,hend⟩:=aa2.1 hb
  have hxs:∀{G':Gh}{h':kP}{w':World},Ext G h w G' h' w'→CP G' h' (fi'++ca') (F++#[]++C):=by
   intro G' h' w' x
   refine⟨by simp [hlf,hlc],fun j u hu=>?_⟩
   rw [ab2]
   by_cases h1:j < fi'.length
   ·rw [af7 h1] at hu
    have:=(hrf j u hu).mono x.toMono
    rw [ab2] at this
    simpa [Array.getElem?_append,←hlf,h1] using this
   ·rw [ac9 (by omega)] at hu
    have:=(hrc _ u hu).mono x.toMono
    rw [ab2] at this
    simpa [Array.getElem?_append,←hlf,h1] using this
  have hdf:a.defers=[]:=s.df
  have leave:∀(pv:Option kM) (PV:Option Value) (G2:Gh) (h2:kP) (w2:World) (a2:Act) (h3:kP) (pk:List kM),Ext G h w G2 h2 w2→Inv G2 h2 w2→(∀v,pv=some v→∃V,PV=some V∧lM G2 h2 v V)→(pv=none→PV=none) →
    JD L { a with defers:={ target:=.fn (.func g') C,args:=F++#[] }::a.defers } a2→y8 cx g' (fi'++ca') pv h2=some h3→r=(.ret,pk,h3)→p_ (fun _=>True) G2 h2 (unpack cx.n L pk) a2 →
    Leaves cx.P fn a2.tmps RE a2.defers (I3 PV) w2:=by
   intro pv PV G2 h2 w2 a2 h3 pk x2 i2 hv1 hv2 hj hrec hr s2
   have hd2:a2.defers=[{ target:=.fn (.func g') C,args:=F++#[] }]:=by rw [hj.1,hdf]
   obtain⟨hin,hcd⟩:=Pr hm hX hK hlp hrec i2 (gl.mono x2) (hxs x2) hv1 hv2
   rw [hd2]
   refine leaves_cons (by cases PV <;> simp [I3]) (f:=g') (args:=F++#[]++C) (by simpa [invoke] using hin w2) ?_
   refine hcd.mono fun e u' w' hpost=>?_
   obtain⟨⟨v,rfl⟩,rfl,G',x3,i3⟩:=hpost
   have hset:settle (DF PV)=.returning:=by cases PV <;> simp [settle,DF]
   simp only [hset]
   subst hr
   exact hfin a2 G' w' rfl (x2.trans x3) i3 (s2.mono x3.toMono)
  refine Ak (cx:={ cx with pan:=true }) (J:=JD L { a with defers:={ target:=.fn (.func g') C,args:=F++#[] }::a.defers }) hm hX hK hlp b L ρ h _ _ r0 G w _ _ (AT hok) hr0 i gl (s.any (J':=JD L _) ⟨rfl,rfl,fun _ _=>rfl⟩ |> fun s=>⟨s.len,s.rel,⟨rfl,rfl,fun _ _=>rfl⟩⟩) hn
   ⟨fun ρ2 h2 G2 w2 a2 e2 x2 i2 s2 hn2=>?_,fun e ρ2 h2 G2 w2 a2 e2 x2 i2 s2 hn2=>?_,fun v ρ2 h2 G2 w2 a2 V e2 x2 i2 rv hj=>?_⟩
  ·cases e2
   obtain⟨h3,hrec,hr⟩:=ac6.1 hend
   exact leave none none G2 h2 w2 a2 h3 _ x2 i2 (by simp) (by simp) s2.df hrec hr.symm ((s2.pack hn2).any trivial)
  ·cases e2
   cases e with
   | ret =>
    obtain⟨h3,hrec,hr⟩:=ac6.1 hend
    exact leave none none G2 h2 w2 a2 h3 _ x2 i2 (by simp) (by simp) s2.df hrec hr.symm ((s2.pack hn2).any trivial)
   | exit id=>cases hend
   | _=>trivial
  ·cases e2
   obtain⟨h3,hrec,hr⟩:=ac6.1 hend
   refine leave (some v) (some V) G2 h2 w2 a2 h3 _ x2 i2 (fun u hu=>by cases hu; exact⟨V,rfl,rv⟩) (by simp) hj hrec hr.symm ⟨?_,fun j u hu=>?_,trivial⟩
   ·rw [rJ,←hn,s.len]
    exact hj.2.1.symm
   ·rcases Cz _ _ _ _ _ hu with rfl | hbit
    ·exact .p _ _ (.junk _)
    ·rcases OM (f:=id) hn j u (by simpa using hu) with rfl | ⟨u',hu',he⟩
     ·exact .p _ _ (.junk _)
     ·rw [Nat.zero_add] at hbit
      rw [hj.2.2 j hbit]
      have he:u=u':=he
      subst he
      exact(s.rel j u hu').mono x2.toMono
theorem Nl {os:List Oper}{f:Operand}(hl:DE os=some f):∃o c,os.getLast?=some o∧o.guard=none∧o.op=.defer c∧c.callee=.value f∧c.args=#[]∧o.dst=none:=by
 unfold DE at hl
 obtain⟨o,h1,h2⟩:=aa2.1 hl
 unfold YB at h2
 split at h2
 ·rename_i c hg ho
  split at h2
  ·rename_i f' hc
   cases he:c.args.isEmpty && o.dst.isNone with
   | false=>rw [he] at h2; cases h2
   | true =>
    rw [he] at h2
    simp only [ad2,Array.isEmpty_iff,Option.isNone_iff_eq_none] at he
    cases h2
    exact⟨o,c,h1,hg,ho,hc,he.1,he.2⟩
  ·cases h2
 ·cases h2
theorem Pq {fn:Func}{RE:Ending→World→Prop}(hm:cx.P.follows .mixedOrders=true) (hX:yT cx.P cx.A) (hK:vH cx.P cx.A cx.K) (hlp:Tx cx.lp) (hpan:cx.pan=false):∀(c:Code) (L:Nat) (ρ:List kM) (h:kP) (r:R) (G:Gh) (w:World) (a:Act),
  uY cx c L ρ h=some r→Inv G h w→tM cx.A G h w→p_ (fun a=>a.defers=[]) G h ρ a→ρ.length=cx.n →
  (∀(a':Act) G' w',r.1=.ret→Ext G h w G' r.2.2 w'→Inv G' r.2.2 w'→p_ (fun _=>True) G' r.2.2 (unpack cx.n L r.2.1) a'→∃v,(results fn a'.tmps).run cx.P w'=.ok v w'∧RE (.returned v) w') →
  c.wp cx.P (bodyPostD cx.P fn RE) a w:=by
 intro c
 induction c with
 | seq x y ihx ihy =>
  intro L ρ h r G w a hb i gl s hn hfin
  have piece:evalCode cx x (L ||| ue cx.full y) ρ h (fun ρ' h'=>uY cx y L ρ' h') (QH L)=some r→(Code.seq x y).wp cx.P (bodyPostD cx.P fn RE) a w:=by
   intro hb
   refine wp_seq (Ak (J:=fun a=>a.defers=[]) hm hX hK hlp x _ ρ h _ _ r G w a _ (vI x) hb i gl s hn ⟨fun ρ2 h2 G2 w2 a2 e2 x2 i2 s2 hn2=>?_,fun e ρ2 h2 G2 w2 a2 e2 x2 i2 s2 hn2=>?_,fun v ρ2 h2 G2 w2 a2 V e2 x2 i2 rv hj=>?_⟩)
   ·exact ihy L ρ2 h2 r G2 w2 a2 e2 i2 (gl.mono x2) s2 hn2 fun a' G' w' hr x3 i3 s3=>hfin a' G' w' hr (x2.trans x3) i3 s3
   ·cases e with
    | ret =>
     cases e2
     show Leaves cx.P fn a2.tmps RE a2.defers .returning w2
     have hd2:a2.defers=[]:=s2.df
     rw [hd2]
     exact hfin a2 G2 w2 rfl x2 i2 ((s2.pack hn2).any trivial)
    | exit id=>cases e2
    | _=>trivial
   ·cases e2
  cases x with
  | region id ops draw =>
   cases draw with
   | true=>simp only [uY] at hb; exact piece hb
   | false =>
    simp only [uY] at hb
    cases hl:DE ops.toList with
    | none=>simp only [hl] at hb; exact piece hb
    | some f =>
     simp only [hl] at hb
     obtain⟨o,cl,h1,hgu,hop,hcal,hargs,hdst⟩:=Nl hl
     rw [A6 cx.n _ _ _ _ hn] at hb
     have hsz:List.range ops.size=((sF ops.toList).dropLast).map (·.i)++[ops.size - 1]:=by
      have hne:ops.toList≠[]:=by intro h0; rw [h0] at h1; cases h1
      have hlen:(sF ops.toList).length=ops.size:=by simp [sF]
      have hm1:((sF ops.toList).dropLast).map (·.i)=(List.range ops.size).dropLast:=by rw [List.map_dropLast,u7.1]
      rw [hm1]
      have hpos:0 < ops.size:=by rw [←ak1]; exact List.length_pos_iff.2 hne
      obtain⟨m,hmm⟩:∃m,ops.size=m+1:=⟨ops.size - 1,by omega⟩
      rw [hmm,List.range_succ,List.dropLast_concat]
      rfl
     have hlast:ops[ops.size - 1]?=some o:=by
      rw [←ad3]
      rw [List.getLast?_eq_getElem?] at h1
      simpa using h1
     refine wp_seq (wp_region ?_)
     rw [hsz]
     refine HJ (J:=fun a=>a.defers=[]) [ops.size - 1] (fun o _ a V h=>by cases o.dst <;> exact h) hX hK _ [] ρ h G w a (fun it hit=>u7.2 it ((List.dropLast_sublist _).subset hit)) hb i gl s (fun ρ2 h2 G2 w2 a2 e2 x2 i2 s2=>?_) (fun v h2 G2 w2 V a2 e2=>by cases e2)
     split at e2
     case isFalse=>cases e2
     rename_i hn2
     obtain⟨d,hd,hwp⟩:=MT (fn:=fn) (RE:=RE) hm hX hK hlp e2 i2 (gl.mono x2) s2 hn2 (s2.eval (gl.mono x2).cells f) fun a' G' w' hr x3 i3 s3=>hfin a' G' w' hr (x2.trans x3) i3 s3
     have hrun:(execOp a2.eval o).run cx.P w2=.ok (.defer d) w2:=by
      simp [execOp,hop,resolve,hcal,hargs,Sem.run_bind,Sem.run_pure,hd w2]
     simp only [wpOps,hlast]
     rw [if_pos (by simp [Region.wanted,hgu])]
     left
     unfold Oper.wp
     rw [hrun,Oper.upon_defer,hdst]
     exact hwp
  | _=>simp only [uY] at hb; exact piece hb
 | _=>intro L ρ h r G w a hb; simp [uY] at hb
end
end
section

end
section
open Go Go.RowKit
section
variable {P:Program}{A:CF}{K:lB}{lp:LpT}{G:Gh}{h:kP}{w:World}
theorem Hw {f:Nat}{v:kM}{V:Value}{r:vG}{h' h2:kP}{G':Gh}{w':World}(hb:finish A f h.length v h'=some (r,h2)) (x:Ext G h w G' h' w') (i:Inv G' h' w') (hv:lM G' h' v V) :
  wY G h w r h2 (.returned V) w':=by
 unfold finish at hb
 cases he:A.esc f with
 | true =>
  rw [he] at hb; cases hb
  exact⟨G',x,i,V,rfl,hv⟩
 | false =>
  rw [he] at hb
  simp only [cond_false] at hb
  cases hg:A.grow f with
  | true =>
   rw [hg] at hb
   simp only [cond_true,RJ,ac6] at hb
   obtain⟨h3,ht,hb⟩:=hb
   obtain⟨G3,i3,x3,_,hrel,_⟩:=Bn x i ht
   cases hb
   exact⟨G3,x3,i3,V,rfl,hrel _ _ hv⟩
  | false =>
   rw [hg] at hb
   cases hz:A.frr f with
   | true =>
    rw [hz] at hb
    simp only [cond_true,cond_false,aEY] at hb
    obtain⟨y,hy,hb⟩:=aa2.1 hb
    obtain⟨G1,i1,x1,r1⟩:=Dg i hy hv
    simp only [lY,ac6] at hb
    obtain⟨h3,ht,hb⟩:=hb
    obtain⟨G3,i3,x3,_,hrel,_⟩:=Bn (x.trans x1) i1 ht
    cases hb
    exact⟨G3,x3,i3,V,rfl,DU (hrel _ _ r1)⟩
   | false =>
   rw [hz] at hb
   simp only [cond_false,lY,ac6] at hb
   obtain⟨h3,ht,hb⟩:=hb
   obtain⟨G3,i3,x3,_,hrel,_⟩:=Bn x i ht
   cases hb
   exact⟨G3,x3,i3,V,rfl,DU (hrel _ _ hv)⟩
theorem A3 {ρ:List kM}{x:vG×kP}:∀{l:List ResultVar}{k:List kM→Option (vG×kP)},Be P ρ h l k=some x→∃vs,l.mapM (BK P ρ h)=some vs∧k vs=some x
 | [],k,hb=>⟨[],rfl,hb⟩
 | .tmp t::l,k,hb=>by
  obtain⟨vs,h1,h2⟩:=A3 (l:=l) hb
  exact⟨ρ.getD t .junk::vs,by simp [List.mapM_cons,BK,h1],h2⟩
 | .cell a t::l,k,hb=>by
  simp only [Be] at hb
  split at hb
  ·rename_i g n hg hn
   obtain⟨v,hv,hb⟩:=aa2.1 hb
   obtain⟨vs,h1,h2⟩:=A3 (l:=l) hb
   exact⟨v::vs,by simp only [List.getD_eq_getElem?_getD] at hv; simp [List.mapM_cons,BK,hg,hn,hv,h1],h2⟩
  ·cases hb
theorem RF {f:Nat}{fn:Func}{c:Code}{args:List kM}{X:Array Value}{r:vG}{h':kP}(hm:P.follows .mixedOrders=true) (hX:yT P A) (hK:vH P A K) (hlp:Tx lp)
  (hf:P.funcs[f]?=some fn) (hc:fn.body=some c) (hb:RD P A K lp f fn c args h=some (r,h')) (i:Inv G h w) (gl:tM A G h w) (hx:CP G h args X) (hn:args.length≤fn.ntmps) :
  Calls P f X w (wY G h w r h'):=by
 unfold RD at hb
 obtain⟨r0,hr0,hend⟩:=aa2.1 hb
 cases hd:A.dfr f with
 | true =>
  rw [hd] at hr0
  simp only [ES] at hr0
  refine calls_of_wp_defers hf hc ?_
  refine Pq (cx:={ P,A,K,lp,n:=fn.ntmps,full:=2 ^ fn.ntmps - 1,pan:=false,vec:=A.auL f,frz:=A.frz f,vlit:=A.ZV f,vmk:=A.vmk f,jt:=A.jt f,lkp:=A.lkp f,rb:=A.rb f,frl:=A.frl f,tb:=A.tb f,ck:=A.ck f }) hm hX hK hlp rfl c _ _ h r0 G w _ hr0 i gl (Fh hx hn) (by simp; omega) ?_
  intro a' G' w' he x2 i2 s2
  have hend':Be P (unpack fn.ntmps (C9 fn) r0.2.1) r0.2.2 fn.results.toList (fun vs=>finish A f h.length (oneOf vs) r0.2.2)=some (r,h'):=by
   unfold P9 at hend
   rw [he] at hend
   cases hp:A.pan f <;> rw [hp] at hend <;> exact hend
  obtain⟨vs,hvs,hend'⟩:=A3 hend'
  obtain⟨V,hV,hrel⟩:=Dp hvs i2 s2
  exact⟨V,hV,Hw hend' x2 i2 hrel⟩
 | false =>
 rw [hd] at hr0
 simp only [ES] at hr0
 refine calls_of_wp hf hc ?_
 refine Ak (cx:={ P,A,K,lp,n:=fn.ntmps,full:=2 ^ fn.ntmps - 1,pan:=A.pan f,vec:=A.auL f,frz:=A.frz f,vlit:=A.ZV f,vmk:=A.vmk f,jt:=A.jt f,lkp:=A.lkp f,rb:=A.rb f,frl:=A.frl f,tb:=A.tb f,ck:=A.ck f }) hm hX hK hlp c _ _ h _ _ r0 G w _ _ (vI c) hr0 i gl (Fh hx hn) (by simp; omega) ?_
 have ret:∀(e:Ex) (ρ':List kM) (h1:kP) (G':Gh) (w':World) (a':Act),(e=.normal∨e=.ret)→P9 P A f fn h.length e (unpack fn.ntmps (C9 fn) (pack (C9 fn) ρ')) h1=some (r,h')→Ext G h w G' h1 w'→Inv G' h1 w'→p_ (fun a=>a.defers=[]) G' h1 ρ' a'→ρ'.length=fn.ntmps →
   a'.defers=[]∧∃v,(results fn a'.tmps).run P w'=.ok v w'∧wY G h w r h' (.returned v) w':=by
  intro e ρ' h1 G' w' a' he hend h3 h4 s hn'
  have s':=s.pack (L:=C9 fn) hn'
  have hend':Be P (unpack fn.ntmps (C9 fn) (pack (C9 fn) ρ')) h1 fn.results.toList (fun vs=>finish A f h.length (oneOf vs) h1)=some (r,h'):=by
   unfold P9 at hend
   cases hp:A.pan f <;> rw [hp] at hend <;> rcases he with rfl | rfl <;> exact hend
  obtain⟨vs,hvs,hend'⟩:=A3 hend'
  obtain⟨V,hV,hrel⟩:=Dp hvs h4 s'
  exact⟨s.df,V,hV,Hw hend' h3 h4 hrel⟩
 refine⟨fun ρ' h1 G' w' a' h2 h3 h4 h5 h6=>?_,fun e ρ' h1 G' w' a' h2 h3 h4 h5 h6=>?_,fun v ρ' h1 G' w' a' V h2 h3 h4 h5 h6=>?_⟩
 ·cases h2
  exact ret _ ρ' h1 G' w' a' (.inl rfl) hend h3 h4 h5 h6
 ·cases h2
  cases e with
  | ret=>exact ret _ ρ' h1 G' w' a' (.inr rfl) hend h3 h4 h5 h6
  | exit id=>unfold P9 at hend; cases hp:A.pan f <;> rw [hp] at hend <;> cases hend
  | _=>trivial
 ·cases h2
  unfold P9 at hend
  cases hp:A.pan f with
  | false=>rw [hp] at hend; cases hend
  | true =>
   rw [hp] at hend
   simp only [cond_true,Ex.uZ] at hend
   cases hkp:A.kp f with
   | true =>
    rw [hkp] at hend
    simp only [cond_true] at hend
    cases hend
    exact⟨h6,G',h3,h4,V,rfl,h5⟩
   | false =>
   rw [hkp] at hend
   simp only [cond_false,rE,ac6] at hend
   obtain⟨h3',ht,hend⟩:=hend
   obtain⟨G3,i3,x3,_,hrel,_⟩:=Bn h3 h4 ht
   cases hend
   exact⟨h6,G3,x3,i3,V,rfl,DU (hrel _ _ h5)⟩
theorem abH (i:Inv G h w) {id:Nat}{cs:List kM}(hg:azT h id=some cs):∃C e,w.heap[G.oP id]?=some (.cells C e (0,0))∧C.size=cs.length ∧
  ∀(j:Nat) (v:kM),cs[j]?=some v→v.mD=true∧lM G h v (C.getD j undef):=by
 unfold azT at hg
 split at hg
 ·rename_i cs' hid
  cases hg
  obtain⟨C,e,h1,h2,h3,h4⟩:=i.oP id _ hid
  exact⟨C,e,h1,h2,h4⟩
 ·rename_i t cs' hid
  cases hg
  obtain⟨C,h1,h2,h3,h4⟩:=i.oP id _ hid
  exact⟨C,t,h1,h2,h4⟩
 ·cases hg
theorem Gn:∀{rows:List (List kM)}{bs:List UInt8},Ax rows=some bs→rows=bs.map fun b=>[kM.int .u8 (b.toNat:Int)]
 | [],bs,hb=>by simp [Ax] at hb; subst hb; rfl
 | row::r,bs,hb=>by
  unfold Ax at hb
  split at hb
  ·rename_i he; cases he
  ·rename_i n r' he
   simp only [List.cons.injEq] at he
   obtain⟨rfl,rfl⟩:=he
   split at hb
   case isFalse=>cases hb
   rename_i hn
   cases hr:Ax r with
   | none=>rw [hr] at hb; cases hb
   | some bs' =>
    rw [hr] at hb
    cases hb
    rw [Gn hr,List.map_cons]
    have:((UInt8.ofNat n.toNat).toNat:Int)=n:=by
     rw [UInt8.toNat_ofNat_of_lt' (by show n.toNat < 256; omega)]; omega
    rw [this]
  ·cases hb
theorem Ua (w:World) (g n:Nat) (a:Addr):(w.freeze ⟨g,0,none⟩ n).cell? a=w.cell? a:=by
 unfold World.freeze
 split
 ·rfl
 ·unfold World.cell?
  simp only [Array.getElem?_modify]
  by_cases e:g=a.block
  ·rw [if_pos e]
   cases w.heap[a.block]? with
   | none=>rfl
   | some o=>cases o <;> rfl
  ·rw [if_neg e]
theorem Wm {f e:Nat}{s:kM}{V:Value}{r:vG}{h':kP}{b off:Nat}
  (p2:∀(w:World) (b off:Nat),w.cell? ⟨b,off+1,none⟩=some (.slice none 0 0)→Calls P f #[.pointer (some ⟨b,off,none⟩)] w fun ev w'=>ev=.returned (.string ⟨#[]⟩)∧∃d,w'={ w with drawn:=d })
  (p3:∀(w:World) (b off g cap:Nat) (C:Array Value) (l:List UInt8),w.cell? ⟨b,off+1,none⟩=some (.slice (some ⟨g,0,none⟩) l.length cap)→w.heap[g]?=some (.cells C e (0,0))→l≠[]→l.length≤cap→cap≤maxLen→C.size=cap →
   (∀(j:Nat) x,l[j]?=some x→C[j]?=some (.int .u8 (x.toNat:Int)))→Calls P f #[.pointer (some ⟨b,off,none⟩)] w fun ev w'=>ev=.returned (.string ⟨l.toArray⟩)∧∃d,w'=World.freeze { w with drawn:=d } ⟨g,0,none⟩ l.length)
  (i:Inv G h w) (hcell:w.cell? ⟨b,off+1,none⟩=some V) (hrs:lM G h s V) (hb:afU e h s=some (r,h')):Calls P f #[.pointer (some ⟨b,off,none⟩)] w (wY G h w r h'):=by
 have nilc:V=.slice none 0 0→r=.ret (.str [])→h'=h→Calls P f #[.pointer (some ⟨b,off,none⟩)] w (wY G h w r h'):=by
  rintro rfl rfl rfl
  refine Calls.mono (p2 w b off hcell) fun ev w' hp=>?_
  obtain⟨rfl,d,rfl⟩:=hp
  exact⟨G,Ext.drawn G _ _ d,i.drawn d,_,rfl,.p _ _ (.str [])⟩
 unfold afU at hb
 split at hb
 ·simp only [ab0,af8] at hb
  exact nilc hrs.FO hb.1.symm hb.2.symm
 ·rename_i rows fid
  split at hb
  ·rename_i n sz t hid
   cases hl:rows.length == n with
   | false=>rw [hl] at hb; cases hb
   | true =>
    rw [hl] at hb
    simp only [cond_true] at hb
    have hlen:rows.length=n:=by simpa using hl
    obtain⟨hV,hrl,hcur⟩:=FT i hrs hid hlen
    cases n with
    | zero =>
     simp only at hb
     cases hz:sz == 0 with
     | false=>rw [hz] at hb; cases hb
     | true =>
      rw [hz] at hb
      simp only [cond_true,ab0,af8] at hb
      have hz:sz=0:=by simpa using hz
      rcases hcur with ⟨_,hc⟩ | ⟨_,_,_,_,_,_,_,_,_,hs0,_⟩
      ·exact nilc (hV.trans hc) hb.1.symm hb.2.symm
      ·omega
    | succ m =>
     simp only at hb
     cases hz:sz == 1 && t == e+1 with
     | false=>rw [hz] at hb; cases hb
     | true =>
      rw [hz] at hb
      simp only [cond_true] at hb
      simp only [ad2,beq_iff_eq] at hz
      obtain⟨rfl,rfl⟩:=hz
      split at hb
      case h_2=>cases hb
      rename_i bs hbs
      simp only [ab0,af8] at hb
      obtain⟨rfl,rfl⟩:=hb
      have hrows:=Gn hbs
      have hbl:bs.length=m+1:=by rw [←hlen,hrows,al0]
      rcases hcur with ⟨h0,_⟩ | ⟨g,cap,C,e0,hc,hC,hle,hmx,hCs,hs0,hHn,hcells,hte⟩
      ·omega
      ·obtain rfl:e0=e:=Nat.succ.inj (hte (Nat.succ_ne_zero e))
       have hq:=p3 w b off g cap C bs (by rw [hcell,hV,hc,hbl]) hC (by rintro rfl; simp at hbl) (by omega) hmx (by omega) (fun j x hx=>by
        obtain⟨u,e1,e2,_⟩:=hcells j 0 [.int .u8 (x.toNat:Int)] (.int .u8 (x.toNat:Int)) (by rw [hrows,ai1,hx]; rfl) rfl
        rw [List.getElem?_take] at e1
        split at e1
        ·rw [ad3] at e1
         have h2:=(lM.p (G:=G) (h:=h) _ _ e2).q_
         rw [h2] at e1
         simpa using e1
        ·cases e1)
       refine Calls.mono hq fun ev w' hp=>?_
       obtain⟨rfl,d,rfl⟩:=hp
       have hown:nN G fid (.front (m+1) 1 (e0+1))=some g:=by simp [nN,hc,Value.ownBlock]
       have key:=i.step (G':=G) (w':=World.freeze { w with drawn:=d } ⟨g,0,none⟩ bs.length) fid _ .gone hid (by unfold World.freeze; split <;> rfl) (by unfold World.freeze; split <;> rfl) (by unfold World.freeze; split <;> rfl)
        (by unfold World.freeze; split <;> simp) (fun k hk hne=>by
         have:g≠k:=by rintro rfl; exact hne hown
         unfold World.freeze
         split
         ·rfl
         ·simp only [Array.getElem?_modify]
          rw [if_neg this])
        (fun _ _=>rfl) (fun _ _=>rfl) (fun _ _ _ h=>h) (fun _ _ _ _=>rfl) (fun b k v _ hv=>by rw [Ua]; exact i.ok b k v hv)
        rfl (fun _=>trivial) (fun b hb=>by cases hb)
       exact⟨G,key.2,key.1,_,rfl,.p _ _ (.str bs)⟩
  ·cases hb
 ·cases hb
theorem U9 {f:Nat}{k:anE}{args:List kM}{r:vG}{h':kP}{X:Array Value}(hP:auW P A f k) (hb:Ew A.bld k args h=some (r,h')) (i:Inv G h w) (gl:tM A G h w) (hx:CP G h args X) :
  (∀w,(callFunc f X).run P w=.ok (.enter f X) w)∧Calls P f X w (wY G h w r h'):=by
 cases k with
 | fn g =>
  obtain⟨p1,p2⟩:=hP
  refine⟨fun w=>p1 X w,?_⟩
  simp only [Ew] at hb
  obtain⟨v,hv,hb⟩:=ac6.1 hb
  cases hb
  refine Calls.mono (p2 G h w args X v i gl hx.1 hx.2 hv) fun e w' hp=>?_
  obtain⟨⟨V,rfl,hV⟩,q1,q2,q3,os,q4⟩:=hp
  have key:=i.push (G':=G) (ext:=[]) (w':=w') q1 q2 q3 (by rw [q4]; simp) (fun k hk=>by rw [q4]; exact Array.getElem?_append_left hk) (fun _ _=>rfl) (fun _ _=>rfl) (fun _ _ _ h=>h) (fun _ _ _=>rfl)
   (fun b k v hb hv=>by have:=i.CG (b:=b) (k:=k) (v:=v) hv; omega)
   (fun j bl hj=>by simp at hj) (fun j bl b hj=>by simp at hj) (fun j j' bl bl' b hj=>by simp at hj)
  rw [List.append_nil] at key
  exact⟨G,key.2,key.1,V,rfl,.p _ _ hV⟩
 | bldString e =>
  obtain⟨p1,p2,p3⟩:=hP
  refine⟨fun w=>p1 X w,?_⟩
  simp only [Ew] at hb
  split at hb
  case h_2=>cases hb
  rename_i id off
  split at hb
  case h_2=>cases hb
  rename_i cs hg
  split at hb
  case h_2=>cases hb
  rename_i s hs
  obtain⟨C,e0,g1,g2,g4⟩:=abH i hg
  obtain⟨hX0,hlv⟩:=(hx.2 0 _ rfl).xV
  have hXe:X=#[.pointer (some ⟨G.oP id,off,none⟩)]:=by
   obtain⟨l⟩:=X
   match l,hx.1,hX0 with
   | [a],_,h0=>simp at h0; subst h0; rfl
  have hlt:off+1 < C.size:=by have:=(ab1.1 hs).1; omega
  have hrs:=(g4 _ s hs).2
  have hcell:w.cell? ⟨G.oP id,off+1,none⟩=some (C.getD (off+1) undef):=by
   rw [cell_of w _ _ g1,ab2,Array.getElem?_eq_getElem hlt]; rfl
  rw [hXe]
  exact Wm p2 p3 i hcell hrs hb
 | copyCheck =>
  obtain⟨p1,p2⟩:=hP
  refine⟨fun w=>p1 X w,?_⟩
  simp only [Ew] at hb
  split at hb
  case h_2=>cases hb
  rename_i id off
  split at hb
  case h_2=>cases hb
  rename_i x hg
  have hid:=I9 hg
  cases hbl:A.bld x.1 off x.2.length with
  | false=>rw [hbl] at hb; cases hb
  | true =>
   rw [hbl] at hb
   simp only [cond_true] at hb
   obtain⟨C,g1,g2,g3,g4⟩:=i.oP id _ hid
   obtain⟨hX0,hlv⟩:=(hx.2 0 _ rfl).xV
   have hXe:X=#[.pointer (some ⟨G.oP id,off,none⟩)]:=by
    obtain⟨l⟩:=X
    match l,hx.1,hX0 with
    | [a],_,h0=>simp at h0; subst h0; rfl
   have main:∀c,x.2[off]?=some c→(∀V,lM G h c V→V=.pointer none∨V=.pointer (some ⟨G.oP id,off,none⟩))→r=.ret (.tuple [])→h'=h.set id (.tcells x.1 (putCells x.2 off [.ptr id off]))→Calls P f X w (wY G h w r h'):=by
    intro c hc hcv hr hh
    subst hr hh
    have hlt:off < x.2.length:=(ab1.1 hc).1
    have hlt':off < C.size:=by omega
    have hCv:=hcv _ (g4 off c hc).2
    rw [ab2,Array.getElem?_eq_getElem hlt',Option.getD_some] at hCv
    rw [hXe]
    refine Calls.mono (p2 w (G.oP id) off x.1 C (by rw [g2]; exact hbl) g1 hlt' (by rw [Array.getElem?_eq_getElem hlt']; rcases hCv with e | e <;> simp [e])) fun e w' hp=>?_
    obtain⟨rfl,rfl⟩:=hp
    have hw:=i.alR (off:=off) (vs:=[.ptr id off]) (U:=[.pointer (some ⟨G.oP id,off,none⟩)]) hid g1 (by simp; omega) rfl (fun j u hu=>by
     cases j with
     | zero=>simp at hu; subst hu; exact⟨rfl,.ptr id off hlv⟩
     | succ j=>simp at hu)
    exact⟨G,hw.2,hw.1,_,rfl,.p _ _ (.tuple [] #[] rfl (by simp))⟩
   split at hb
   ·rename_i hc
    simp only [ab0,af8] at hb
    refine main _ hc (fun V hV=>.inl ?_) hb.1.symm hb.2.symm
    cases hV with | p _ _ hp=>cases hp; rfl
   ·rename_i id' off' hc
    split at hb
    ·rename_i he
     obtain⟨rfl,rfl⟩:=he
     simp only [ab0,af8] at hb
     refine main _ hc (fun V hV=>.inr ?_) hb.1.symm hb.2.symm
     exact hV.xV.1
    ·cases hb
   ·cases hb
theorem abD (hm:P.follows .mixedOrders=true) (hX:yT P A) (hK:vH P A (lT A K)) (hlp:Tx lp):vH P A (o6 P A lp K):=by
 intro f args h r h' hb G w X i gl hx
 unfold o6 at hb
 cases hpr:A.prm f with
 | some k =>
  simp only [hpr] at hb
  exact U9 (hX.2 f k hpr) hb i gl hx
 | none =>
 simp only [hpr] at hb
 cases hf:P.funcs[f]? with
 | none=>rw [hf] at hb; cases hb
 | some fn =>
  simp only [hf] at hb
  cases hc:fn.body with
  | none=>rw [hc] at hb; cases hb
  | some c =>
   simp only [hc] at hb
   cases hg:decide (args.length≤fn.ntmps) && !(fn.name == "runtime.NumGoroutine") with
   | false=>rw [hg] at hb; cases hb
   | true =>
    rw [hg] at hb
    simp only [ad2,decide_eq_true_eq,Bool.not_eq_true'] at hg
    refine⟨fun w=>?_,RF hm hX hK hlp hf hc hb i gl hx hg.1⟩
    have hne:¬fn.name = "runtime.NumGoroutine" := by simpa using hg.2
    simp [callFunc,Sem.run_bind,hf,hc,hne,Sem.run_pure]
theorem Inv.empty (i:Inv G h w):Inv G [] w:=⟨i.ok,fun id bl hb=>by simp at hb,fun a b c ha=>by simp [owner] at ha⟩
theorem N6 {out:Bool}{r1 r:vG}{h1 h':kP}{e:Ending}{w':World}(hb:Fe out h (r1,h1)=some (r,h')) (i:Inv G h w) (hpost:wY G [] w r1 h1 e w'):wY G h w r h' e w':=by
 obtain⟨G',x,i',hpost⟩:=hpost
 have fr:∀b,b < w.heap.size→w'.heap[b]?=w.heap[b]?∧∀k,G'.H b k=G.H b k:=fun b hb=>x.frame b hb fun id=>by simp [owner]
 have new:∀{j b:Nat},owner G' h1 j=some b→¬b < w.heap.size:=fun ho hlt=>by
  have:=x.own _ _ ho hlt
  simp [owner] at this
 have hcase:h1=[]∧r=r1∧h'=h:=by
  unfold Fe at hb
  cases h1 with
  | nil=>cases hb; exact⟨rfl,rfl,rfl⟩
  | cons b t=>cases hb
 obtain⟨rfl,rfl,rfl⟩:=hcase
 let G2:Gh:={ G' with oP:=G.oP,cur:=G.cur }
 have mono:EG G h' G2 h':=⟨x.hmono,fun id bl hb=>⟨bl,hb,by cases bl <;> simp [Kind,G2]⟩⟩
 have key:∀{v:kM}{V:Value},lM G' [] v V→lM G2 h' v V:=by
  intro v V r
  have nl:∀id,¬live ([]:kP) id:=fun id ⟨b,hb,_⟩=>by simp at hb
  induction r with
  | p v V hp=>exact .p v V hp
  | agg cs C hl _ ih=>exact .agg cs C hl ih
  | tuple cs C hl _ ih=>exact .tuple cs C hl ih
  | nil=>exact .nil
  | own rows id n sz V hp hf=>simp at hf
  | ownv id V hp hb=>obtain⟨b,hb,_⟩:=hb; simp at hb
  | vslice id tot off len sz b cap hb=>obtain⟨b,hb,_⟩:=hb; simp at hb
  | vptr id tot off b hb=>obtain⟨b,hb,_⟩:=hb; simp at hb
  | ptr id off hl=>exact absurd hl (nl id)
  | mslice id off len sz cap hl=>exact absurd hl (nl id)
  | mslice0 id off sz cap a=>exact .mslice0 id off sz cap a
  | map id hl=>exact absurd hl (nl id)
  | func f first cap F C hlf hlc _ _ ih1 ih2=>exact .func f first cap F C hlf hlc ih1 ih2
  | iface t v V _ ih=>exact .iface t v V ih
 refine⟨G2,⟨x.os,x.tape,x.output,x.size,fun b hb _=>fr b hb,x.hmono,fun id b ho _=>ho,mono.kinds⟩,⟨i'.ok,fun id bl hb=>?_,fun a b c ha hb=>i.inj a b c ha hb⟩,?_⟩
 ·refine(i.oP id bl hb).abT mono rfl rfl fun b ho=>?_
  exact fr b ((i.oP id bl hb).lt ho)
 ·cases r with
  | ret v=>obtain⟨V,he,hV⟩:=hpost; exact⟨V,he,key hV⟩
  | pan v=>obtain⟨V,he,hV⟩:=hpost; exact⟨V,he,key hV⟩
theorem T9 (hK:vH P A K):vH P A (lT A K):=by
 intro f args h r h' hb G w X i gl hx
 unfold lT at hb
 cases hp:A.pure f with
 | false =>
  rw [hp] at hb
  exact hK f args h r h' hb G w X i gl hx
 | true =>
  rw [hp] at hb
  simp only [cond_true] at hb
  cases hs:args.all (kM.nP 0) with
  | false=>rw [hs] at hb; cases hb
  | true =>
   rw [hs] at hb
   simp only [cond_true] at hb
   obtain⟨⟨r1,h1⟩,hc,hb⟩:=aa2.1 hb
   simp only [ah1] at hs
   have l:Left G h G [] 0:=⟨fun _ _ _ h=>h,rfl,rfl,fun id hid=>absurd hid (by omega),fun id n sz t hid=>absurd hid (by omega),fun id hid=>absurd hid (by omega)⟩
   have hx0:CP G [] args X:=⟨hx.1,fun j u hu=>zW l (hs u (List.mem_of_getElem? hu)) (hx.2 j u hu)⟩
   obtain⟨e1,e2⟩:=hK f args [] _ _ hc G w X i.empty (gl.sub rfl fun id b ho=>by simp [owner] at ho) hx0
   refine⟨e1,Calls.mono e2 fun e w' hpost=>?_⟩
   exact N6 hb i hpost
theorem P_ (hm:P.follows .mixedOrders=true) (hX:yT P A) (hlp:Tx lp):∀n,vH P A (Tg P A lp n)
 | 0=>fun f args h r h' hb=>by simp [Tg] at hb
 | n+1=>fun f args h r h' hb=>abD hm hX (T9 (P_ hm hX hlp n)) hlp f args h r h' hb
end
end
noncomputable section
open Go Go.RowKit
def Ev (p:Nat→Prop):Prop:=∃N,∀n,N≤n→p n
theorem Ev.of {p:Nat→Prop}(h:∀n,p n):Ev p:=⟨0,fun n _=>h n⟩
theorem Ev.imp {p q:Nat→Prop}(h:Ev p) (hi:∀n,p n→q n):Ev q:=let ⟨N,hN⟩:=h; ⟨N,fun n hn=>hi n (hN n hn)⟩
theorem Ev.and {p q:Nat→Prop}(h:Ev p) (h':Ev q):Ev fun n=>p n∧q n :=
 let ⟨N,hN⟩:=h; let ⟨M,hM⟩:=h'; ⟨max N M,fun n hn=>⟨hN n (by omega),hM n (by omega)⟩⟩
theorem Nv {F:List kM×kP→Option R}:∀{n:Nat}{s:List kM×kP}{r:R},tW n F s=some r→tW (n+1) F s=some r
 | 0,s,r,h=>by simp [tW] at h
 | n+1,s,r,h=>by
  rw [tW] at h ⊢
  obtain⟨r1,h1,h2⟩:=aa2.1 h
  rw [h1]
  simp only [af4]
  cases he:r1.1 with
  | normal=>rw [he] at h2; exact Nv h2
  | _=>rw [he] at h2; exact h2
theorem KH {F:List kM×kP→Option R}{n m:Nat}{s:List kM×kP}{r:R}(hnm:n≤m) (h:tW n F s=some r):tW m F s=some r:=by
 induction hnm with
 | refl=>exact h
 | step _ ih=>exact Nv ih
open Classical in
def mI (F:List kM×kP→Option R) (s:List kM×kP):Option R :=
 if h:∃n r,tW n F s=some r then some (Classical.choose (Classical.choose_spec h)) else none
theorem C0 {F:List kM×kP→Option R}{s:List kM×kP}{r:R}:mI F s=some r↔∃n,tW n F s=some r:=by
 unfold mI
 constructor
 ·intro h
  split at h
  ·rename_i hx
   cases h
   exact⟨_,Classical.choose_spec (Classical.choose_spec hx)⟩
  ·cases h
 ·rintro⟨n,hn⟩
  have hx:∃n r,tW n F s=some r:=⟨n,r,hn⟩
  rw [dif_pos hx]
  have h1:=Classical.choose_spec (Classical.choose_spec hx)
  have h2:=KH (Nat.le_max_left _ n) h1
  have h3:=KH (Nat.le_max_right (Classical.choose hx) n) hn
  rw [h2] at h3
  exact h3
theorem aAg:Tx mI:=fun _ _ _ h=>C0.1 h
theorem lZ (F:List kM×kP→Option R) (s:List kM×kP):mI F s=(F s).bind fun r=>r.1.lV (mI F r.2) fun e=>some (e,r.2):=by
 apply Option.ext
 intro r
 rw [C0]
 constructor
 ·rintro⟨n,hn⟩
  cases n with
  | zero=>simp [tW] at hn
  | succ n =>
   rw [tW] at hn
   obtain⟨r1,h1,h2⟩:=aa2.1 hn
   rw [h1]
   simp only [af4]
   cases he:r1.1 with
   | normal=>rw [he] at h2; exact C0.2 ⟨n,h2⟩
   | _=>rw [he] at h2; exact h2
 ·intro h
  obtain⟨r1,h1,h2⟩:=aa2.1 h
  cases he:r1.1 with
  | normal =>
   rw [he] at h2
   obtain⟨n,hn⟩:=C0.1 h2
   exact⟨n+1,by rw [tW,h1]; simp only [af4,he]; exact hn⟩
  | _ =>
   rw [he] at h2
   exact⟨1,by rw [tW,h1]; simp only [af4,he]; exact h2⟩
theorem ap2 {F:List kM×kP→Option R}{Fn:Nat→List kM×kP→Option R}(hF:∀s r,F s=some r→Ev fun n=>Fn n s=some r) {s:List kM×kP}{r:R}(h:mI F s=some r) :
  Ev fun n=>mI (Fn n) s=some r:=by
 obtain⟨m,hm⟩:=C0.1 h
 have key:∀(m:Nat) (s:List kM×kP),tW m F s=some r→Ev fun n=>tW m (Fn n) s=some r:=by
  intro m
  induction m with
  | zero=>intro s h; simp [tW] at h
  | succ m ih =>
   intro s h
   rw [tW] at h
   obtain⟨r1,h1,h2⟩:=aa2.1 h
   cases he:r1.1 with
   | normal =>
    rw [he] at h2
    refine((hF _ _ h1).and (ih _ h2)).imp fun n hn=>?_
    rw [tW,hn.1]; simp only [af4,he]; exact hn.2
   | _ =>
    rw [he] at h2
    refine(hF _ _ h1).imp fun n hn=>?_
    rw [tW,hn]; simp only [af4,he]; exact h2
 exact(key m s hm).imp fun n hn=>C0.2 ⟨m,hn⟩
section
variable {cx:Cx}{o:Oper}{ρ:List kM}{h:kP}{kv kp:kM→kP→Option R}{r:R}{ids:List Nat}{ops:List Oper}
theorem agV {kvn kpn:Nat→kM→kP→Option R}(hv:∀v h r,kv v h=some r→Ev fun n=>kvn n v h=some r) (hp:∀v h r,kp v h=some r→Ev fun n=>kpn n v h=some r) {r0:R}
  (hb:nT kv kp r0=some r):Ev fun n=>nT (kvn n) (kpn n) r0=some r:=by
 obtain⟨e,l,h⟩:=r0
 cases e with
 | normal =>
  match l with
  | []=>cases hb
  | [v]=>exact hv v h r hb
  | _::_::_=>cases hb
 | pan v=>exact hp v h r hb
 | exit _=>cases hb
 | ret=>cases hb
def Ez (K:lB) (Kn:Nat→lB):Prop:=∀f args h r,K f args h=some r→Ev fun n=>Kn n f args h=some r
theorem agM {lp':LpT}{K':lB}{rsv:Option Nat}(hne:∀c f,o.op=.call c→c.callee=.value f→False) (hni:∀c f m,o.op=.call c→c.callee=.invoke f m→False):evalOp { cx with K:=K',lp:=lp' } o rsv ρ h kv kp=evalOp cx o rsv ρ h kv kp:=by
 unfold evalOp oJ
 cases ho:o.op with
 | call c =>
  simp only []
  cases hc:c.callee with
  | value f=>exact(hne c f ho hc).elim
  | builtin b=>rfl
  | invoke f m=>exact(hni c f m ho hc).elim
 | makeFunc b f c=>cases b <;> rfl
 | makeMap t r=>cases r <;> rfl
 | typeAssert x xt t ok=>cases ok <;> rfl
 | slice t x lo hi mx=>cases mx <;> rfl
 | assign x=>cases DL x <;> rfl
 | _=>rfl
theorem GA {lp':LpT}{Kn:Nat→lB}{kvn kpn:Nat→kM→kP→Option R}{rsv:Option Nat}(hK:Ez cx.K Kn) (hv:∀v h r,kv v h=some r→Ev fun n=>kvn n v h=some r)
  (hp:∀v h r,kp v h=some r→Ev fun n=>kpn n v h=some r) (hb:evalOp cx o rsv ρ h kv kp=some r):Ev fun n=>evalOp { cx with K:=Kn n,lp:=lp' } o rsv ρ h (kvn n) (kpn n)=some r:=by
 rw [AO] at hb
 obtain⟨r0,h1,h2⟩:=aa2.1 hb
 have key:Ev fun n=>evalOp { cx with K:=Kn n,lp:=lp' } o rsv ρ h nM yS=some r0:=by
  by_cases hne:∃c f,o.op=.call c∧c.callee=.value f
  ·obtain⟨c,f,ho,hc⟩:=hne
   simp only [evalOp,oJ,ho,hc] at h1 ⊢
   obtain⟨g,hg,h1⟩:=aa2.1 h1
   cases hext:cx.A.ext g.1 with
   | some ek =>
    refine Ev.of fun n=>?_
    simp only [hg,af4,CV,hext] at h1 ⊢
    exact h1
   | none =>
    simp only [CV,hext] at h1 ⊢
    unfold kU at h1 ⊢
    obtain⟨r1,hk,h1⟩:=aa2.1 h1
    refine(hK _ _ _ _ hk).imp fun n hn=>?_
    simp only [hg,af4,hext,hn]
    exact h1
  ·by_cases hni:∃c f m,o.op=.call c∧c.callee=.invoke f m
   ·obtain⟨c,f,m,ho,hc⟩:=hni
    simp only [evalOp,oJ,ho,hc] at h1 ⊢
    obtain⟨g,hg,h1⟩:=aa2.1 h1
    cases hext:cx.A.ext g.1 with
    | some ek =>
     refine Ev.of fun n=>?_
     simp only [hg,af4,CV,hext] at h1 ⊢
     exact h1
    | none =>
     simp only [CV,hext] at h1 ⊢
     unfold kU at h1 ⊢
     obtain⟨r1,hk,h1⟩:=aa2.1 h1
     refine(hK _ _ _ _ hk).imp fun n hn=>?_
     simp only [hg,af4,hext,hn]
     exact h1
   ·refine Ev.of fun n=>?_
    rw [agM (fun c f ho hc=>hne ⟨c,f,ho,hc⟩) (fun c f m ho hc=>hni ⟨c,f,m,ho,hc⟩)]
    exact h1
 refine(key.and (agV hv hp h2)).imp fun n hn=>?_
 rw [AO,hn.1]
 exact hn.2
theorem ET {lp':LpT}{Kn:Nat→lB}{kvn kpn:Nat→kM→kP→Option R}(hK:Ez cx.K Kn) (hv:∀v h r,kv v h=some r→Ev fun n=>kvn n v h=some r)
  (hp:∀v h r,kp v h=some r→Ev fun n=>kpn n v h=some r) (hb:oE cx o ids ρ h kv kp=some r):Ev fun n=>oE { cx with K:=Kn n,lp:=lp' } o ids ρ h (kvn n) (kpn n)=some r:=by
 unfold oE at hb ⊢
 cases hc:cx.ck with
 | true =>
  simp only [hc,cond_true] at hb ⊢
  exact GA (lp':=lp') hK (fun v h' r hk=>by
   obtain⟨h1,h2⟩:=Hs.1 hk
   exact(hv v _ r h2).imp fun n hn=>Hs.2 ⟨h1,hn⟩) hp hb
 | false =>
  simp only [hc,cond_false] at hb ⊢
  exact GA (lp':=lp') hK (fun v h' r hk=>hv v _ r hk) (fun v h' r hk=>hp v _ r hk) hb
theorem Uf {lp':LpT}{Kn:Nat→lB}{m:Nat}{kvn:Nat→kM→kP→Option R}(hK:Ez cx.K Kn) (hv:∀v h r,kv v h=some r→Ev fun n=>kvn n v h=some r)
  (hb:A5 cx o m ids ρ h kv=some r):Ev fun n=>A5 { cx with K:=Kn n,lp:=lp' } o m ids ρ h (kvn n)=some r:=by
 unfold A5 at hb ⊢
 cases hs:(h.take m).all (sS m) with
 | false=>rw [hs] at hb; cases hb
 | true =>
  rw [hs] at hb
  simp only [cond_true] at hb ⊢
  obtain⟨r0,h1,h2⟩:=aa2.1 hb
  have e1:Ev fun n=>oE { cx with K:=Kn n,lp:=lp' } o ids (ρ.map (vL m)) (h.take m) nM yS=some r0 :=
   ET (kvn:=fun _=>nM) (kpn:=fun _=>yS) hK (fun _ _ _ h=>Ev.of fun _=>h) (fun _ _ _ h=>Ev.of fun _=>h) h1
  have e2:Ev fun n=>EY m h (kvn n) r0=some r:=by
   unfold EY at h2 ⊢
   split at h2
   ·rename_i v t
    cases hl:t.length == m with
    | false=>rw [hl] at h2; cases h2
    | true=>rw [hl] at h2; exact hv _ _ _ h2
   ·cases h2
  refine(e1.and e2).imp fun n hn=>?_
  rw [hn.1]
  exact hn.2
theorem RH {lp':LpT}{Kn:Nat→lB}{kvn kpn:Nat→kM→kP→Option R}(hK:Ez cx.K Kn) (hv:∀v h r,kv v h=some r→Ev fun n=>kvn n v h=some r)
  (hp:∀v h r,kp v h=some r→Ev fun n=>kpn n v h=some r) (hb:vV cx ops o ids ρ h kv kp=some r):Ev fun n=>vV { cx with K:=Kn n,lp:=lp' } ops o ids ρ h (kvn n) (kpn n)=some r:=by
 have L:oE cx o ids ρ h kv kp=some r→Ev fun n=>oE { cx with K:=Kn n,lp:=lp' } o ids ρ h (kvn n) (kpn n)=some r :=
  fun hb=>ET hK hv hp hb
 simp only [CX] at hb ⊢
 unfold B6 at hb ⊢
 cases hg:o.guard with
 | none=>simp only [hg] at hb ⊢; exact L hb
 | some jw =>
  obtain⟨j,want⟩:=jw
  simp only [hg] at hb ⊢
  cases hd:(ops[j]?).bind (·.dst) with
  | none=>simp only [hd] at hb; cases hb
  | some d =>
   simp only [hd] at hb ⊢
   generalize ρ.getD d .junk=x at hb ⊢
   split at hb
   ·rename_i g
    cases want <;> cases g <;> simp only [cond_true,cond_false] at hb ⊢
    ·exact L hb
    ·exact hv _ _ _ hb
    ·exact hv _ _ _ hb
    ·exact L hb
   ·exact hv _ _ _ hb
   ·cases hb
theorem Pp {lp':LpT}{Kn:Nat→lB}{m:Nat}{it:Item}{kvn kpn:Nat→kM→kP→Option R}(hK:Ez cx.K Kn) (hv:∀v h r,kv v h=some r→Ev fun n=>kvn n v h=some r)
  (hp:∀v h r,kp v h=some r→Ev fun n=>kpn n v h=some r) (hb:pH cx ops m it ids ρ h kv kp=some r):Ev fun n=>pH { cx with K:=Kn n,lp:=lp' } ops m it ids ρ h (kvn n) (kpn n)=some r:=by
 unfold pH at hb ⊢
 cases hr:it.rsv with
 | some j =>
  simp only [hr] at hb ⊢
  cases hf:u4 it.o with
  | false=>rw [hf] at hb; cases hb
  | true =>
   rw [hf] at hb
   exact GA (kpn:=fun _ _ _=>none) hK hv (fun _ _ _ h=>by cases h) hb
 | none =>
  simp only [hr] at hb ⊢
  cases hh:it.hid with
  | true =>
   simp only [hh,cond_true] at hb ⊢
   cases hf:Ap it.o with
   | false=>rw [hf] at hb; cases hb
   | true =>
    rw [hf] at hb
    exact Uf hK hv hb
  | false =>
   simp only [hh,cond_false] at hb ⊢
   exact RH hK hv hp hb
theorem A7 {lp':LpT}{m:Nat}{Kn:Nat→lB}{k:List kM→kP→Option R}{kn:Nat→List kM→kP→Option R}{kpn:Nat→kM→kP→Option R}(hK:Ez cx.K Kn)
  (hk:∀ρ h r,k ρ h=some r→Ev fun n=>kn n ρ h=some r) (hp:∀v h r,kp v h=some r→Ev fun n=>kpn n v h=some r):∀(items:List Item) (seen ρ:List kM) (h:kP) (r:R),
  pP cx ops m items seen ρ h k kp=some r→Ev fun n=>pP { cx with K:=Kn n,lp:=lp' } ops m items seen ρ h (kn n) (kpn n)=some r:=by
 intro items
 induction items with
 | nil=>intro seen ρ h r hb; exact hk _ _ _ hb
 | cons it rest ih =>
  intro seen ρ h r hb
  simp only [pP,AP] at hb ⊢
  exact Pp hK (fun v h' r hb=>ih _ _ _ _ hb) hp hb
theorem MS {lp':LpT}{Kn:Nat→lB}{k:List kM→kP→Option R}{kn:Nat→List kM→kP→Option R}{kp:kM→kP→Option R}{kpn:Nat→kM→kP→Option R}{draw:Bool}(hK:Ez cx.K Kn)
  (hk:∀ρ h r,k ρ h=some r→Ev fun n=>kn n ρ h=some r) (hkp:∀v h r,kp v h=some r→Ev fun n=>kpn n v h=some r) (hb:zB cx ops draw ρ h k kp=some r):Ev fun n=>zB { cx with K:=Kn n,lp:=lp' } ops draw ρ h (kn n) (kpn n)=some r:=by
 unfold zB at hb ⊢
 cases draw with
 | false=>exact A7 hK (fun ρ h r hb=>hk _ _ _ hb) (fun v h r hb=>hkp _ _ _ hb) _ _ _ _ _ hb
 | true =>
  simp only [] at hb ⊢
  cases hd:D3 ops with
  | none=>simp only [hd] at hb; cases hb
  | some items =>
   simp only [hd] at hb ⊢
   exact A7 (cx:={ cx with rb:=false }) hK (fun ρ h r hb=>hk _ _ _ hb) (fun v h r hb=>hkp _ _ _ hb) _ _ _ _ _ hb
end
theorem PY {v:kM}{t e:Option R}{tn en:Nat→Option R}{r:R}(ht:t=some r→Ev fun n=>tn n=some r) (he:e=some r→Ev fun n=>en n=some r) (hb:lF v t e=some r) :
  Ev fun n=>lF v (tn n) (en n)=some r:=by
 unfold lF at hb ⊢
 split at hb
 ·rename_i b; cases b
  ·exact he hb
  ·exact ht hb
 ·cases hb
theorem OD {e:Ex}{x:Option R}{f:Ex→Option R}{xn:Nat→Option R}{fn:Nat→Ex→Option R}{r:R}(hx:x=some r→Ev fun n=>xn n=some r) (hf:∀e,f e=some r→Ev fun n=>fn n e=some r)
  (hb:e.lV x f=some r):Ev fun n=>e.lV (xn n) (fn n)=some r:=by
 cases e with
 | normal=>exact hx hb
 | _=>exact hf _ hb
theorem asY {e:Ex}{x:Option R}{xn:Nat→Option R}{r:R}(hx:x=some r→Ev fun n=>xn n=some r) (hb:e.uC x=some r):Ev fun n=>e.uC (xn n)=some r:=by
 cases e with
 | normal=>exact hx hb
 | _=>cases hb
theorem Kw {id:Nat}{e:Ex}{x:Option R}{f:Ex→Option R}{xn:Nat→Option R}{fn:Nat→Ex→Option R}{r:R}(hx:x=some r→Ev fun n=>xn n=some r) (hf:∀e,f e=some r→Ev fun n=>fn n e=some r)
  (hb:e.inBlock id x f=some r):Ev fun n=>e.inBlock id (xn n) (fn n)=some r:=by
 cases e with
 | normal=>exact hx hb
 | exit j =>
  simp only [Ex.inBlock] at hb ⊢
  cases hj:j == id with
  | true=>rw [hj] at hb; exact hx hb
  | false=>rw [hj] at hb; exact hf _ hb
 | _=>exact hf _ hb
theorem BN {cx:Cx}{Kn:Nat→lB}(hK:Ez cx.K Kn) (hlp:∀F s r,cx.lp F s=some r→mI F s=some r):∀(c:Code) (L:Nat) (ρ:List kM) (h:kP) (kn:List kM→kP→Option R) (ke:Ex→List kM→kP→Option R)
  (knn:Nat→List kM→kP→Option R) (ken:Nat→Ex→List kM→kP→Option R) (r:R),
  (∀ρ h r,kn ρ h=some r→Ev fun n=>knn n ρ h=some r)→(∀e ρ h r,ke e ρ h=some r→Ev fun n=>ken n e ρ h=some r)→evalCode cx c L ρ h kn ke=some r→Ev fun n=>evalCode { cx with K:=Kn n,lp:=mI } c L ρ h (knn n) (ken n)=some r:=by
 obtain⟨P,A,K,lp,nt,full,pan,vec,frz,vlit,vmk,jt,lkp,rb,frl,tb⟩:=cx
 dsimp only at hlp
 intro c
 induction c with
 | skip=>intro L ρ h kn ke knn ken r hk he hb; exact hk _ _ _ hb
 | region id ops draw=>intro L ρ h kn ke knn ken r hk he hb; exact MS hK hk (kpn:=fun n=>aFZ pan (ken n) ρ) (fun v h r hb=>by cases pan <;> first | exact he _ _ _ _ hb | cases hb) hb
 | seq x y ihx ihy =>
  intro L ρ h kn ke knn ken r hk he hb
  simp only [evalCode] at hb ⊢
  exact ihx _ ρ h _ _ _ _ r (fun ρ h r hb=>ihy _ _ _ _ _ _ _ _ hk he hb) he hb
 | cond c x y ihx ihy =>
  intro L ρ h kn ke knn ken r hk he hb
  simp only [evalCode] at hb ⊢
  cases hf:zQ x && zQ y with
  | true =>
   simp only [hf,cond_true] at hb ⊢
   obtain⟨r0,h1,h2⟩:=aa2.1 hb
   have e1:=PY (ihx L ρ h _ _ (fun _=>Gz jt h.length L .normal) (fun _=>Gz jt h.length L) r0 (fun ρ h r hb=>Ev.of fun _=>hb) (fun e ρ h r hb=>Ev.of fun _=>hb)) (ihy L ρ h _ _ (fun _=>Gz jt h.length L .normal) (fun _=>Gz jt h.length L) r0 (fun ρ h r hb=>Ev.of fun _=>hb) (fun e ρ h r hb=>Ev.of fun _=>hb)) h1
   have e2:Ev fun n=>(bif pan || (leaves [] x || leaves [] y) then r0.1.lV (knn n (unpack nt L r0.2.1) r0.2.2) fun e=>ken n e (unpack nt L r0.2.1) r0.2.2 else r0.1.uC (knn n (unpack nt L r0.2.1) r0.2.2))=some r:=by
    cases hl:pan || (leaves [] x || leaves [] y) with
    | true=>rw [hl] at h2; exact OD (hk _ _ _) (fun e=>he e _ _ _) h2
    | false=>rw [hl] at h2; exact asY (hk _ _ _) h2
   refine(e1.and e2).imp fun n hn=>?_
   rw [aa2]
   exact⟨r0,hn.1,hn.2⟩
  | false =>
   simp only [hf,cond_false] at hb ⊢
   exact PY (ihx L ρ h _ _ knn ken r hk he) (ihy L ρ h _ _ knn ken r hk he) hb
 | block id c ih =>
  intro L ρ h kn ke knn ken r hk he hb
  simp only [evalCode] at hb ⊢
  cases hf:decide (2≤Dm id c+bif zQ c then 1 else 0) with
  | true =>
   simp only [hf,cond_true] at hb ⊢
   obtain⟨r0,h1,h2⟩:=aa2.1 hb
   refine((ih L ρ h _ _ (fun _=>Gz jt h.length L .normal) (fun _=>Gz jt h.length L) r0 (fun ρ h r hb=>Ev.of fun _=>hb) (fun e ρ h r hb=>Ev.of fun _=>hb) h1).and (Kw (hk _ _ _) (fun e=>he e _ _ _) h2)).imp fun n hn=>?_
   rw [aa2]
   exact⟨r0,hn.1,hn.2⟩
  | false =>
   simp only [hf,cond_false] at hb ⊢
   exact ih L ρ h _ _ knn (fun n e ρ' h'=>e.inBlock id (knn n ρ' h') fun e=>ken n e ρ' h') r hk (fun e ρ' h' r hb=>Kw (hk _ _ _) (fun e=>he e _ _ _) hb) hb
 | loop c ih =>
  intro L ρ h kn ke knn ken r hk he hb
  simp only [evalCode] at hb ⊢
  obtain⟨r0,h1,h2⟩:=aa2.1 hb
  refine((ap2 (fun s r hb=>ih _ _ _ _ _ (fun _=>EP lkp h.length (L ||| ue full c) .normal) (fun _=>EP lkp h.length (L ||| ue full c)) _ (fun ρ h r hb=>Ev.of fun _=>hb) (fun e ρ h r hb=>Ev.of fun _=>hb) hb) (hlp _ _ _ h1)).and
   (OD (x:=none) (xn:=fun _=>none) (fun h=>by cases h) (fun e=>he e _ _ _) h2)).imp fun n hn=>?_
  rw [aa2]
  exact⟨r0,hn.1,hn.2⟩
 | scope c ih=>intro L ρ h kn ke knn ken r hk he hb; exact ih L ρ h kn ke knn ken r hk he hb
 | label l=>intro L ρ h kn ke knn ken r hk he hb; exact hk _ _ _ hb
 | exit id=>intro L ρ h kn ke knn ken r hk he hb; exact he _ _ _ _ hb
 | ret=>intro L ρ h kn ke knn ken r hk he hb; exact he _ _ _ _ hb
 | _=>intro L ρ h kn ke knn ken r hk he hb; simp [evalCode] at hb
theorem Uh {cx:Cx}{Kn:Nat→lB}(hK:Ez cx.K Kn) (hlp:∀F s r,cx.lp F s=some r→mI F s=some r) {g:Nat}{caps:List kM}{pv:Option kM}{h h':kP}(hb:y8 cx g caps pv h=some h') :
  Ev fun n=>y8 { cx with K:=Kn n,lp:=mI } g caps pv h=some h':=by
 unfold y8 at hb ⊢
 cases hf:cx.P.funcs[g]? with
 | none=>rw [hf] at hb; cases hb
 | some fn =>
  simp only [hf] at hb ⊢
  split at hb
  ·rename_i id ops c hbody
   split at hb
   ·rename_i o os hops
    cases hc:(FD o && decide (caps.length≤fn.ntmps) && fn.results.isEmpty && !(fn.name == "runtime.NumGoroutine")) with
    | false=>rw [hc] at hb; cases hb
    | true =>
     rw [hc] at hb
     simp only [cond_true] at hb ⊢
     obtain⟨r0,h1,h2⟩:=aa2.1 hb
     have e1:=A7 (cx:={ cx with n:=fn.ntmps,full:=2 ^ fn.ntmps - 1,pan:=false }) (lp':=mI) (ops:=ops.toList) (kp:=fun _ _=>none) (kpn:=fun _ _ _=>none)
      (kn:=fun n ρ' h'=>evalCode { cx with K:=Kn n,lp:=mI,n:=fn.ntmps,full:=2 ^ fn.ntmps - 1,pan:=false } c 0 ρ' h' (KO 0) (KJ 0)) hK
      (fun ρ h r hb=>BN (cx:={ cx with n:=fn.ntmps,full:=2 ^ fn.ntmps - 1,pan:=false }) hK hlp c 0 ρ h _ _ (fun _=>KO 0) (fun _=>KJ 0) r (fun ρ h r hb=>Ev.of fun _=>hb) (fun e ρ h r hb=>Ev.of fun _=>hb) hb)
      (fun _ _ _ h=>by cases h) _ _ _ _ _ h1
     refine e1.imp fun n hn=>?_
     rw [aa2]
     exact⟨r0,hn,h2⟩
   ·cases hb
  ·cases hb
theorem RI {cx:Cx}{Kn:Nat→lB}(hK:Ez cx.K Kn) (hlp:∀F s r,cx.lp F s=some r→mI F s=some r) {b:Code}{L:Nat}{fv:kM}{ρ:List kM}{h:kP}{r:R}(hb:Ck cx b L fv ρ h=some r) :
  Ev fun n=>Ck { cx with K:=Kn n,lp:=mI } b L fv ρ h=some r:=by
 unfold Ck at hb ⊢
 cases hok:E_ L b with
 | false=>rw [hok] at hb; cases hb
 | true =>
  rw [hok] at hb
  simp only [cond_true] at hb ⊢
  obtain⟨g,hg,hb⟩:=aa2.1 hb
  simp only [hg,af4]
  obtain⟨r0,h1,h2⟩:=aa2.1 hb
  have e1:=BN (cx:={ cx with pan:=true }) hK hlp b L ρ h _ _ (fun _=>KO L) (fun _=>KJ L) r0 (fun ρ h r hb=>Ev.of fun _=>hb) (fun e ρ h r hb=>Ev.of fun _=>hb) h1
  have e2:Ev fun n=>r0.1.Rx ((y8 { cx with K:=Kn n,lp:=mI } g.1 (g.2.1++g.2.2) none r0.2.2).map fun h2=>((.ret,r0.2.1,h2):R)) (fun v=>(y8 { cx with K:=Kn n,lp:=mI } g.1 (g.2.1++g.2.2) (some v) r0.2.2).map fun h2=>((.ret,pack L ρ,h2):R))=some r:=by
   have key:∀{pv:Option kM}{pk:List kM},((y8 cx g.1 (g.2.1++g.2.2) pv r0.2.2).map fun h2=>((.ret,pk,h2):R))=some r→Ev fun n=>((y8 { cx with K:=Kn n,lp:=mI } g.1 (g.2.1++g.2.2) pv r0.2.2).map fun h2=>((.ret,pk,h2):R))=some r:=by
    intro pv pk hx
    obtain⟨h3,e3,e4⟩:=ac6.1 hx
    exact(Uh hK hlp e3).imp fun n hn=>by rw [hn]; exact congrArg some e4
   cases he:r0.1 with
   | normal=>rw [he] at h2; exact key h2
   | ret=>rw [he] at h2; exact key h2
   | exit id=>rw [he] at h2; cases h2
   | pan v=>rw [he] at h2; exact key h2
  refine(e1.and e2).imp fun n hn=>?_
  rw [aa2]
  exact⟨r0,hn.1,hn.2⟩
theorem Ug {cx:Cx}{Kn:Nat→lB}(hK:Ez cx.K Kn) (hlp:∀F s r,cx.lp F s=some r→mI F s=some r):∀(c:Code) (L:Nat) (ρ:List kM) (h:kP) (r:R),uY cx c L ρ h=some r →
  Ev fun n=>uY { cx with K:=Kn n,lp:=mI } c L ρ h=some r:=by
 intro c
 induction c with
 | seq x y ihx ihy =>
  intro L ρ h r hb
  have piece:evalCode cx x (L ||| ue cx.full y) ρ h (fun ρ' h'=>uY cx y L ρ' h') (QH L)=some r →
    Ev fun n=>evalCode { cx with K:=Kn n,lp:=mI } x (L ||| ue cx.full y) ρ h (fun ρ' h'=>uY { cx with K:=Kn n,lp:=mI } y L ρ' h') (QH L)=some r:=fun hb =>
   BN hK hlp x _ ρ h _ _ (fun n ρ' h'=>uY { cx with K:=Kn n,lp:=mI } y L ρ' h') (fun _=>QH L) r (fun ρ h r hb=>ihy L ρ h r hb) (fun e ρ h r hb=>Ev.of fun _=>hb) hb
  cases x with
  | region id ops draw =>
   cases draw with
   | true=>simp only [uY] at hb ⊢; exact piece hb
   | false =>
    simp only [uY] at hb ⊢
    cases hl:DE ops.toList with
    | none=>simp only [hl] at hb ⊢; exact piece hb
    | some f =>
     simp only [hl] at hb ⊢
     exact A7 (lp':=mI) (kpn:=fun _ _ _=>none) (kn:=fun n ρ' h'=>Ck { cx with K:=Kn n,lp:=mI } y L (tD cx.A ρ' f) ρ' h') hK (fun ρ h r hb=>RI hK hlp hb) (fun _ _ _ h=>by cases h) _ _ _ _ _ hb
  | _=>simp only [uY] at hb ⊢; exact piece hb
 | _=>intro L ρ h r hb; simp [uY] at hb
theorem RA {cx:Cx}{Kn:Nat→lB}(hK:Ez cx.K Kn) (hlp:∀F s r,cx.lp F s=some r→mI F s=some r) {d:Bool}{c:Code}{L:Nat}{ρ:List kM}{h:kP}{r:R}(hb:ES cx d c L ρ h=some r) :
  Ev fun n=>ES { cx with K:=Kn n,lp:=mI } d c L ρ h=some r:=by
 cases d with
 | true=>exact Ug (cx:={ cx with pan:=false }) hK hlp c L ρ h r hb
 | false=>exact BN hK hlp c L ρ h _ _ (fun _=>KO L) (fun _=>KJ L) r (fun ρ h r hb=>Ev.of fun _=>hb) (fun e ρ h r hb=>Ev.of fun _=>hb) hb
theorem aa3 {A:CF}{K:lB}{Kn:Nat→lB}(hK:Ez K Kn):Ez (lT A K) fun n=>lT A (Kn n):=by
 intro f args h r hb
 unfold lT at hb ⊢
 cases hp:A.pure f with
 | false =>
  simp only [hp,cond_false] at hb ⊢
  exact hK _ _ _ _ hb
 | true =>
  simp only [hp,cond_true] at hb ⊢
  cases hs:args.all (kM.nP 0) with
  | false=>simp only [hs,cond_false] at hb; cases hb
  | true =>
   simp only [hs,cond_true] at hb ⊢
   obtain⟨r0,h1,h2⟩:=aa2.1 hb
   refine(hK _ _ _ _ h1).imp fun n hn=>?_
   rw [aa2]
   exact⟨r0,hn,h2⟩
theorem Li {P:Program}{A:CF}{lp:LpT}{K:lB}{Kn:Nat→lB}(hlp:∀F s r,lp F s=some r→mI F s=some r) (hK:Ez K Kn):Ez (o6 P A lp K) fun n=>o6 P A mI (Kn n):=by
 intro f args h r hb
 unfold o6 at hb ⊢
 cases hpr:A.prm f with
 | some k =>
  simp only [hpr] at hb ⊢
  exact⟨0,fun n _=>hb⟩
 | none =>
 simp only [hpr] at hb ⊢
 cases hf:P.funcs[f]? with
 | none=>simp only [hf] at hb; cases hb
 | some fn =>
  simp only [hf] at hb ⊢
  cases hc:fn.body with
  | none=>simp only [hc] at hb; cases hb
  | some c =>
   simp only [hc] at hb ⊢
   cases hg:decide (args.length≤fn.ntmps) && !(fn.name == "runtime.NumGoroutine") with
   | false=>simp only [hg,cond_false] at hb; cases hb
   | true =>
    simp only [hg,cond_true,RD] at hb ⊢
    obtain⟨r0,h1,h2⟩:=aa2.1 hb
    refine(RA (cx:={ P,A,K:=lT A K,lp,n:=fn.ntmps,full:=2 ^ fn.ntmps - 1,pan:=A.pan f,vec:=A.auL f,frz:=A.frz f,vlit:=A.ZV f,vmk:=A.vmk f,jt:=A.jt f,lkp:=A.lkp f,rb:=A.rb f,frl:=A.frl f,tb:=A.tb f,ck:=A.ck f }) (aa3 hK) hlp h1).imp fun n hn=>?_
    rw [aa2]
    exact⟨r0,hn,h2⟩
open Classical in
def MO (P:Program) (A:CF):lB:=fun f args h =>
 if hx:∃r,Ev fun n=>Tg P A mI n f args h=some r then some (Classical.choose hx) else none
theorem FC {P:Program}{A:CF}{f:Nat}{args:List kM}{h:kP}{r:vG×kP}:MO P A f args h=some r↔Ev fun n=>Tg P A mI n f args h=some r:=by
 unfold MO
 constructor
 ·intro hb
  split at hb
  ·rename_i hx; cases hb; exact Classical.choose_spec hx
  ·cases hb
 ·intro hb
  have hx:∃r,Ev fun n=>Tg P A mI n f args h=some r:=⟨r,hb⟩
  rw [dif_pos hx]
  obtain⟨N,hN⟩:=(Classical.choose_spec hx).and hb
  obtain⟨e1,e2⟩:=hN N (ac5 _)
  rw [e1] at e2
  exact e2
theorem agL {P:Program}{A:CF}{f:Nat}{args:List kM}{h:kP}{r:vG×kP}(hb:o6 P A mI (MO P A) f args h=some r):MO P A f args h=some r:=by
 rw [FC]
 obtain⟨N,hN⟩:=Li (lp:=mI) (Kn:=fun n=>Tg P A mI n) (fun _ _ _ h=>h) (fun f args h r hb=>FC.1 hb) f args h r hb
 refine⟨N+1,fun n hn=>?_⟩
 cases n with
 | zero=>omega
 | succ n=>exact hN n (by omega)
theorem Rz {P:Program}{A:CF}(m:Nat):∀(n f:Nat) (args:List kM) (h:kP) (r:vG×kP),Tg P A (tW m) n f args h=some r→MO P A f args h=some r:=by
 have hlp:∀F s r,tW m F s=some r→mI F s=some r:=fun F s r h=>C0.2 ⟨m,h⟩
 have key:∀n,Ez (Tg P A (tW m) n) fun k=>Tg P A mI k:=by
  intro n
  induction n with
  | zero=>intro f args h r hb; cases hb
  | succ n ih =>
   intro f args h r hb
   obtain⟨N,hN⟩:=Li hlp ih f args h r hb
   refine⟨N+1,fun k hk=>?_⟩
   cases k with
   | zero=>omega
   | succ k=>exact hN k (by omega)
 exact fun n f args h r hb=>FC.2 (key n f args h r hb)
theorem abE {P:Program}{A:CF}(hm:P.follows .mixedOrders=true) (hX:yT P A):vH P A (MO P A):=by
 intro f args h r h' hb
 obtain⟨N,hN⟩:=FC.1 hb
 exact P_ hm hX aAg N f args h r h' (hN N (ac5 _))
end
section
open Go Go.RowKit Go.ChangeShapes
def gh (W:World):Gh:={ H:=fun b k=>W.cell? ⟨b,k,none⟩,oP:=fun _=>0,cur:=fun _=>.slice none 0 0 }
theorem az1 (W:World):Inv (gh W) [] W:=⟨fun _ _ _ h=>h,fun id bl hb=>by simp at hb,fun a b c ha=>by simp [owner] at ha⟩
theorem MK {P:Program}{A:CF}{f:Nat}{args:List kM}{X:Array Value}{W:World}(hm:P.follows .mixedOrders=true) (hX:yT P A) (h:MO P A f args []=some (.ret (.bool true),[]))
  (gl:tM A (gh W) [] W) (hx:CP (gh W) [] args X):Calls P f X W fun e W'=>e=.returned (.bool true)∧Below W.heap.size W W':=by
 refine((abE hm hX f args [] _ _ h (gh W) W X (az1 W) gl hx).2).mono fun e W' hpost=>?_
 obtain⟨G',x,_,V,rfl,hV⟩:=hpost
 refine⟨by rw [hV.Ag],x.os,x.tape,x.output,x.size,fun k hk=>(x.frame k hk fun id=>by simp [owner]).1⟩
section
variable {H:Type}{enc:TypeId×Value→H}{P:Program}
theorem Gp (hl:laidOutB P=true) {W W':World}{sp':Nat→Bool}(hb:Below W.heap.size W W'):∀{ts:List TypeId}{vs:List Value}{ds:List (DataW H)}{ps:List MemPlace},
  (∀t∈ts,P.readableRec t=true∧t < P.types.size)→DataW.TrodAll enc P W 0 (fun _=>true) true ts vs ds ps→(∀p∈ps,p.block < W.heap.size)→(∀p∈ps,sp' p.block=true)→DataW.TrodAll enc P W' 0 sp' true ts vs ds ps
 | [],[],[],_,_,h,_,_=>h
 | _::_,_::_,_::_,_,ht,⟨p,q,h1,h2,e⟩,hlt,hs =>
  ⟨p,q,WideElems.Trod_stays hl (ht _ (by simp)).1 (ht _ (by simp)).2 h1 (fun x hx=>hb.same (hlt x (by rw [e]; exact List.mem_append_left _ hx))) (fun x hx=>hs x (by rw [e]; exact List.mem_append_left _ hx)),
   Gp hl hb (fun t h=>ht t (by simp [h])) h2 (fun x hx=>hlt x (by rw [e]; exact List.mem_append_right _ hx)) (fun x hx=>hs x (by rw [e]; exact List.mem_append_right _ hx)),e⟩
theorem QK {f:Func}{s:ChangeSpec}{apart fresh handsOn again:Bool}{W W':World}{args:Array Value}{tb:TypeId}{ds gs:List (DataW H)}{before:List MemPlace}
  (hl:laidOutB P=true) (ht:∀t∈f.params.toList,P.readableRec t=true∧t < P.types.size) (hr:f.resultTypes=#[tb]) (htb:P.underlying tb=some .bool) (hv:s.vars=[])
  (hW:DataW.Whole enc P f.params.toList s.vars apart W args.toList ds gs before) (hb:Below W.heap.size W W')
  (h1:(s.fn H (ds++gs)).results=[.lit (.bool true)]) (h2:(s.fn H (ds++gs)).args=ds) (h3:(s.fn H (ds++gs)).vars=[]):s.post enc P f apart fresh handsOn again W args (Value.bool true) W':=by
 have hlt:=hW.lt
 have hold:∀p∈before,(fun b=>decide (b < W.heap.size)) p.block=true:=fun p hp=>by simpa using hlt p hp
 have hW':=hW
 obtain⟨p,q,hA,hV,hps,hz,hn⟩:=hW
 rw [hv] at hV
 obtain⟨rfl,rfl⟩:=trodVars_none hV
 simp only [List.append_nil] at hps h1 h2 h3
 subst hps
 have hargs:∀sp:Nat→Bool,(∀x∈before,sp x.block=true)→DataW.TrodAll enc P W' 0 sp true f.params.toList args.toList (s.fn H ds).args before:=by
  intro sp hs; rw [h2]; exact Gp hl hb ht hA hlt hs
 have hres:∀(b:Nat) (sp:Nat→Bool) (hd:Bool),DataW.TrodAll enc P W' b sp hd f.resultTypes.toList ((Value.bool true).resultList f.resultTypes.size) (s.fn H ds).results []:=by
  intro b sp hd; rw [h1,hr]; exact trodAll_mk1 (shut_bool htb true)
 have hvars:∀sp:Nat→Bool,DataW.TrodVars enc P W' sp s.vars (s.fn H ds).vars []:=by
  intro sp; rw [h3,hv]; rfl
 refine⟨ds,[],before,[],before,[],hW',by simpa using hres _ _ _,by simpa using hargs _ hold,by simpa using hvars _,World.keptBut_mono (fun p hp=>⟨hp,?_⟩) (hb.frame (·∈before)),fun _=>?_⟩
 ·exact Or.inr (by simpa using hp)
 ·refine⟨ok_one hr rfl (okWide_bool_mk htb true),_,_,([]++before)++[],⟨[]++before,[],trodAll_append (hargs _ (fun _ _=>rfl)) (hres _ _ _),hvars _,rfl,?_,?_⟩,?_⟩
  ·intro b off hp
   have hp':MemPlace.cell b off∈before:=by simpa using hp
   rw [hb.frozen (p:=⟨b,off,none⟩) (hlt _ hp')]
   exact hz b off hp'
  ·intro ha
   simpa using hn ha
  ·intro p hp _
   simpa using hp
end
def Es (H:Nat→Nat→Option Value) (cs:List kM) (vs:List Value):Prop:=cs.length=vs.length∧∀(i:Nat) (v:kM),cs[i]?=some v→v.mD=true∧rC H v (vs.getD i undef)
theorem Es.one {H:Nat→Nat→Option Value}{v:kM}{V:Value}(hk:v.mD=true) (h:rC H v V):Es H [v] [V] :=
 ⟨rfl,fun i u hu=>by cases i with
  | zero=>simp at hu; subst hu; exact⟨hk,h⟩
  | succ i=>simp at hu⟩
structure Rd (P:Program) (n:Nat) (t:TypeId) {α:Type}(encA:α→List kM) (wf:α→Prop):Prop where
 get:∀{H:Type}{enc:TypeId×Value→H}{w:World}{sp:Nat→Bool}{held:Bool}{fuel:Nat}{cs:List Value}{x:DataW H×List MemPlace},fuel≤n →
  DataW.trod enc P w 0 sp held fuel t cs=some x→∃a:α,wf a∧Es (gh w).H (encA a) cs
theorem Rd.str {P:Program}{n:Nat}{t:TypeId}(ht:P.underlying t=some .string):Rd P n t (fun z:List UInt8=>[.str z]) (fun z=>z.length≤maxLen):=by
 refine⟨?_⟩
 intro H enc w sp held fuel cs x _ h
 obtain⟨s,hx,_,hs⟩:=DataW.trod_string ht h
 refine⟨s.data.toList,by simpa using hs,?_⟩
 have:(⟨s.data.toList.toArray⟩:ByteArray)=s:=by cases s; simp
 rw [hx]
 have r:=rC.str (H:=(gh w).H) s.data.toList
 rw [this] at r
 exact .one rfl r
theorem Rd.arg {P:Program}{t:TypeId}{α:Type}{encA:α→kM}{wf:α→Prop}(r:∀n,Rd P n t (fun a=>[encA a]) wf) {H:Type}{enc:TypeId×Value→H}{w:World}{sp:Nat→Bool}{held:Bool}{v:Value}{d:DataW H}{ps:List MemPlace}
  (hv:∀C,v≠.agg C) (h:DataW.Trod enc P w 0 sp held t v d ps):∃a,wf a∧lM (gh w) [] (encA a) v:=by
 obtain⟨fuel,hf⟩:=h
 obtain⟨a,wa,ra⟩:=(r fuel).get (ac5 _) hf
 refine⟨a,wa,.p _ _ ?_⟩
 have:=(ra.2 0 _ rfl).2
 have hc:v.cells=#[v]:=by cases v <;> simp_all [Value.cells]
 rw [hc] at this
 simpa using this
end
section
open Go
attribute [simp] af4 Option.bind_none
theorem xZ {d:Nat}:uS none d=some d:=(rfl)
theorem p7 {k:IntKind}{n d:Nat}:uS (some (.int k (n:Int))) d=some n:=by simp [uS]
@[congr] theorem aDc {α β:Type}{x x':Option α}{f:α→Option β}(h:x=x'):x.bind f=x'.bind f:=by rw [h]
@[congr] theorem aoF {x x':Option (vG×kP)}{f g:kM→kP→Option R}(h:x=x'):kU x f g=kU x' f g:=by rw [h]
@[congr] theorem avJ {x x':Option (kM×kP)}{f:kM→kP→Option R}(h:x=x'):kQ x f=kQ x' f:=by rw [h]
@[congr] theorem ax4 {x x':kM}{t e:Option R}(h:x=x'):lF x t e=lF x' t e:=by rw [h]
@[congr] theorem amE {w:Bool}{x x':kM}{t e:Option R}(h:x=x'):lQ w x t e=lQ w x' t e:=by rw [h]
@[congr] theorem aw4 {x x':Ex}{t:Option R}{e:Ex→Option R}(h:x=x'):Ex.lV x t e=Ex.lV x' t e:=by rw [h]
@[congr] theorem apH {i:Nat}{x x':Ex}{t:Option R}{e:Ex→Option R}(h:x=x'):Ex.inBlock i x t e=Ex.inBlock i x' t e:=by rw [h]
@[congr] theorem aFR {x x':Ex}{t:Option R}(h:x=x'):Ex.uC x t=Ex.uC x' t:=by rw [h]
@[congr] theorem aDm {x x':Ex}{t:Option (vG×kP)}{tp:kM→Option (vG×kP)}(h:x=x'):Ex.uZ x t tp=Ex.uZ x' t tp:=by rw [h]
@[congr] theorem aDk {x x':Ex}{t:Option (vG×kP)}(h:x=x'):Ex.nA x t=Ex.nA x' t:=by rw [h]
@[congr] theorem aDi {α:Type}{x x':Bool}{t e:α}(h:x=x'):cond x t e=cond x' t e:=by rw [h]
@[congr] theorem aDr {f g:kM→kP→Option R}{x x':R}(h:x=x'):nT f g x=nT f g x':=by rw [h]
section
variable {k k':IntKind}{a b:Int}{x y:Bool}{s t:List UInt8}{v w:kM}{h:kP}{m:Nat}
@[simp] theorem aEf:kV .add (.int k a) (.int k b)=some (.int k (k.wrap (a+b))):=by simp [kV]
@[simp] theorem aEm:kV .sub (.int k a) (.int k b)=some (.int k (k.wrap (a - b))):=by simp [kV]
@[simp] theorem aEk:kV .mul (.int k a) (.int k b)=some (.int k (k.wrap (a * b))):=by simp [kV]
@[simp] theorem aEg:kV .eql (.int k a) (.int k b)=some (.bool (decide (a=b))):=by simp [kV]; rfl
@[simp] theorem aEl:kV .neq (.int k a) (.int k b)=some (.bool (!decide (a=b))):=by simp [kV,bne]; rfl
@[simp] theorem afE:kV .lss (.int k a) (.int k b)=some (.bool (decide (a < b))):=by simp [kV]
@[simp] theorem aEj:kV .leq (.int k a) (.int k b)=some (.bool (decide (a≤b))):=by simp [kV]
@[simp] theorem aEi:kV .gtr (.int k a) (.int k b)=some (.bool (decide (b < a))):=by simp [kV]
@[simp] theorem aEh:kV .geq (.int k a) (.int k b)=some (.bool (decide (b≤a))):=by simp [kV]
@[simp] theorem PX:kV .add (.str s) (.str t)=if s.length+t.length≤4611686018427387904 then some (.str (s++t)) else none:=(rfl)
@[simp] theorem aC1:kV .eql (.str s) (.str t)=some (.bool (decide (s=t))):=by
 have:(s == t)=decide (s=t):=by by_cases h:s=t <;> simp [h]
 simp [kV,this]
@[simp] theorem aC2:kV .neq (.str s) (.str t)=some (.bool (!decide (s=t))):=by
 have:(s == t)=decide (s=t):=by by_cases h:s=t <;> simp [h]
 simp [kV,this]
@[simp] theorem aHE:vT .not (.bool x)=some (.bool (!x)):=(rfl)
@[simp] theorem an4:vR k (.int k' a)=some (.int k (k.wrap a)):=(rfl)
@[simp] theorem ayB:lN (.bool x) v w=some (bif x then v else w):=(rfl)
@[simp] theorem aC7:Ho (.int k a) (.int k' b)=some (.int k (min a b)):=by
 simp only [Ho,ab0,kM.int.injEq,true_and]
 by_cases h:b < a <;> simp [h] <;> omega
@[simp] theorem aC6:CS (.int k a) (.int k' b)=some (.int k (max a b)):=by
 simp only [CS,ab0,kM.int.injEq,true_and]
 by_cases h:b > a <;> simp [h] <;> omega
@[simp] theorem an7 {rows:List (List kM)}{t:Tok}:mN (.slice rows t)=some (.int .i64 rows.length):=(rfl)
@[simp] theorem au5:nQ (.str s)=some (.int .i64 s.length):=(rfl)
@[simp] theorem Gt {t e:Option R}:lF (.bool x) t e=bif x then t else e:=(rfl)
@[simp] theorem amF {run skip:Option R}:lQ true (.bool x) run skip=bif x then run else skip:=(rfl)
@[simp] theorem ag6 {run skip:Option R}:lQ false (.bool x) run skip=bif x then skip else run:=(rfl)
@[simp] theorem ag7 {g:Bool}{run skip:Option R}:lQ g (.tuple []) run skip=skip:=(rfl)
@[simp] theorem avY {kv kp:kM→kP→Option R}:nT kv kp (.normal,[v],h)=kv v h:=(rfl)
@[simp] theorem aJ3:nM v h=some (.normal,[v],h):=(rfl)
@[simp] theorem T6 {kv kp:kM→kP→Option R}:kU (some (.ret v,h)) kv kp=kv v h:=(rfl)
@[simp] theorem Ko {kv:kM→kP→Option R}:kQ (some (v,h)) kv=kv v h:=(rfl)
@[simp] theorem oA {kn:Option R}{ke:Ex→Option R}:Ex.lV .normal kn ke=kn:=(rfl)
@[simp] theorem aCA {kn:Option R}{ke:Ex→Option R}:Ex.lV .ret kn ke=ke .ret:=(rfl)
@[simp] theorem VH {i:Nat}{kn:Option R}{ke:Ex→Option R}:Ex.lV (.exit i) kn ke=ke (.exit i):=(rfl)
@[simp] theorem aBK {kn:Option R}:Ex.uC .normal kn=kn:=(rfl)
@[simp] theorem ahK {i:Nat}{kn:Option R}{ke:Ex→Option R}:Ex.inBlock i .normal kn ke=kn:=(rfl)
@[simp] theorem av5 {i:Nat}{kn:Option R}{ke:Ex→Option R}:Ex.inBlock i .ret kn ke=ke .ret:=(rfl)
@[simp] theorem R2 {i j:Nat}{kn:Option R}{ke:Ex→Option R}:Ex.inBlock i (.exit j) kn ke=bif j == i then kn else ke (.exit j):=(rfl)
@[simp] theorem avS {x:Option (vG×kP)}:Ex.nA .normal x=x:=(rfl)
@[simp] theorem avI {v:kM}{h:kP}{kv kp:kM→kP→Option R}:kU (some (.pan v,h)) kv kp=kp v h:=(rfl)
@[simp] theorem aEX {v:kM}{l:List kM}{h:kP}{kv kp:kM→kP→Option R}:nT kv kp (.pan v,l,h)=kp v h:=by cases l <;> rfl
@[simp] theorem aHW {v:kM}{h:kP}:yS v h=some (.pan v,[],h):=(rfl)
@[simp] theorem aCz {v:kM}{kn:Option R}{ke:Ex→Option R}:Ex.lV (.pan v) kn ke=ke (.pan v):=(rfl)
@[simp] theorem av4 {id:Nat}{v:kM}{kn:Option R}{ke:Ex→Option R}:Ex.inBlock id (.pan v) kn ke=ke (.pan v):=(rfl)
@[simp] theorem avU {x:Option (vG×kP)}{xp:kM→Option (vG×kP)}:Ex.uZ .normal x xp=x:=(rfl)
@[simp] theorem aEU {x:Option (vG×kP)}{xp:kM→Option (vG×kP)}:Ex.uZ .ret x xp=x:=(rfl)
@[simp] theorem aET {v:kM}{x:Option (vG×kP)}{xp:kM→Option (vG×kP)}:Ex.uZ (.pan v) x xp=xp v:=(rfl)
@[simp] theorem aEQ {x:Option R}{xp:kM→Option R}:Ex.Rx .ret x xp=x:=(rfl)
@[simp] theorem aEP {v:kM}{x:Option R}{xp:kM→Option R}:Ex.Rx (.pan v) x xp=xp v:=(rfl)
@[simp] theorem avT {x:Option kP}:Ex.Wu .normal x=x:=(rfl)
@[simp] theorem adX {t:Nat}{z:kM}:zO t z .niliface=some (.tuple [z,.bool false]):=(rfl)
@[simp] theorem Yr {t t':Nat}{z w:kM}:zO t z (.iface t' w)=some (bif t' == t then .tuple [w,.bool true] else .tuple [z,.bool false]):=(rfl)
@[congr] theorem aDj {x x':Ex}{t:Option R}{tp:kM→Option R}(h:x=x'):Ex.Rx x t tp=Ex.Rx x' t tp:=by rw [h]
@[congr] theorem aDl {x x':Ex}{t:Option kP}(h:x=x'):Ex.Wu x t=Ex.Wu x' t:=by rw [h]
@[congr] theorem aFK {α β:Type}{x x':Option α}{f:α→β}(h:x=x'):x.map f=x'.map f:=by rw [h]
@[simp] theorem aER {x:Option (vG×kP)}:Ex.nA .ret x=x:=(rfl)
@[simp] theorem atJ:kM.vM m h (.int k a)=.int k a:=(rfl)
@[simp] theorem akE:kM.vM m h (.bool x)=.bool x:=(rfl)
@[simp] theorem aIo:kM.vM m h (.str s)=.str s:=(rfl)
@[simp] theorem aDP {rows:List (List kM)}:kM.vM m h (.slice rows .no)=.slice rows .no:=(rfl)
@[simp] theorem aDQ:kM.vM m h (.tuple [])=.tuple []:=(rfl)
@[simp] theorem aIn {rows:List (List kM)}{id:Nat}:kM.vM m h (.slice rows (.own id))=bif decide (id < m) then .slice rows (.own id) else .slice rows .no:=(rfl)
@[simp] theorem aIl {cs:List kM}:kM.vM m h (.agg cs)=.agg (cs.map (·.mO m h)):=(rfl)
@[simp] theorem aGG:kM.mO m h (.int k a)=.int k a:=(rfl)
@[simp] theorem aDN:kM.mO m h (.bool x)=.bool x:=(rfl)
@[simp] theorem aGJ:kM.mO m h (.str s)=.str s:=(rfl)
@[simp] theorem aCj {rows:List (List kM)}:kM.mO m h (.slice rows .no)=.slice rows .no:=(rfl)
@[simp] theorem aGI:kM.mO m h (.slice [] .nil)=.slice [] .nil:=(rfl)
@[simp] theorem Vm {rows:List (List kM)}{id:Nat}:kM.mO m h (.slice rows (.own id))=bif decide (id < m) then .slice rows (.own id) else .slice rows .no:=(rfl)
@[simp] theorem aCl {v w:kM}:kM.vM m h (.tuple [v,w])=.tuple [(match v with | .agg cs=>.agg (cs.map (·.mO m h)) | v=>v.mO m h),(match w with | .agg cs=>.agg (cs.map (·.mO m h)) | v=>v.mO m h)]:=(rfl)
@[simp] theorem aDW:kM.mV (.int k a)=.int k a:=(rfl)
@[simp] theorem aCJ:kM.mV (.bool x)=.bool x:=(rfl)
@[simp] theorem aDZ:kM.mV (.str s)=.str s:=(rfl)
@[simp] theorem axB {rows:List (List kM)}{t:Tok}:kM.mV (.slice rows t)=.slice rows .no:=(rfl)
@[simp] theorem axC:kM.mV (.tuple [])=.tuple []:=(rfl)
@[simp] theorem aDV {cs:List kM}:kM.mV (.agg cs)=.agg (cs.map kM.uH):=(rfl)
@[simp] theorem aCH:kM.uH (.int k a)=.int k a:=(rfl)
@[simp] theorem axA:kM.uH (.bool x)=.bool x:=(rfl)
@[simp] theorem aCI:kM.uH (.str s)=.str s:=(rfl)
@[simp] theorem auH {rows:List (List kM)}{t:Tok}:kM.uH (.slice rows t)=.slice rows .no:=(rfl)
@[simp] theorem auI {v w:kM}:kM.mV (.tuple [v,w])=.tuple [(match v with | .agg cs=>.agg (cs.map kM.uH) | v=>v.uH),(match w with | .agg cs=>.agg (cs.map kM.uH) | v=>v.uH)]:=(rfl)
theorem XL {bs:kP}:l9 0 bs=some []:=by simp [l9,nK]
@[simp] theorem aCG {bs:kP}:l9 0 bs=some []:=XL
@[simp] theorem ao1 {m:Nat}{h:kP}:Ex.vM m h .normal=.normal:=(rfl)
@[simp] theorem aDq {m:Nat}{h:kP}:Ex.vM m h .ret=.ret:=(rfl)
@[simp] theorem Wy {m:Nat}{h:kP}{id:Nat}:Ex.vM m h (.exit id)=.exit id:=(rfl)
@[simp] theorem aDp {m:Nat}{h:kP}{v:kM}:Ex.vM m h (.pan v)=.pan (v.vM m h):=(rfl)
theorem nS {e:Ex}{vs:List kM}:kS 0 e vs h=some (e.vM 0 h,vs.map (·.vM 0 h),[]):=by simp [kS]
theorem kN:lY 0 v h=some (.ret (v.vM 0 h).mV,[]):=by simp [lY]
def qL (h:kP) (id:Nat):Bool:=match h[id]? with
 | some (.front 0 0)=>true
 | _=>false
@[simp] theorem apM {r:kP}:qL (.front 0 0::r) 0=true:=(rfl)
@[simp] theorem apL {b:lE}{r:kP}{n:Nat}:qL (b::r) (n+1)=qL r n:=(rfl)
@[simp] theorem av0 {cs:List kM}{r:kP}:mY (.cells cs::r) 0=some cs:=(rfl)
@[simp] theorem avZ {b:lE}{r:kP}{n:Nat}:mY (b::r) (n+1)=mY r n:=(rfl)
@[simp] theorem aaQ {n id off:Nat}:kT false n h (.ptr id off)=(mY h id).bind fun cs=>cs[off]?:=by
 simp only [kT,apart,cond_false]; cases mY h id <;> rfl
@[simp] theorem Wi {n id off:Nat}:kT true n h (.ptr id off)=(mY h id).bind fun cs=>if off+n≤cs.length then some (.agg ((cs.drop off).take n)) else none:=by
 simp only [kT,apart,cond_true]; cases mY h id <;> rfl
@[simp] theorem D1 {n id off:Nat}:kR n h (.ptr id off) v=(mY h id).bind fun cs=>if v.cells.length=n∧off+n≤cs.length∧v.cells.all kM.mD then some (h.set id (.cells (putCells cs off (pV h (cs.drop off) v.cells)))) else none:=by
 simp only [kR]; cases mY h id <;> rfl
@[simp] theorem apQ {os:List kM}:pV h os []=[]:=by cases os <;> rfl
@[simp] theorem R3 {o:kM}{os vs:List kM}:pV h (o::os) (v::vs)=yX h o v::pV h os vs:=(rfl)
@[simp] theorem aDv {o:kM}:yX h o (.int k a)=.int k a:=(rfl)
@[simp] theorem az8 {o:kM}:yX h o (.bool x)=.bool x:=(rfl)
@[simp] theorem aDz {o:kM}:yX h o (.str s)=.str s:=(rfl)
@[simp] theorem aDw {o:kM}{i:Nat}:yX h o (.map i)=.map i:=(rfl)
@[simp] theorem aE7 {o:kM}{rows:List (List kM)}:yX h o (.slice rows .no)=.slice rows .no:=by cases rows <;> rfl
@[simp] theorem aDx {o:kM}{rows:List (List kM)}{id:Nat}:yX h o (.slice rows (.own id))=.slice rows (.own id):=by cases rows <;> rfl
@[simp] theorem abU {id:Nat}:yX h (.slice [] (.own id)) (.slice [] .nil)=bif qL h id then .slice [] (.own id) else .slice [] .nil:=by
 have e:yX h (.slice [] (.own id)) (.slice [] .nil)=match h[id]? with | some (.front 0 0)=>.slice [] (.own id) | _=>.slice [] .nil:=(rfl)
 rw [e]
 unfold qL
 split <;> rfl
@[simp] theorem WT {rows:List (List kM)}:yX h (.slice rows .no) (.slice [] .nil)=.slice [] .nil:=by cases rows <;> rfl
theorem rA:∀{vs os:List kM},(∀c∈vs,c.isNil=false)→pV h os vs=vs
 | [],_,_=>by simp
 | v::vs,[],_=>rfl
 | v::vs,o::os,hn=>by
  have h1:=hn v (by simp)
  simp only [R3,yX,h1,cond_false]
  rw [rA fun c hc=>hn c (by simp [hc])]
@[simp] theorem an5 {id o off:Nat}:kO off (.ptr id o)=some (.ptr id (o+off)):=(rfl)
@[simp] theorem al2 {cs:List kM}{off:Nat}:kO off (.pptr cs)=some (.pptr (cs.drop off)):=(rfl)
@[simp] theorem al8 {id off:Nat}:kZ (.ptr id off)=some (.ptr id off):=(rfl)
@[simp] theorem aDe:kM.cells (.int k a)=[.int k a]:=(rfl)
@[simp] theorem ay9:kM.cells (.bool x)=[.bool x]:=(rfl)
@[simp] theorem aDh:kM.cells (.str s)=[.str s]:=(rfl)
@[simp] theorem avO {rows:List (List kM)}{t:Tok}:kM.cells (.slice rows t)=[.slice rows t]:=(rfl)
@[simp] theorem Fz {cs:List kM}:kM.cells (.agg cs)=cs:=(rfl)
@[simp] theorem aDf {i:Nat}:kM.cells (.map i)=[.map i]:=(rfl)
@[simp] theorem ay4:kM.mD (.int k a)=true:=(rfl)
@[simp] theorem avM:kM.mD (.bool x)=true:=(rfl)
@[simp] theorem ay7:kM.mD (.str s)=true:=(rfl)
@[simp] theorem Rp {rows:List (List kM)}{t:Tok}:kM.mD (.slice rows t)=true:=(rfl)
@[simp] theorem ay5 {i:Nat}:kM.mD (.map i)=true:=(rfl)
@[simp] theorem az3:kM.pL (.int k a)=false:=(rfl)
@[simp] theorem av8:kM.pL (.bool x)=false:=(rfl)
@[simp] theorem az5:kM.pL (.str s)=false:=(rfl)
@[simp] theorem apN {rows:List (List kM)}{t:Tok}:kM.pL (.slice rows t)=false:=(rfl)
@[simp] theorem az2 {cs:List kM}:kM.pL (.agg cs)=false:=(rfl)
@[simp] theorem az4 {i:Nat}:kM.pL (.map i)=false:=(rfl)
@[simp] theorem aGH {i:Nat}:kM.mO m h (.map i)=bif decide (i < m) then .map i else .junk:=(rfl)
@[simp] theorem atK {i o:Nat}:kM.vM m h (.ptr i o)=kM.mO m h (.ptr i o):=(rfl)
theorem lC {i o:Nat}(hi:i < m):kM.mO m h (.ptr i o)=.ptr i o:=by simp [kM.mO,hi]
theorem uB {i o:Nat}(hi:i < m):kM.vM m h (.ptr i o)=.ptr i o:=by rw [atK,lC hi]
@[simp] theorem aDY {i o:Nat}:kM.mV (.ptr i o)=.ptr i o:=(rfl)
@[simp] theorem SM:nI m h []=some []:=(rfl)
@[simp] theorem tK {cs:List kM}:nI m h (v::cs)=bif (v.mO m h).mD then(nI m h cs).map (v.mO m h::·) else none:=by
 simp only [nI]; cases nI m h cs <;> rfl
@[simp] theorem Io {cs:List kM}:pF m h (.cells cs)=(nI m h cs).map .cells:=(rfl)
@[simp] theorem SL {i j:Nat}:pF m h (.front i j)=some (.front i j):=(rfl)
@[simp] theorem awT:nK m h []=some []:=(rfl)
@[simp] theorem oM {b:lE}{bs:kP}:nK m h (b::bs)=(pF m h b).bind fun b'=>(nK m h bs).map (b'::·):=by
 simp only [nK]; cases pF m h b <;> cases nK m h bs <;> rfl
@[simp] theorem Gf {i:Nat}:m_ (.str s) (.int k (i:Int))=(s[i]?).map fun b=>.int .u8 b.toNat:=by simp [m_]
@[simp] theorem afG:m_ (.str s) (.int k 0)=(s[0]?).map fun b=>.int .u8 b.toNat:=by simp [m_]
theorem qH {lo hi:Option kM}{l u:Nat}(hl:uS lo 0=some l) (hu:uS hi s.length=some u) (h1:l≤u) (h2:u≤s.length):oK (.str s) lo hi=some (.str ((s.drop l).take (u - l))):=by
 simp [oK,hl,hu,h1,h2]
@[simp] theorem afF {i:Nat}{vs:List kM}:lH i (.tuple vs)=vs[i]?:=(rfl)
end
theorem wrap64 {n:Int}(h1:-9223372036854775808≤n) (h2:n≤9223372036854775807):IntKind.wrap .i64 n=n:=by
 simp [IntKind.wrap,IntKind.signed,IntKind.bits]
 split <;> omega
@[simp] theorem Hm {α:Type}{enc:α→List kM}{sz:Nat}{xs:List α}{t:Tok}{k:IntKind}{i:Nat} :
  kX sz (.slice (xs.map enc) t) (.int k (i:Int))=(xs[i]?).bind fun x=>if (enc x).length=sz then some (.pptr (enc x)) else none:=by
 simp only [kX,Int.natCast_nonneg,if_true,Int.toNat_natCast,ai1]
 cases xs[i]? <;> rfl
theorem nZ {sz:Nat}{rows:List (List kM)}{t:Tok}{k:IntKind}{n:Int}:kX sz (.slice rows t) (.int k n)=if 0≤n then(rows[n.toNat]?).bind fun row=>if row.length=sz then some (.pptr row) else none else none:=by
 simp only [kX]
 split
 ·cases rows[n.toNat]? <;> rfl
 ·rfl
@[simp] theorem Wh {n:Nat}{h:kP}{cs:List kM}:kT true n h (.pptr cs)=if n≤cs.length then some (.agg (cs.take n)) else none:=by
 simp [kT,apart]
@[simp] theorem au6 {n:Nat}{h:kP}{cs:List kM}:kT false n h (.pptr cs)=cs[0]?:=by
 simp [kT,apart]
theorem Hq {α:Type}{enc:α→List kM}{sz:Nat}{xs:List α}{t:Tok}{lo hi:Option kM}{l u:Nat}(hs:∀x,(enc x).length=sz) (hl:uS lo 0=some l) (hu:uS hi xs.length=some u) (h1:l≤u) (h2:u≤xs.length) :
  uT sz (.slice (xs.map enc) t) lo hi=some (.slice (((xs.drop l).take (u - l)).map enc) .no):=by
 have:((xs.map enc).all fun r=>r.length == sz)=true:=by simp [hs]
 simp only [uT,al0,hl,hu,h1,h2,this,and_self,if_true,List.map_take,List.map_drop]
theorem k9 {P:Program}{A:CF}{f:Nat}{args:List kM}{h:kP}{m:Option (vG×kP)}{r:vG×kP}(he:o6 P A mI (MO P A) f args h=m) (hm:m=some r):MO P A f args h=some r:=agL (he.trans hm)
theorem lA {A:CF}{K:lB}{f:Nat}{args:List kM}{h:kP}{v:kM}(hp:A.pure f=true) (hs:args.all (kM.nP 0)=true) (hk:K f args []=some (.ret v,[])):lT A K f args h=some (.ret v,h):=by
 simp [lT,hp,hs,hk,Fe]
theorem tN {F:List kM×kP→Option R}{σ:Type}(enc:σ→List kM×kP) (inv:σ→Prop) (μ:σ→Nat) (out:σ→R)
  (h:∀s,inv s→(∃s',F (enc s)=some (.normal,enc s')∧inv s'∧μ s' < μ s∧out s'=out s)∨(F (enc s)=some (out s)∧(out s).1≠.normal)):∀s,inv s→mI F (enc s)=some (out s):=by
 have key:∀n s,μ s=n→inv s→mI F (enc s)=some (out s):=by
  intro n
  induction n using Nat.strongRecOn with
  | _ n ih =>
   intro s hn hi
   rw [lZ]
   rcases h s hi with ⟨s',e1,e2,e3,e4⟩ | ⟨e1,e2⟩
   ·rw [e1]
    simp only [af4,oA]
    rw [ih (μ s') (by omega) s' rfl e2,e4]
   ·rw [e1]
    generalize out s=r at e2
    obtain⟨e,l⟩:=r
    cases e <;> first | exact absurd rfl e2 | rfl
 exact fun s hi=>key (μ s) s rfl hi
end
section
open Go
section
variable {k k':IntKind}{a b:Int}{h:kP}{m n id tot off len sz:Nat}{v w:kM}{cs:List kM}
end
noncomputable section
def sM {α:Type}(s:List kM×kP) (k:kM→kP→α):α:=k (ad1 s.1 0 .junk) s.2
def wN {α:Type}(s:List kM×kP) (k:kM→kM→kP→α):α:=k (ad1 s.1 0 .junk) (ad1 s.1 1 .junk) s.2
def AE {α:Type}(s:List kM×kP) (k:kM→kM→kM→kP→α):α:=k (ad1 s.1 0 .junk) (ad1 s.1 1 .junk) (ad1 s.1 2 .junk) s.2
def B9 {α:Type}(s:List kM×kP) (k:kM→kM→kM→kM→kP→α):α:=k (ad1 s.1 0 .junk) (ad1 s.1 1 .junk) (ad1 s.1 2 .junk) (ad1 s.1 3 .junk) s.2
def EB {α:Type}(s:List kM×kP) (k:kM→kM→kM→kM→kM→kP→α):α:=k (ad1 s.1 0 .junk) (ad1 s.1 1 .junk) (ad1 s.1 2 .junk) (ad1 s.1 3 .junk) (ad1 s.1 4 .junk) s.2
def BE {α:Type}(s:List kM×kP) (k:kM→kM→kM→kM→kM→kM→kP→α):α:=k (ad1 s.1 0 .junk) (ad1 s.1 1 .junk) (ad1 s.1 2 .junk) (ad1 s.1 3 .junk) (ad1 s.1 4 .junk) (ad1 s.1 5 .junk) s.2
def uq7 {α:Type}(s:List kM×kP) (k:kM→kM→kM→kM→kM→kM→kM→kP→α):α:=k (ad1 s.1 0 .junk) (ad1 s.1 1 .junk) (ad1 s.1 2 .junk) (ad1 s.1 3 .junk) (ad1 s.1 4 .junk) (ad1 s.1 5 .junk) (ad1 s.1 6 .junk) s.2
def uq8 {α:Type}(s:List kM×kP) (k:kM→kM→kM→kM→kM→kM→kM→kM→kP→α):α:=k (ad1 s.1 0 .junk) (ad1 s.1 1 .junk) (ad1 s.1 2 .junk) (ad1 s.1 3 .junk) (ad1 s.1 4 .junk) (ad1 s.1 5 .junk) (ad1 s.1 6 .junk) (ad1 s.1 7 .junk) s.2
def uq9 {α:Type}(s:List kM×kP) (k:kM→kM→kM→kM→kM→kM→kM→kM→kM→kP→α):α:=k (ad1 s.1 0 .junk) (ad1 s.1 1 .junk) (ad1 s.1 2 .junk) (ad1 s.1 3 .junk) (ad1 s.1 4 .junk) (ad1 s.1 5 .junk) (ad1 s.1 6 .junk) (ad1 s.1 7 .junk) (ad1 s.1 8 .junk) s.2
def auK {α:Type}(s:List kM×kP) (k:kM→kM→kM→kM→kM→kM→kM→kM→kM→kM→kP→α):α:=k (ad1 s.1 0 .junk) (ad1 s.1 1 .junk) (ad1 s.1 2 .junk) (ad1 s.1 3 .junk) (ad1 s.1 4 .junk) (ad1 s.1 5 .junk) (ad1 s.1 6 .junk) (ad1 s.1 7 .junk) (ad1 s.1 8 .junk) (ad1 s.1 9 .junk) s.2
def aLg {α:Type}(s:List kM×kP) (k:kM→kM→kM→kM→kM→kM→kM→kM→kM→kM→kM→kP→α):α:=k (ad1 s.1 0 .junk) (ad1 s.1 1 .junk) (ad1 s.1 2 .junk) (ad1 s.1 3 .junk) (ad1 s.1 4 .junk) (ad1 s.1 5 .junk) (ad1 s.1 6 .junk) (ad1 s.1 7 .junk) (ad1 s.1 8 .junk) (ad1 s.1 9 .junk) (ad1 s.1 10 .junk) s.2
def aLh {α:Type}(s:List kM×kP) (k:kM→kM→kM→kM→kM→kM→kM→kM→kM→kM→kM→kM→kP→α):α:=k (ad1 s.1 0 .junk) (ad1 s.1 1 .junk) (ad1 s.1 2 .junk) (ad1 s.1 3 .junk) (ad1 s.1 4 .junk) (ad1 s.1 5 .junk) (ad1 s.1 6 .junk) (ad1 s.1 7 .junk) (ad1 s.1 8 .junk) (ad1 s.1 9 .junk) (ad1 s.1 10 .junk) (ad1 s.1 11 .junk) s.2
def gq (b:Bool) (t:kM) (x:Option R) (h:kP) (k:kM→kP→Option R):Option R:=(lQ b t x (nM (.tuple []) h)).bind (nT k (fun _ _=>none))
def kq0 (K:lB) (f:Nat) (h:kP) (k:kM→kP→Option R):Option R:=kU (K f [] h) k (fun _ _=>none)
def qX (K:lB) (f:Nat) (a:kM) (h:kP) (k:kM→kP→Option R):Option R:=kU (K f [(a.mV)] h) k (fun _ _=>none)
def o_ (K:lB) (f:Nat) (a b:kM) (h:kP) (k:kM→kP→Option R):Option R:=kU (K f [(a.mV),(b.mV)] h) k (fun _ _=>none)
def kq3 (K:lB) (f:Nat) (a b c:kM) (h:kP) (k:kM→kP→Option R):Option R:=kU (K f [(a.mV),(b.mV),(c.mV)] h) k (fun _ _=>none)
def kq4 (K:lB) (f:Nat) (a b c d:kM) (h:kP) (k:kM→kP→Option R):Option R:=kU (K f [(a.mV),(b.mV),(c.mV),(d.mV)] h) k (fun _ _=>none)
def kq5 (K:lB) (f:Nat) (a b c d e:kM) (h:kP) (k:kM→kP→Option R):Option R:=kU (K f [(a.mV),(b.mV),(c.mV),(d.mV),(e.mV)] h) k (fun _ _=>none)
def fq {α:Type}(i:Nat) (x:kM) (h:kP) (k:kM→Option α):Option α:=(kO i x).bind fun t=>(kT false 1 h t).bind k
abbrev OH:=Option (vG×kP)
abbrev St:=List kM×kP
def iq (n:Int):kM:=.int .i64 n
def lG (b:Bool) (t:kM) (x:Option kM) (h:kP) (k:kM→kP→Option R):Option R:=(lQ b t (x.bind fun v=>nM v h) (nM (.tuple []) h)).bind (nT k (fun _ _=>none))
def yK (K:lB) (f:Nat) (a:kM) (h:kP):Option (vG×kP):=K f [(a.mV)] h
def rR (K:lB) (f:Nat) (a b:kM) (h:kP):Option (vG×kP):=K f [(a.mV),(b.mV)] h
def Bv (K:lB) (f:Nat) (a b c:kM) (h:kP):Option (vG×kP):=K f [(a.mV),(b.mV),(c.mV)] h
def uk4 (K:lB) (f:Nat) (a b c d:kM) (h:kP):Option (vG×kP):=K f [(a.mV),(b.mV),(c.mV),(d.mV)] h
def uk5 (K:lB) (f:Nat) (a b c d e:kM) (h:kP):Option (vG×kP):=K f [(a.mV),(b.mV),(c.mV),(d.mV),(e.mV)] h
def aq (o:BinOp) (x y:kM) (a b:Option R):Option R:=(kV o x y).bind fun t=>lF t a b
end
@[simp ↓] theorem ON {α:Type}{s:List kM×kP}{k:kM→kP→α}:sM s k=k (ad1 s.1 0 .junk) s.2:=(rfl)
@[simp ↓] theorem OO {α:Type}{s:List kM×kP}{k:kM→kM→kP→α}:wN s k=k (ad1 s.1 0 .junk) (ad1 s.1 1 .junk) s.2:=(rfl)
@[simp ↓] theorem OP {α:Type}{s:List kM×kP}{k:kM→kM→kM→kP→α}:AE s k=k (ad1 s.1 0 .junk) (ad1 s.1 1 .junk) (ad1 s.1 2 .junk) s.2:=(rfl)
@[simp ↓] theorem OQ {α:Type}{s:List kM×kP}{k:kM→kM→kM→kM→kP→α}:B9 s k=k (ad1 s.1 0 .junk) (ad1 s.1 1 .junk) (ad1 s.1 2 .junk) (ad1 s.1 3 .junk) s.2:=(rfl)
@[simp ↓] theorem OR {α:Type}{s:List kM×kP}{k:kM→kM→kM→kM→kM→kP→α}:EB s k=k (ad1 s.1 0 .junk) (ad1 s.1 1 .junk) (ad1 s.1 2 .junk) (ad1 s.1 3 .junk) (ad1 s.1 4 .junk) s.2:=(rfl)
@[simp ↓] theorem OS {α:Type}{s:List kM×kP}{k:kM→kM→kM→kM→kM→kM→kP→α}:BE s k=k (ad1 s.1 0 .junk) (ad1 s.1 1 .junk) (ad1 s.1 2 .junk) (ad1 s.1 3 .junk) (ad1 s.1 4 .junk) (ad1 s.1 5 .junk) s.2:=(rfl)
@[simp ↓] theorem alA {α:Type}{s:List kM×kP}{k:kM→kM→kM→kM→kM→kM→kM→kP→α}:uq7 s k=k (ad1 s.1 0 .junk) (ad1 s.1 1 .junk) (ad1 s.1 2 .junk) (ad1 s.1 3 .junk) (ad1 s.1 4 .junk) (ad1 s.1 5 .junk) (ad1 s.1 6 .junk) s.2:=(rfl)
@[simp ↓] theorem alB {α:Type}{s:List kM×kP}{k:kM→kM→kM→kM→kM→kM→kM→kM→kP→α}:uq8 s k=k (ad1 s.1 0 .junk) (ad1 s.1 1 .junk) (ad1 s.1 2 .junk) (ad1 s.1 3 .junk) (ad1 s.1 4 .junk) (ad1 s.1 5 .junk) (ad1 s.1 6 .junk) (ad1 s.1 7 .junk) s.2:=(rfl)
@[simp ↓] theorem aLi {α:Type}{s:List kM×kP}{k:kM→kM→kM→kM→kM→kM→kM→kM→kM→kP→α}:uq9 s k=k (ad1 s.1 0 .junk) (ad1 s.1 1 .junk) (ad1 s.1 2 .junk) (ad1 s.1 3 .junk) (ad1 s.1 4 .junk) (ad1 s.1 5 .junk) (ad1 s.1 6 .junk) (ad1 s.1 7 .junk) (ad1 s.1 8 .junk) s.2:=(rfl)
@[simp ↓] theorem aIu {α:Type}{s:List kM×kP}{k:kM→kM→kM→kM→kM→kM→kM→kM→kM→kM→kP→α}:auK s k=k (ad1 s.1 0 .junk) (ad1 s.1 1 .junk) (ad1 s.1 2 .junk) (ad1 s.1 3 .junk) (ad1 s.1 4 .junk) (ad1 s.1 5 .junk) (ad1 s.1 6 .junk) (ad1 s.1 7 .junk) (ad1 s.1 8 .junk) (ad1 s.1 9 .junk) s.2:=(rfl)
@[simp ↓] theorem aIv {α:Type}{s:List kM×kP}{k:kM→kM→kM→kM→kM→kM→kM→kM→kM→kM→kM→kP→α}:aLg s k=k (ad1 s.1 0 .junk) (ad1 s.1 1 .junk) (ad1 s.1 2 .junk) (ad1 s.1 3 .junk) (ad1 s.1 4 .junk) (ad1 s.1 5 .junk) (ad1 s.1 6 .junk) (ad1 s.1 7 .junk) (ad1 s.1 8 .junk) (ad1 s.1 9 .junk) (ad1 s.1 10 .junk) s.2:=(rfl)
@[simp ↓] theorem aIw {α:Type}{s:List kM×kP}{k:kM→kM→kM→kM→kM→kM→kM→kM→kM→kM→kM→kM→kP→α}:aLh s k=k (ad1 s.1 0 .junk) (ad1 s.1 1 .junk) (ad1 s.1 2 .junk) (ad1 s.1 3 .junk) (ad1 s.1 4 .junk) (ad1 s.1 5 .junk) (ad1 s.1 6 .junk) (ad1 s.1 7 .junk) (ad1 s.1 8 .junk) (ad1 s.1 9 .junk) (ad1 s.1 10 .junk) (ad1 s.1 11 .junk) s.2:=(rfl)
@[simp ↓] theorem Up {b:Bool}{t:kM}{x:Option R}{h:kP}{k:kM→kP→Option R}:gq b t x h k=(lQ b t x (nM (.tuple []) h)).bind (nT k (fun _ _=>none)):=(rfl)
@[simp ↓] theorem aJZ {K:lB}{f:Nat}{h:kP}{k:kM→kP→Option R}:kq0 K f h k=kU (K f [] h) k (fun _ _=>none):=(rfl)
@[simp ↓] theorem Nh {K:lB}{f:Nat}{a:kM}{h:kP}{k:kM→kP→Option R}:qX K f a h k=kU (K f [(a.mV)] h) k (fun _ _=>none):=(rfl)
@[simp ↓] theorem Ni {K:lB}{f:Nat}{a b:kM}{h:kP}{k:kM→kP→Option R}:o_ K f a b h k=kU (K f [(a.mV),(b.mV)] h) k (fun _ _=>none):=(rfl)
@[simp ↓] theorem aJ0 {K:lB}{f:Nat}{a b c:kM}{h:kP}{k:kM→kP→Option R}:kq3 K f a b c h k=kU (K f [(a.mV),(b.mV),(c.mV)] h) k (fun _ _=>none):=(rfl)
@[simp ↓] theorem aJ1 {K:lB}{f:Nat}{a b c d:kM}{h:kP}{k:kM→kP→Option R}:kq4 K f a b c d h k=kU (K f [(a.mV),(b.mV),(c.mV),(d.mV)] h) k (fun _ _=>none):=(rfl)
@[simp ↓] theorem aJ2 {K:lB}{f:Nat}{a b c d e:kM}{h:kP}{k:kM→kP→Option R}:kq5 K f a b c d e h k=kU (K f [(a.mV),(b.mV),(c.mV),(d.mV),(e.mV)] h) k (fun _ _=>none):=(rfl)
@[simp ↓] theorem Uk {α:Type}{i:Nat}{x:kM}{h:kP}{k:kM→Option α}:fq i x h k=(kO i x).bind fun t=>(kT false 1 h t).bind k:=(rfl)
@[simp ↓] theorem Nb {n:Int}:iq n=.int .i64 n:=(rfl)
@[simp ↓] theorem M6 {b:Bool}{t:kM}{x:Option kM}{h:kP}{k:kM→kP→Option R}:lG b t x h k=(lQ b t (x.bind fun v=>nM v h) (nM (.tuple []) h)).bind (nT k (fun _ _=>none)):=(rfl)
@[simp ↓] theorem OI {K:lB}{f:Nat}{a:kM}{h:kP}:yK K f a h=K f [(a.mV)] h:=(rfl)
@[simp ↓] theorem OJ {K:lB}{f:Nat}{a b:kM}{h:kP}:rR K f a b h=K f [(a.mV),(b.mV)] h:=(rfl)
@[simp ↓] theorem OK {K:lB}{f:Nat}{a b c:kM}{h:kP}:Bv K f a b c h=K f [(a.mV),(b.mV),(c.mV)] h:=(rfl)
@[simp ↓] theorem aLe {K:lB}{f:Nat}{a b c d:kM}{h:kP}:uk4 K f a b c d h=K f [(a.mV),(b.mV),(c.mV),(d.mV)] h:=(rfl)
@[simp ↓] theorem aLf {K:lB}{f:Nat}{a b c d e:kM}{h:kP}:uk5 K f a b c d e h=K f [(a.mV),(b.mV),(c.mV),(d.mV),(e.mV)] h:=(rfl)
@[simp ↓] theorem T3 {o:BinOp}{x y:kM}{a b:Option R}:aq o x y a b=(kV o x y).bind fun t=>lF t a b:=(rfl)
end
section
open Go
def Wr:Nat→Nat→List UInt8→List UInt8
 | 0,_,a=>a
 | k+1,n,a=>if n < 10 then UInt8.ofNat (48+n)::a else Wr k (n / 10) (UInt8.ofNat (48+n % 10)::a)
def Qh (n:Int):List UInt8:=if n < 0 then 45::Wr 20 n.natAbs [] else Wr 20 n.toNat []
def UD:List kM→Option kM
 | [.int .i64 n]=>if -9223372036854775808≤n∧n≤9223372036854775807 then some (.str (Qh n)) else none
 | _=>none
def aj4:List kM→Option kM
 | [.str [b],.int .i64 n]=>if 0≤n∧n≤1099511627776 then some (.str (aj3 n.toNat b)) else none
 | _=>none
end
end Hk
