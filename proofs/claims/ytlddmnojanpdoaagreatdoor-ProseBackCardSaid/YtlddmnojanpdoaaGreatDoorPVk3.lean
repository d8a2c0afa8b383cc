/-
  The texts Vk.Dfr, Vk.Sub, Vk.Fn, Vk.Lim, Vk.Front, Vk.Simp, Vk.Simp2, Vk.Fns, one behind another. No conditions.
-/
import Derived.Test.YtlddmnojanpdoaaGreatDoorPVk2
import Derived.Recover
import Derived.OpenShut
import Derived.WideKeyArgs
import Derived.Test.YtlddmnojanpdoaaGreatDoorPVk1
set_option linter.unusedVariables false
set_option linter.unusedSimpArgs false
set_option linter.all false
open Array renaming getD_eq_getD_getElem? → ab8, getElem?_append_left → ah0, getElem?_toList → ad5, length_toList → an6
open Bool renaming and_eq_true → am2
open List renaming all_eq_true → ag3, append_nil → al6, getElem?_append_left → af2, getElem?_append_right → ae9, getElem?_eq_some_iff → ab2, getElem?_map → ag6, length_map → ak1, replicate → ah7
open Nat renaming le_refl → ac9
open Option renaming bind_eq_some_iff → ab0, bind_some → an3, map_eq_some_iff → ac5
open Option.some renaming injEq → ab3
open Prod.mk renaming injEq → af1
namespace Hk
section
open Go Go.RowKit
section
variable {cx:Cx}{ops:Array Oper}{h:kT}{G:Gh}{w:World}{a:Act}{r:R}
def JD (L:Nat) (a0:Act) (a:Act):Prop:=a.defers=a0.defers∧a.tmps.size=a0.tmps.size∧∀t,L.testBit t=true→a.tmps.getD t undef=a0.tmps.getD t undef
theorem JD.put {L:Nat}{a0:Act}{dst:Option Tmp}{V:Value}(h:JD L a0 a) (hd:∀d,dst=some d→L.testBit d=false):JD L a0 (a.put dst V):=by
 cases dst with
 | none=>exact h
 | some d =>
  refine⟨h.1,by simpa [Act.put] using h.2.1,fun t ht=>?_⟩
  rw [←h.2.2 t ht]
  have hne:d≠t:=by
   rintro rfl
   rw [hd d rfl] at ht; cases ht
  simp [Act.put,ab8,Array.getElem?_setIfInBounds,hne]
theorem AA {L:Nat}{a0:Act}:∀{b:Code},ED L b=true→JOk (JD L a0) b
 | .region _ ops _,hb=>by
  simp only [ED,ag3] at hb
  intro o ho a V hj
  refine hj.put fun d hd=>?_
  have:=hb o ho
  rw [hd] at this
  simpa using this
 | .seq x y,hb=>by
  simp only [ED,am2] at hb
  exact⟨AA hb.1,AA hb.2⟩
 | .cond _ x y,hb=>by
  simp only [ED,am2] at hb
  exact⟨AA hb.1,AA hb.2⟩
 | .block _ c,hb=>AA (b:=c) hb
 | .loop c,hb=>AA (b:=c) hb
 | .skip,_=>trivial
 | .exit _,_=>trivial
 | .ret,_=>trivial
 | .scope _,hb=>by simp [ED] at hb
 | .label _,_=>trivial
 | .goto _,_=>trivial
 | .refuse _,_=>trivial
 | .rangeFunc ..,_=>trivial
theorem vT {D:List Deferred}:∀c:Code,JOk (fun a=>a.defers=D) c
 | .region _ ops _=>fun o _ a V h=>by cases o.dst <;> exact h
 | .seq a b=>⟨vT a,vT b⟩
 | .cond _ a b=>⟨vT a,vT b⟩
 | .block _ c=>vT c
 | .loop c=>vT c
 | .scope c=>vT c
 | .skip | .exit _ | .ret=>trivial
 | .label _ | .goto _ | .refuse _ | .rangeFunc ..=>trivial
theorem EN {args:List kP}{X:Array Value}{n:Nat}(hx:Cj G h args X) (hn:args.length≤n) :
  qH (fun a=>a.defers=[]) G h (args++ah7 (n - args.length) (.tuple [])) { tmps:=X++Array.replicate (n - X.size) undef,defers:=[] }:=by
 refine⟨by simp [hx.1],fun j v hv=>?_,rfl⟩
 have hs:=hx.1
 simp only [ab8]
 by_cases hj:j < args.length
 ·rw [af2 hj] at hv
  rw [ah0 (by omega)]
  have:=hx.2 j v hv
  rwa [ab8] at this
 ·rw [ae9 (by omega)] at hv
  rw [Array.getElem?_append_right (by omega)]
  rw [List.getElem?_replicate] at hv
  split at hv
  ·cases hv
   rename_i hlt
   rw [Array.getElem?_replicate,if_pos (by omega)]
   exact .undef
  ·cases hv
theorem IV {P:Program}{Q:Exit→Act→List Frame→World→Prop}{cs:List Frame}(hno:∀a w,¬Q .outgrown a cs w):∀(l:List Nat) (a:Act) (w:World),
  wpOps P ops (fun e a w=>Q e a cs w) l a w→wpOpsS P ops Q l a cs w
 | [],a,w,h=>h
 | i::rest,a,w,h=>by
  have ih:=IV (P:=P) (Q:=Q) (cs:=cs) hno rest
  simp only [wpOps,wpOpsS] at h ⊢
  cases ho:ops[i]? with
  | none=>simp only [ho] at h ⊢; exact ih a w h
  | some o =>
   simp only [ho] at h ⊢
   by_cases hw:Region.wanted o (yielded ops a.tmps)=true
   ·simp only [hw,if_true] at h ⊢
    rcases h with h | ⟨_,x,y,hl⟩
    ·have h':o.upon P a (fun a' w'=>wpOpsS P ops Q rest a' cs w') (fun e a' w'=>Q e a' cs w') ((execOp a.eval o).run P w):=Oper.wp_mono (fun a w=>ih a w) h
     split
     ·rename_i w' hr
      rw [hr] at h'
      exact h'.elim
     ·exact h'
    ·exact absurd hl (hno _ _)
   ·simp only [hw,if_false,Bool.false_eq_true] at h ⊢
    exact ih _ _ h
def Dc:Option Value→FrameMode
 | none=>.returning
 | some V=>.panicking [{ v:=V,recovered:=true }]
def Ib:Option Value→FrameMode
 | none=>.returning
 | some V=>.panicking [{ v:=V,recovered:=false }]
def U0 (G:Gh) (h:kT) (w:World) (h':kT) (PV:Option Value) (e:Ending) (u':FrameMode) (w':World):Prop :=
 (∃v,e=.returned v)∧u'=Dc PV∧∃G',Ext G h w G' h' w'∧Inv G' h' w'
theorem Nn {g:Nat}{caps:List kP}{pv:Option kP}{PV:Option Value}{h':kT}{X:Array Value}(hm:cx.P.follows .mixedOrders=true) (hX:yQ cx.P cx.A) (hK:vS cx.P cx.A cx.K) (hlp:QU cx.lp)
  (hb:yY cx g caps pv h=some h') (i:Inv G h w) (gl:tM cx.A G h w) (hx:Cj G h caps X) (hpv:∀v,pv=some v→∃V,PV=some V∧lP G h v V) (hpn:pv=none→PV=none) :
  (∀w,(callFunc g X).run cx.P w=.ok (.enter g X) w) ∧
  CallsD cx.P g X (Ib PV) w (U0 G h w h' PV):=by
 unfold yY at hb
 cases hf:cx.P.funcs[g]? with
 | none=>rw [hf] at hb; cases hb
 | some fn =>
  simp only [hf] at hb
  split at hb
  ·rename_i id ops c hbody
   split at hb
   ·rename_i o os hops
    cases hc:(E8 o && decide (caps.length≤fn.ntmps) && fn.results.isEmpty && !(fn.name == "runtime.NumGoroutine")) with
    | false=>rw [hc] at hb; cases hb
    | true =>
     rw [hc] at hb
     simp only [am2,decide_eq_true_eq,Bool.not_eq_true'] at hc
     obtain⟨⟨⟨hrec,hcl⟩,hres⟩,hnm⟩:=hc
     have hne:¬fn.name = "runtime.NumGoroutine" := by simpa using hnm
     refine⟨fun w=>by simp [callFunc,Sem.run_bind,hf,hbody,hne,Sem.run_pure],?_⟩
     simp only [cond_true] at hb
     obtain⟨r0,hr0,hend⟩:=ab0.1 hb
     refine callsD_of_wpS hf hbody fun c₀ cs hu=>?_
     have h0:ops[0]?=some o:=by rw [←ad5,hops]; rfl
     unfold E8 at hrec
     simp only [am2,Option.isNone_iff_eq_none] at hrec
     obtain⟨hgu,hrec⟩:=hrec
     obtain⟨cl,hop,hcal⟩:∃cl,o.op=.call cl∧cl.callee=.builtin .recover:=by
      split at hrec
      ·rename_i cl ho
       split at hrec
       ·rename_i hcal; exact⟨cl,ho,hcal⟩
       ·cases hrec
      ·cases hrec
     have hrun:∀(a:Act) (w:World),(execOp a.eval o).run cx.P w=.ok .recover w:=by
      intro a w
      simp [execOp,hop,resolve,hcal,invoke,builtin,Sem.run_bind,Sem.run_pure]
     have hsz:List.range ops.size=0::((sF ops.toList).tail).map (·.i):=by
      rw [List.map_tail,vI.1]
      have:ops.size=os.length+1:=by rw [←an6,hops]; rfl
      rw [this,List.range_succ_eq_map]; rfl
     let cs':List Frame:={ c₀ with mode:=Dc PV }::cs
     have hrv:lP G h (pv.getD .niliface) (PV.getD .nilIface):=by
      cases hp:pv with
      | none =>
       rw [hpn hp]
       exact .p _ _ .niliface
      | some v =>
       obtain⟨V,hV,hr⟩:=hpv v hp
       rw [hV]
       exact hr
     obtain⟨RR,hRR⟩:∃RR,RR=U0 G h w h' PV:=⟨_,rfl⟩
     rw [←hRR]
     have slots:qH (fun a=>a.defers=[]) G h (sH (caps++ah7 (fn.ntmps - caps.length) (.tuple [])) o.dst (pv.getD .niliface)) (Act.put { tmps:=X++Array.replicate (fn.ntmps - X.size) undef,defers:=[] } o.dst (PV.getD .nilIface)) :=
      (EN hx hcl).put o.dst hrv (by cases o.dst <;> rfl)
     have fin:∀(e:Ex) (ρ2:List kP) (h2:kT) (G2:Gh) (w2:World) (a2:Act),(e=.normal∨e=.ret)→(e,pack 0 ρ2,h2)=r0→Ext G h w G2 h2 w2→Inv G2 h2 w2→qH (fun a=>a.defers=[]) G2 h2 ρ2 a2 →
       a2.defers=[]∧∃u',cs'={ c₀ with mode:=u' }::cs∧∃v,(results fn a2.tmps).run cx.P w2=.ok v w2∧RR (.returned v) u' w2:=by
      intro e ρ2 h2 G2 w2 a2 he hr x2 i2 s2
      subst hr
      have ht:mI h.length h2=some h':=by rcases he with rfl | rfl <;> exact hend
      obtain⟨G3,i3,x3,_,_,_⟩:=A_ x2 i2 ht
      have hrs:fn.results.toList.mapM (Bo cx.P ρ2 h2)=some []:=by
       have:fn.results=#[]:=by simpa using hres
       rw [this]; rfl
      obtain⟨V,hV,_⟩:=CX hrs i2 s2
      rw [hRR]
      exact⟨s2.df,_,rfl,V,hV,⟨V,rfl⟩,rfl,G3,x3,i3⟩
     have hlen:(sH (caps++ah7 (fn.ntmps - caps.length) (.tuple [])) o.dst (pv.getD .niliface)).length=fn.ntmps:=by rw [EK]; simp; omega
     rw [AR fn.ntmps _ _ _ _ hlen] at hr0
     have tailP:=Jf (cx:={ cx with n:=fn.ntmps,full:=2 ^ fn.ntmps - 1,pan:=false }) (J:=fun a=>a.defers=[]) (Q:=fun e a w=>Exit.thenS (c.wpS cx.P (bodyPostS cx.P fn c₀ cs RR))
       (bodyPostS cx.P fn c₀ cs RR) e a cs' w) (ops:=ops) (fun o _ a V h=>by cases o.dst <;> exact h) hX hK (sF ops.toList).tail [] _ h G w _
      (fun it hit=>vI.2 it (List.mem_of_mem_tail hit)) hr0 i gl slots
      (fun ρ1 h1 G1 w1 a1 e1 x1 i1 s1=>by
       split at e1
       case isFalse=>cases e1
       rename_i hl1
       refine wpS_of_wp (z7 (cx:={ cx with n:=fn.ntmps,full:=2 ^ fn.ntmps - 1,pan:=false }) (J:=fun a=>a.defers=[]) hm hX hK hlp c 0 ρ1 h1 _ _ r0 G1 w1 a1 _ (vT c) e1 i1 (gl.mono x1) s1 hl1 ?_)
       ·refine⟨fun ρ2 h2 G2 w2 a2 e2 x2 i2 s2 _=>?_,fun e ρ2 h2 G2 w2 a2 e2 x2 i2 s2 _=>?_,fun v ρ2 h2 G2 w2 a2 V e2 x2 i2 _ _=>?_⟩
        ·exact fin _ ρ2 h2 G2 w2 a2 (.inl rfl) (Option.some.inj e2) (x1.trans x2) i2 s2
        ·cases e with
         | ret=>exact fin _ ρ2 h2 G2 w2 a2 (.inr rfl) (Option.some.inj e2) (x1.trans x2) i2 s2
         | exit id=>cases e2; cases hend
         | _=>trivial
        ·cases e2; cases hend)
      (fun v h1 G1 w1 V a1 e1=>by cases e1)
     have tail:wpOps cx.P ops (fun e a w=>Exit.thenS (c.wpS cx.P (bodyPostS cx.P fn c₀ cs RR))
       (bodyPostS cx.P fn c₀ cs RR) e a cs' w) (((sF ops.toList).tail).map (·.i))
       (Act.put { tmps:=X++Array.replicate (fn.ntmps - X.size) undef,defers:=[] } o.dst (PV.getD .nilIface)) w:=by
      exact tailP
     refine wpS_seq (wpS_region ?_)
     rw [hsz]
     simp only [wpOpsS,h0]
     rw [if_pos (by simp [Region.wanted,hgu])]
     simp only [hrun]
     cases PV with
     | none =>
      have hu':c₀.mode=.returning:=hu
      have hrd:recoverD (c₀::cs)=none:=by simp [recoverD,hu']
      have hcs:(c₀::cs:List Frame)=cs':=by
       have:({ c₀ with mode:=.returning }:Frame)=c₀:=by rw [←hu']
       simp only [cs',Dc,this]
      rw [hrd]
      simp only []
      rw [hcs]
      exact IV (fun a w hq=>by obtain⟨_,hq⟩:=hq; rw [hRR] at hq; obtain⟨⟨_,h1⟩,_⟩:=hq; cases h1) _ _ _ tail
     | some V =>
      have hu':c₀.mode=.panicking [{ v:=V,recovered:=false }]:=hu
      have hrd:recoverD (c₀::cs)=some (V,cs'):=by simp [recoverD,hu',cs',Dc]
      rw [hrd]
      exact IV (fun a w hq=>by obtain⟨_,hq⟩:=hq; rw [hRR] at hq; obtain⟨⟨_,h1⟩,_⟩:=hq; cases h1) _ _ _ tail
   ·cases hb
  ·cases hb
theorem Cb {L:Nat}{x:List kP}:∀(n i j k:Nat) (v:kP),(unpackFrom L x n i j)[k]?=some v→v=.junk∨L.testBit (i+k)=true
 | 0,i,j,k,v,h=>by simp [unpackFrom] at h
 | n+1,i,j,k,v,h=>by
  unfold unpackFrom at h
  cases hb:L.testBit i with
  | true =>
   rw [hb] at h
   cases k with
   | zero=>exact .inr hb
   | succ k =>
    have:=Cb n (i+1) (j+1) k v (by simpa using h)
    rwa [show i+(k+1)=i+1+k by omega]
  | false =>
   rw [hb] at h
   cases k with
   | zero=>simp at h; exact .inl h.symm
   | succ k =>
    have:=Cb n (i+1) j k v (by simpa using h)
    rwa [show i+(k+1)=i+1+k by omega]
theorem qH.any {J J':Act→Prop}{ρ:List kP}(s:qH J G h ρ a) (hj:J' a):qH J' G h ρ a:=⟨s.len,s.rel,hj⟩
theorem K5 {fn:Func}{RE:Ending→World→Prop}{b:Code}{L:Nat}{fv:kP}{V:Value}{ρ:List kP}(hm:cx.P.follows .mixedOrders=true) (hX:yQ cx.P cx.A) (hK:vS cx.P cx.A cx.K) (hlp:QU cx.lp)
  (hb:BY cx b L fv ρ h=some r) (i:Inv G h w) (gl:tM cx.A G h w) (s:qH (fun a=>a.defers=[]) G h ρ a) (hn:ρ.length=cx.n) (hfv:lP G h fv V)
  (hfin:∀(a':Act) G' w',r.1=.ret→Ext G h w G' r.2.2 w'→Inv G' r.2.2 w'→qH (fun _=>True) G' r.2.2 (unpack cx.n L r.2.1) a'→∃v,(results fn a'.tmps).run cx.P w'=.ok v w'∧RE (.returned v) w') :
  ∃d,(∀w,(Deferred.ofValue V #[]).run cx.P w=.ok d w)∧b.wp cx.P (bodyPostD cx.P fn RE) { a with defers:=d::a.defers } w:=by
 unfold BY at hb
 cases hok:ED L b with
 | false=>rw [hok] at hb; cases hb
 | true =>
  rw [hok] at hb
  simp only [cond_true] at hb
  obtain⟨⟨g,fi,ca⟩,hg,hb⟩:=ab0.1 hb
  unfold Bn at hg
  split at hg <;> simp only [ab3,af1,reduceCtorEq] at hg
  rename_i g' fi' ca'
  obtain⟨rfl,rfl,rfl⟩:=hg
  obtain⟨F,C,rfl,hlf,hlc,hrf,hrc⟩:=hfv.GN
  refine⟨{ target:=.fn (.func g') C,args:=F++#[] },fun w=>by simp [Deferred.ofValue,Sem.run_pure],?_⟩
  simp only [] at hb
  obtain⟨r0,hr0,hend⟩:=ab0.1 hb
  have hxs:∀{G':Gh}{h':kT}{w':World},Ext G h w G' h' w'→Cj G' h' (fi'++ca') (F++#[]++C):=by
   intro G' h' w' x
   refine⟨by simp [hlf,hlc],fun j u hu=>?_⟩
   rw [ab8]
   by_cases h1:j < fi'.length
   ·rw [af2 h1] at hu
    have:=(hrf j u hu).mono x.toMono
    rw [ab8] at this
    simpa [Array.getElem?_append,←hlf,h1] using this
   ·rw [ae9 (by omega)] at hu
    have:=(hrc _ u hu).mono x.toMono
    rw [ab8] at this
    simpa [Array.getElem?_append,←hlf,h1] using this
  have hdf:a.defers=[]:=s.df
  have leave:∀(pv:Option kP) (PV:Option Value) (G2:Gh) (h2:kT) (w2:World) (a2:Act) (h3:kT) (pk:List kP),Ext G h w G2 h2 w2→Inv G2 h2 w2→(∀v,pv=some v→∃V,PV=some V∧lP G2 h2 v V)→(pv=none→PV=none) →
    JD L { a with defers:={ target:=.fn (.func g') C,args:=F++#[] }::a.defers } a2→yY cx g' (fi'++ca') pv h2=some h3→r=(.ret,pk,h3)→qH (fun _=>True) G2 h2 (unpack cx.n L pk) a2 →
    Leaves cx.P fn a2.tmps RE a2.defers (Ib PV) w2:=by
   intro pv PV G2 h2 w2 a2 h3 pk x2 i2 hv1 hv2 hj hrec hr s2
   have hd2:a2.defers=[{ target:=.fn (.func g') C,args:=F++#[] }]:=by rw [hj.1,hdf]
   obtain⟨hin,hcd⟩:=Nn hm hX hK hlp hrec i2 (gl.mono x2) (hxs x2) hv1 hv2
   rw [hd2]
   refine leaves_cons (by cases PV <;> simp [Ib]) (f:=g') (args:=F++#[]++C) (by simpa [invoke] using hin w2) ?_
   refine hcd.mono fun e u' w' hpost=>?_
   obtain⟨⟨v,rfl⟩,rfl,G',x3,i3⟩:=hpost
   have hset:settle (Dc PV)=.returning:=by cases PV <;> simp [settle,Dc]
   simp only [hset]
   subst hr
   exact hfin a2 G' w' rfl (x2.trans x3) i3 (s2.mono x3.toMono)
  refine z7 (cx:={ cx with pan:=true }) (J:=JD L { a with defers:={ target:=.fn (.func g') C,args:=F++#[] }::a.defers }) hm hX hK hlp b L ρ h _ _ r0 G w _ _ (AA hok) hr0 i gl (s.any (J':=JD L _) ⟨rfl,rfl,fun _ _=>rfl⟩ |> fun s=>⟨s.len,s.rel,⟨rfl,rfl,fun _ _=>rfl⟩⟩) hn
   ⟨fun ρ2 h2 G2 w2 a2 e2 x2 i2 s2 hn2=>?_,fun e ρ2 h2 G2 w2 a2 e2 x2 i2 s2 hn2=>?_,fun v ρ2 h2 G2 w2 a2 V e2 x2 i2 rv hj=>?_⟩
  ·cases e2
   obtain⟨h3,hrec,hr⟩:=ac5.1 hend
   exact leave none none G2 h2 w2 a2 h3 _ x2 i2 (by simp) (by simp) s2.df hrec hr.symm ((s2.pack hn2).any trivial)
  ·cases e2
   cases e with
   | ret =>
    obtain⟨h3,hrec,hr⟩:=ac5.1 hend
    exact leave none none G2 h2 w2 a2 h3 _ x2 i2 (by simp) (by simp) s2.df hrec hr.symm ((s2.pack hn2).any trivial)
   | exit id=>cases hend
   | _=>trivial
  ·cases e2
   obtain⟨h3,hrec,hr⟩:=ac5.1 hend
   refine leave (some v) (some V) G2 h2 w2 a2 h3 _ x2 i2 (fun u hu=>by cases hu; exact⟨V,rfl,rv⟩) (by simp) hj hrec hr.symm ⟨?_,fun j u hu=>?_,trivial⟩
   ·rw [rM,←hn,s.len]
    exact hj.2.1.symm
   ·rcases Cb _ _ _ _ _ hu with rfl | hbit
    ·exact .p _ _ (.junk _)
    ·rcases MJ (f:=id) hn j u (by simpa using hu) with rfl | ⟨u',hu',he⟩
     ·exact .p _ _ (.junk _)
     ·rw [Nat.zero_add] at hbit
      rw [hj.2.2 j hbit]
      have he:u=u':=he
      subst he
      exact(s.rel j u hu').mono x2.toMono
theorem Lo {os:List Oper}{f:Operand}(hl:Db os=some f):∃o c,os.getLast?=some o∧o.guard=none∧o.op=.defer c∧c.callee=.value f∧c.args=#[]∧o.dst=none:=by
 unfold Db at hl
 obtain⟨o,h1,h2⟩:=ab0.1 hl
 unfold Vm at h2
 split at h2
 ·rename_i c hg ho
  split at h2
  ·rename_i f' hc
   cases he:c.args.isEmpty && o.dst.isNone with
   | false=>rw [he] at h2; cases h2
   | true =>
    rw [he] at h2
    simp only [am2,Array.isEmpty_iff,Option.isNone_iff_eq_none] at he
    cases h2
    exact⟨o,c,h1,hg,ho,hc,he.1,he.2⟩
  ·cases h2
 ·cases h2
theorem Nl {fn:Func}{RE:Ending→World→Prop}(hm:cx.P.follows .mixedOrders=true) (hX:yQ cx.P cx.A) (hK:vS cx.P cx.A cx.K) (hlp:QU cx.lp) (hpan:cx.pan=false):∀(c:Code) (L:Nat) (ρ:List kP) (h:kT) (r:R) (G:Gh) (w:World) (a:Act),
  u_ cx c L ρ h=some r→Inv G h w→tM cx.A G h w→qH (fun a=>a.defers=[]) G h ρ a→ρ.length=cx.n →
  (∀(a':Act) G' w',r.1=.ret→Ext G h w G' r.2.2 w'→Inv G' r.2.2 w'→qH (fun _=>True) G' r.2.2 (unpack cx.n L r.2.1) a'→∃v,(results fn a'.tmps).run cx.P w'=.ok v w'∧RE (.returned v) w') →
  c.wp cx.P (bodyPostD cx.P fn RE) a w:=by
 intro c
 induction c with
 | seq x y ihx ihy =>
  intro L ρ h r G w a hb i gl s hn hfin
  have piece:evalCode cx x (L ||| ue cx.full y) ρ h (fun ρ' h'=>u_ cx y L ρ' h') (Oq L)=some r→(Code.seq x y).wp cx.P (bodyPostD cx.P fn RE) a w:=by
   intro hb
   refine wp_seq (z7 (J:=fun a=>a.defers=[]) hm hX hK hlp x _ ρ h _ _ r G w a _ (vT x) hb i gl s hn ⟨fun ρ2 h2 G2 w2 a2 e2 x2 i2 s2 hn2=>?_,fun e ρ2 h2 G2 w2 a2 e2 x2 i2 s2 hn2=>?_,fun v ρ2 h2 G2 w2 a2 V e2 x2 i2 rv hj=>?_⟩)
   ·exact ihy L ρ2 h2 r G2 w2 a2 e2 i2 (gl.mono x2) s2 hn2 fun a' G' w' hr x3 i3 s3=>hfin a' G' w' hr (x2.trans x3) i3 s3
   ·cases e with
    | ret =>
     cases e2
     show Leaves cx.P fn a2.tmps RE a2.defers .returning w2
     have hd2:a2.defers=[]:=s2.df
     rw [hd2]
     exact hfin a2 G2 w2 rfl x2 i2 ((s2.pack hn2).any trivial)
    | exit id=>cases e2
    | _=>trivial
   ·cases e2
  cases x with
  | region id ops draw =>
   cases draw with
   | true=>simp only [u_] at hb; exact piece hb
   | false =>
    simp only [u_] at hb
    cases hl:Db ops.toList with
    | none=>simp only [hl] at hb; exact piece hb
    | some f =>
     simp only [hl] at hb
     obtain⟨o,cl,h1,hgu,hop,hcal,hargs,hdst⟩:=Lo hl
     rw [AR cx.n _ _ _ _ hn] at hb
     have hsz:List.range ops.size=((sF ops.toList).dropLast).map (·.i)++[ops.size - 1]:=by
      have hne:ops.toList≠[]:=by intro h0; rw [h0] at h1; cases h1
      have hlen:(sF ops.toList).length=ops.size:=by simp [sF]
      have hm1:((sF ops.toList).dropLast).map (·.i)=(List.range ops.size).dropLast:=by rw [List.map_dropLast,vI.1]
      rw [hm1]
      have hpos:0 < ops.size:=by rw [←an6]; exact List.length_pos_iff.2 hne
      obtain⟨m,hmm⟩:∃m,ops.size=m+1:=⟨ops.size - 1,by omega⟩
      rw [hmm,List.range_succ,List.dropLast_concat]
      rfl
     have hlast:ops[ops.size - 1]?=some o:=by
      rw [←ad5]
      rw [List.getLast?_eq_getElem?] at h1
      simpa using h1
     refine wp_seq (wp_region ?_)
     rw [hsz]
     refine G0 (J:=fun a=>a.defers=[]) [ops.size - 1] (fun o _ a V h=>by cases o.dst <;> exact h) hX hK _ [] ρ h G w a (fun it hit=>vI.2 it ((List.dropLast_sublist _).subset hit)) hb i gl s (fun ρ2 h2 G2 w2 a2 e2 x2 i2 s2=>?_) (fun v h2 G2 w2 V a2 e2=>by cases e2)
     split at e2
     case isFalse=>cases e2
     rename_i hn2
     obtain⟨d,hd,hwp⟩:=K5 (fn:=fn) (RE:=RE) hm hX hK hlp e2 i2 (gl.mono x2) s2 hn2 (s2.eval (gl.mono x2).cells f) fun a' G' w' hr x3 i3 s3=>hfin a' G' w' hr (x2.trans x3) i3 s3
     have hrun:(execOp a2.eval o).run cx.P w2=.ok (.defer d) w2:=by
      simp [execOp,hop,resolve,hcal,hargs,Sem.run_bind,Sem.run_pure,hd w2]
     simp only [wpOps,hlast]
     rw [if_pos (by simp [Region.wanted,hgu])]
     left
     unfold Oper.wp
     rw [hrun,Oper.upon_defer,hdst]
     exact hwp
  | _=>simp only [u_] at hb; exact piece hb
 | _=>intro L ρ h r G w a hb; simp [u_] at hb
end
end
section

end
section
open Go Go.RowKit
section
variable {P:Program}{A:Cd}{K:lE}{lp:YL}{G:Gh}{h:kT}{w:World}
theorem GM {f:Nat}{v:kP}{V:Value}{r:n_}{h' h2:kT}{G':Gh}{w':World}(hb:finish A f h.length v h'=some (r,h2)) (x:Ext G h w G' h' w') (i:Inv G' h' w') (hv:lP G' h' v V) :
  wZ G h w r h2 (.returned V) w':=by
 unfold finish at hb
 cases he:A.esc f with
 | true =>
  rw [he] at hb; cases hb
  exact⟨G',x,i,V,rfl,hv⟩
 | false =>
  rw [he] at hb
  simp only [cond_false] at hb
  cases hg:A.grow f with
  | true =>
   rw [hg] at hb
   simp only [cond_true,Pq,ac5] at hb
   obtain⟨h3,ht,hb⟩:=hb
   obtain⟨G3,i3,x3,_,hrel,_⟩:=A_ x i ht
   cases hb
   exact⟨G3,x3,i3,V,rfl,hrel _ _ hv⟩
  | false =>
   rw [hg] at hb
   cases hz:A.frr f with
   | true =>
    rw [hz] at hb
    simp only [cond_true,cond_false,azE] at hb
    obtain⟨y,hy,hb⟩:=ab0.1 hb
    obtain⟨G1,i1,x1,r1⟩:=CN i hy hv
    simp only [mJ,ac5] at hb
    obtain⟨h3,ht,hb⟩:=hb
    obtain⟨G3,i3,x3,_,hrel,_⟩:=A_ (x.trans x1) i1 ht
    cases hb
    exact⟨G3,x3,i3,V,rfl,Dq (hrel _ _ r1)⟩
   | false =>
   rw [hz] at hb
   simp only [cond_false,mJ,ac5] at hb
   obtain⟨h3,ht,hb⟩:=hb
   obtain⟨G3,i3,x3,_,hrel,_⟩:=A_ x i ht
   cases hb
   exact⟨G3,x3,i3,V,rfl,Dq (hrel _ _ hv)⟩
theorem AO {ρ:List kP}{x:n_×kT}:∀{l:List ResultVar}{k:List kP→Option (n_×kT)},A3 P ρ h l k=some x→∃vs,l.mapM (Bo P ρ h)=some vs∧k vs=some x
 | [],k,hb=>⟨[],rfl,hb⟩
 | .tmp t::l,k,hb=>by
  obtain⟨vs,h1,h2⟩:=AO (l:=l) hb
  exact⟨ρ.getD t .junk::vs,by simp [List.mapM_cons,Bo,h1],h2⟩
 | .cell a t::l,k,hb=>by
  simp only [A3] at hb
  split at hb
  ·rename_i g n hg hn
   obtain⟨v,hv,hb⟩:=ab0.1 hb
   obtain⟨vs,h1,h2⟩:=AO (l:=l) hb
   exact⟨v::vs,by simp only [List.getD_eq_getElem?_getD] at hv; simp [List.mapM_cons,Bo,hg,hn,hv,h1],h2⟩
  ·cases hb
theorem Pm {f:Nat}{fn:Func}{c:Code}{args:List kP}{X:Array Value}{r:n_}{h':kT}(hm:P.follows .mixedOrders=true) (hX:yQ P A) (hK:vS P A K) (hlp:QU lp)
  (hf:P.funcs[f]?=some fn) (hc:fn.body=some c) (hb:Pl P A K lp f fn c args h=some (r,h')) (i:Inv G h w) (gl:tM A G h w) (hx:Cj G h args X) (hn:args.length≤fn.ntmps) :
  Calls P f X w (wZ G h w r h'):=by
 unfold Pl at hb
 obtain⟨r0,hr0,hend⟩:=ab0.1 hb
 cases hd:A.dfr f with
 | true =>
  rw [hd] at hr0
  simp only [En] at hr0
  refine calls_of_wp_defers hf hc ?_
  refine Nl (cx:={ P,A,K,lp,n:=fn.ntmps,full:=2 ^ fn.ntmps - 1,pan:=false,vec:=A.amB f,frz:=A.frz f,vlit:=A.Wi f,vmk:=A.vmk f,jt:=A.jt f,lkp:=A.lkp f,rb:=A.rb f,frl:=A.frl f,tb:=A.tb f }) hm hX hK hlp rfl c _ _ h r0 G w _ hr0 i gl (EN hx hn) (by simp; omega) ?_
  intro a' G' w' he x2 i2 s2
  have hend':A3 P (unpack fn.ntmps (CE fn) r0.2.1) r0.2.2 fn.results.toList (fun vs=>finish A f h.length (oneOf vs) r0.2.2)=some (r,h'):=by
   unfold N5 at hend
   rw [he] at hend
   cases hp:A.pan f <;> rw [hp] at hend <;> exact hend
  obtain⟨vs,hvs,hend'⟩:=AO hend'
  obtain⟨V,hV,hrel⟩:=CX hvs i2 s2
  exact⟨V,hV,GM hend' x2 i2 hrel⟩
 | false =>
 rw [hd] at hr0
 simp only [En] at hr0
 refine calls_of_wp hf hc ?_
 refine z7 (cx:={ P,A,K,lp,n:=fn.ntmps,full:=2 ^ fn.ntmps - 1,pan:=A.pan f,vec:=A.amB f,frz:=A.frz f,vlit:=A.Wi f,vmk:=A.vmk f,jt:=A.jt f,lkp:=A.lkp f,rb:=A.rb f,frl:=A.frl f,tb:=A.tb f }) hm hX hK hlp c _ _ h _ _ r0 G w _ _ (vT c) hr0 i gl (EN hx hn) (by simp; omega) ?_
 have ret:∀(e:Ex) (ρ':List kP) (h1:kT) (G':Gh) (w':World) (a':Act),(e=.normal∨e=.ret)→N5 P A f fn h.length e (unpack fn.ntmps (CE fn) (pack (CE fn) ρ')) h1=some (r,h')→Ext G h w G' h1 w'→Inv G' h1 w'→qH (fun a=>a.defers=[]) G' h1 ρ' a'→ρ'.length=fn.ntmps →
   a'.defers=[]∧∃v,(results fn a'.tmps).run P w'=.ok v w'∧wZ G h w r h' (.returned v) w':=by
  intro e ρ' h1 G' w' a' he hend h3 h4 s hn'
  have s':=s.pack (L:=CE fn) hn'
  have hend':A3 P (unpack fn.ntmps (CE fn) (pack (CE fn) ρ')) h1 fn.results.toList (fun vs=>finish A f h.length (oneOf vs) h1)=some (r,h'):=by
   unfold N5 at hend
   cases hp:A.pan f <;> rw [hp] at hend <;> rcases he with rfl | rfl <;> exact hend
  obtain⟨vs,hvs,hend'⟩:=AO hend'
  obtain⟨V,hV,hrel⟩:=CX hvs h4 s'
  exact⟨s.df,V,hV,GM hend' h3 h4 hrel⟩
 refine⟨fun ρ' h1 G' w' a' h2 h3 h4 h5 h6=>?_,fun e ρ' h1 G' w' a' h2 h3 h4 h5 h6=>?_,fun v ρ' h1 G' w' a' V h2 h3 h4 h5 h6=>?_⟩
 ·cases h2
  exact ret _ ρ' h1 G' w' a' (.inl rfl) hend h3 h4 h5 h6
 ·cases h2
  cases e with
  | ret=>exact ret _ ρ' h1 G' w' a' (.inr rfl) hend h3 h4 h5 h6
  | exit id=>unfold N5 at hend; cases hp:A.pan f <;> rw [hp] at hend <;> cases hend
  | _=>trivial
 ·cases h2
  unfold N5 at hend
  cases hp:A.pan f with
  | false=>rw [hp] at hend; cases hend
  | true =>
   rw [hp] at hend
   simp only [cond_true,Ex.yM,vA,ac5] at hend
   obtain⟨h3',ht,hend⟩:=hend
   obtain⟨G3,i3,x3,_,hrel,_⟩:=A_ h3 h4 ht
   cases hend
   exact⟨h6,G3,x3,i3,V,rfl,Dq (hrel _ _ h5)⟩
theorem Xk (i:Inv G h w) {id:Nat}{cs:List kP}(hg:arA h id=some cs):∃C e,w.heap[G.oP id]?=some (.cells C e (0,0))∧C.size=cs.length ∧
  ∀(j:Nat) (v:kP),cs[j]?=some v→v.mH=true∧lP G h v (C.getD j undef):=by
 unfold arA at hg
 split at hg
 ·rename_i cs' hid
  cases hg
  obtain⟨C,e,h1,h2,h3,h4⟩:=i.oP id _ hid
  exact⟨C,e,h1,h2,h4⟩
 ·rename_i t cs' hid
  cases hg
  obtain⟨C,h1,h2,h3,h4⟩:=i.oP id _ hid
  exact⟨C,t,h1,h2,h4⟩
 ·cases hg
theorem FF:∀{rows:List (List kP)}{bs:List UInt8},Aj rows=some bs→rows=bs.map fun b=>[kP.int .u8 (b.toNat:Int)]
 | [],bs,hb=>by simp [Aj] at hb; subst hb; rfl
 | row::r,bs,hb=>by
  unfold Aj at hb
  split at hb
  ·rename_i he; cases he
  ·rename_i n r' he
   simp only [List.cons.injEq] at he
   obtain⟨rfl,rfl⟩:=he
   split at hb
   case isFalse=>cases hb
   rename_i hn
   cases hr:Aj r with
   | none=>rw [hr] at hb; cases hb
   | some bs' =>
    rw [hr] at hb
    cases hb
    rw [FF hr,List.map_cons]
    have:((UInt8.ofNat n.toNat).toNat:Int)=n:=by
     rw [UInt8.toNat_ofNat_of_lt' (by show n.toNat < 256; omega)]; omega
    rw [this]
  ·cases hb
theorem Ro (w:World) (g n:Nat) (a:Addr):(w.freeze ⟨g,0,none⟩ n).cell? a=w.cell? a:=by
 unfold World.freeze
 split
 ·rfl
 ·unfold World.cell?
  simp only [Array.getElem?_modify]
  by_cases e:g=a.block
  ·rw [if_pos e]
   cases w.heap[a.block]? with
   | none=>rfl
   | some o=>cases o <;> rfl
  ·rw [if_neg e]
theorem Tu {f e:Nat}{s:kP}{V:Value}{r:n_}{h':kT}{b off:Nat}
  (p2:∀(w:World) (b off:Nat),w.cell? ⟨b,off+1,none⟩=some (.slice none 0 0)→Calls P f #[.pointer (some ⟨b,off,none⟩)] w fun ev w'=>ev=.returned (.string ⟨#[]⟩)∧∃d,w'={ w with drawn:=d })
  (p3:∀(w:World) (b off g cap:Nat) (C:Array Value) (l:List UInt8),w.cell? ⟨b,off+1,none⟩=some (.slice (some ⟨g,0,none⟩) l.length cap)→w.heap[g]?=some (.cells C e (0,0))→l≠[]→l.length≤cap→cap≤maxLen→C.size=cap →
   (∀(j:Nat) x,l[j]?=some x→C[j]?=some (.int .u8 (x.toNat:Int)))→Calls P f #[.pointer (some ⟨b,off,none⟩)] w fun ev w'=>ev=.returned (.string ⟨l.toArray⟩)∧∃d,w'=World.freeze { w with drawn:=d } ⟨g,0,none⟩ l.length)
  (i:Inv G h w) (hcell:w.cell? ⟨b,off+1,none⟩=some V) (hrs:lP G h s V) (hb:ZL e h s=some (r,h')):Calls P f #[.pointer (some ⟨b,off,none⟩)] w (wZ G h w r h'):=by
 have nilc:V=.slice none 0 0→r=.ret (.str [])→h'=h→Calls P f #[.pointer (some ⟨b,off,none⟩)] w (wZ G h w r h'):=by
  rintro rfl rfl rfl
  refine Calls.mono (p2 w b off hcell) fun ev w' hp=>?_
  obtain⟨rfl,d,rfl⟩:=hp
  exact⟨G,Ext.drawn G _ _ d,i.drawn d,_,rfl,.p _ _ (.str [])⟩
 unfold ZL at hb
 split at hb
 ·simp only [ab3,af1] at hb
  exact nilc hrs.Fg hb.1.symm hb.2.symm
 ·rename_i rows fid
  split at hb
  ·rename_i n sz t hid
   cases hl:rows.length == n with
   | false=>rw [hl] at hb; cases hb
   | true =>
    rw [hl] at hb
    simp only [cond_true] at hb
    have hlen:rows.length=n:=by simpa using hl
    obtain⟨hV,hrl,hcur⟩:=Fi i hrs hid hlen
    cases n with
    | zero =>
     simp only at hb
     cases hz:sz == 0 with
     | false=>rw [hz] at hb; cases hb
     | true =>
      rw [hz] at hb
      simp only [cond_true,ab3,af1] at hb
      have hz:sz=0:=by simpa using hz
      rcases hcur with ⟨_,hc⟩ | ⟨_,_,_,_,_,_,_,_,_,hs0,_⟩
      ·exact nilc (hV.trans hc) hb.1.symm hb.2.symm
      ·omega
    | succ m =>
     simp only at hb
     cases hz:sz == 1 && t == e+1 with
     | false=>rw [hz] at hb; cases hb
     | true =>
      rw [hz] at hb
      simp only [cond_true] at hb
      simp only [am2,beq_iff_eq] at hz
      obtain⟨rfl,rfl⟩:=hz
      split at hb
      case h_2=>cases hb
      rename_i bs hbs
      simp only [ab3,af1] at hb
      obtain⟨rfl,rfl⟩:=hb
      have hrows:=FF hbs
      have hbl:bs.length=m+1:=by rw [←hlen,hrows,ak1]
      rcases hcur with ⟨h0,_⟩ | ⟨g,cap,C,e0,hc,hC,hle,hmx,hCs,hs0,hHn,hcells,hte⟩
      ·omega
      ·obtain rfl:e0=e:=Nat.succ.inj (hte (Nat.succ_ne_zero e))
       have hq:=p3 w b off g cap C bs (by rw [hcell,hV,hc,hbl]) hC (by rintro rfl; simp at hbl) (by omega) hmx (by omega) (fun j x hx=>by
        obtain⟨u,e1,e2,_⟩:=hcells j 0 [.int .u8 (x.toNat:Int)] (.int .u8 (x.toNat:Int)) (by rw [hrows,ag6,hx]; rfl) rfl
        rw [List.getElem?_take] at e1
        split at e1
        ·rw [ad5] at e1
         have h2:=(lP.p (G:=G) (h:=h) _ _ e2).rB
         rw [h2] at e1
         simpa using e1
        ·cases e1)
       refine Calls.mono hq fun ev w' hp=>?_
       obtain⟨rfl,d,rfl⟩:=hp
       have hown:nJ G fid (.front (m+1) 1 (e0+1))=some g:=by simp [nJ,hc,Value.ownBlock]
       have key:=i.step (G':=G) (w':=World.freeze { w with drawn:=d } ⟨g,0,none⟩ bs.length) fid _ .gone hid (by unfold World.freeze; split <;> rfl) (by unfold World.freeze; split <;> rfl) (by unfold World.freeze; split <;> rfl)
        (by unfold World.freeze; split <;> simp) (fun k hk hne=>by
         have:g≠k:=by rintro rfl; exact hne hown
         unfold World.freeze
         split
         ·rfl
         ·simp only [Array.getElem?_modify]
          rw [if_neg this])
        (fun _ _=>rfl) (fun _ _=>rfl) (fun _ _ _ h=>h) (fun _ _ _ _=>rfl) (fun b k v _ hv=>by rw [Ro]; exact i.ok b k v hv)
        rfl (fun _=>trivial) (fun b hb=>by cases hb)
       exact⟨G,key.2,key.1,_,rfl,.p _ _ (.str bs)⟩
  ·cases hb
 ·cases hb
theorem Sp {f:Nat}{k:agH}{args:List kP}{r:n_}{h':kT}{X:Array Value}(hP:amJ P A f k) (hb:D8 A.bld k args h=some (r,h')) (i:Inv G h w) (gl:tM A G h w) (hx:Cj G h args X) :
  (∀w,(callFunc f X).run P w=.ok (.enter f X) w)∧Calls P f X w (wZ G h w r h'):=by
 cases k with
 | fn g =>
  obtain⟨p1,p2⟩:=hP
  refine⟨fun w=>p1 X w,?_⟩
  simp only [D8] at hb
  obtain⟨v,hv,hb⟩:=ac5.1 hb
  cases hb
  refine Calls.mono (p2 G h w args X v i gl hx.1 hx.2 hv) fun e w' hp=>?_
  obtain⟨⟨V,rfl,hV⟩,q1,q2,q3,os,q4⟩:=hp
  have key:=i.push (G':=G) (ext:=[]) (w':=w') q1 q2 q3 (by rw [q4]; simp) (fun k hk=>by rw [q4]; exact ah0 hk) (fun _ _=>rfl) (fun _ _=>rfl) (fun _ _ _ h=>h) (fun _ _ _=>rfl)
   (fun b k v hb hv=>by have:=i.Ce (b:=b) (k:=k) (v:=v) hv; omega)
   (fun j bl hj=>by simp at hj) (fun j bl b hj=>by simp at hj) (fun j j' bl bl' b hj=>by simp at hj)
  rw [al6] at key
  exact⟨G,key.2,key.1,V,rfl,.p _ _ hV⟩
 | bldString e =>
  obtain⟨p1,p2,p3⟩:=hP
  refine⟨fun w=>p1 X w,?_⟩
  simp only [D8] at hb
  split at hb
  case h_2=>cases hb
  rename_i id off
  split at hb
  case h_2=>cases hb
  rename_i cs hg
  split at hb
  case h_2=>cases hb
  rename_i s hs
  obtain⟨C,e0,g1,g2,g4⟩:=Xk i hg
  obtain⟨hX0,hlv⟩:=(hx.2 0 _ rfl).x6
  have hXe:X=#[.pointer (some ⟨G.oP id,off,none⟩)]:=by
   obtain⟨l⟩:=X
   match l,hx.1,hX0 with
   | [a],_,h0=>simp at h0; subst h0; rfl
  have hlt:off+1 < C.size:=by have:=(ab2.1 hs).1; omega
  have hrs:=(g4 _ s hs).2
  have hcell:w.cell? ⟨G.oP id,off+1,none⟩=some (C.getD (off+1) undef):=by
   rw [cell_of w _ _ g1,ab8,Array.getElem?_eq_getElem hlt]; rfl
  rw [hXe]
  exact Tu p2 p3 i hcell hrs hb
 | copyCheck =>
  obtain⟨p1,p2⟩:=hP
  refine⟨fun w=>p1 X w,?_⟩
  simp only [D8] at hb
  split at hb
  case h_2=>cases hb
  rename_i id off
  split at hb
  case h_2=>cases hb
  rename_i x hg
  have hid:=Ih hg
  cases hbl:A.bld x.1 off x.2.length with
  | false=>rw [hbl] at hb; cases hb
  | true =>
   rw [hbl] at hb
   simp only [cond_true] at hb
   obtain⟨C,g1,g2,g3,g4⟩:=i.oP id _ hid
   obtain⟨hX0,hlv⟩:=(hx.2 0 _ rfl).x6
   have hXe:X=#[.pointer (some ⟨G.oP id,off,none⟩)]:=by
    obtain⟨l⟩:=X
    match l,hx.1,hX0 with
    | [a],_,h0=>simp at h0; subst h0; rfl
   have main:∀c,x.2[off]?=some c→(∀V,lP G h c V→V=.pointer none∨V=.pointer (some ⟨G.oP id,off,none⟩))→r=.ret (.tuple [])→h'=h.set id (.tcells x.1 (putCells x.2 off [.ptr id off]))→Calls P f X w (wZ G h w r h'):=by
    intro c hc hcv hr hh
    subst hr hh
    have hlt:off < x.2.length:=(ab2.1 hc).1
    have hlt':off < C.size:=by omega
    have hCv:=hcv _ (g4 off c hc).2
    rw [ab8,Array.getElem?_eq_getElem hlt',Option.getD_some] at hCv
    rw [hXe]
    refine Calls.mono (p2 w (G.oP id) off x.1 C (by rw [g2]; exact hbl) g1 hlt' (by rw [Array.getElem?_eq_getElem hlt']; rcases hCv with e | e <;> simp [e])) fun e w' hp=>?_
    obtain⟨rfl,rfl⟩:=hp
    have hw:=i.ae5 (off:=off) (vs:=[.ptr id off]) (U:=[.pointer (some ⟨G.oP id,off,none⟩)]) hid g1 (by simp; omega) rfl (fun j u hu=>by
     cases j with
     | zero=>simp at hu; subst hu; exact⟨rfl,.ptr id off hlv⟩
     | succ j=>simp at hu)
    exact⟨G,hw.2,hw.1,_,rfl,.p _ _ (.tuple [] #[] rfl (by simp))⟩
   split at hb
   ·rename_i hc
    simp only [ab3,af1] at hb
    refine main _ hc (fun V hV=>.inl ?_) hb.1.symm hb.2.symm
    cases hV with | p _ _ hp=>cases hp; rfl
   ·rename_i id' off' hc
    split at hb
    ·rename_i he
     obtain⟨rfl,rfl⟩:=he
     simp only [ab3,af1] at hb
     refine main _ hc (fun V hV=>.inr ?_) hb.1.symm hb.2.symm
     exact hV.x6.1
    ·cases hb
   ·cases hb
theorem Xg (hm:P.follows .mixedOrders=true) (hX:yQ P A) (hK:vS P A (mD A K)) (hlp:QU lp):vS P A (qJ P A lp K):=by
 intro f args h r h' hb G w X i gl hx
 unfold qJ at hb
 cases hpr:A.prm f with
 | some k =>
  simp only [hpr] at hb
  exact Sp (hX.2 f k hpr) hb i gl hx
 | none =>
 simp only [hpr] at hb
 cases hf:P.funcs[f]? with
 | none=>rw [hf] at hb; cases hb
 | some fn =>
  simp only [hf] at hb
  cases hc:fn.body with
  | none=>rw [hc] at hb; cases hb
  | some c =>
   simp only [hc] at hb
   cases hg:decide (args.length≤fn.ntmps) && !(fn.name == "runtime.NumGoroutine") with
   | false=>rw [hg] at hb; cases hb
   | true =>
    rw [hg] at hb
    simp only [am2,decide_eq_true_eq,Bool.not_eq_true'] at hg
    refine⟨fun w=>?_,Pm hm hX hK hlp hf hc hb i gl hx hg.1⟩
    have hne:¬fn.name = "runtime.NumGoroutine" := by simpa using hg.2
    simp [callFunc,Sem.run_bind,hf,hc,hne,Sem.run_pure]
theorem Inv.empty (i:Inv G h w):Inv G [] w:=⟨i.ok,fun id bl hb=>by simp at hb,fun a b c ha=>by simp [owner] at ha⟩
theorem L5 {out:Bool}{r1 r:n_}{h1 h':kT}{e:Ending}{w':World}(hb:EJ out h (r1,h1)=some (r,h')) (i:Inv G h w) (hpost:wZ G [] w r1 h1 e w'):wZ G h w r h' e w':=by
 obtain⟨G',x,i',hpost⟩:=hpost
 have fr:∀b,b < w.heap.size→w'.heap[b]?=w.heap[b]?∧∀k,G'.H b k=G.H b k:=fun b hb=>x.frame b hb fun id=>by simp [owner]
 have new:∀{j b:Nat},owner G' h1 j=some b→¬b < w.heap.size:=fun ho hlt=>by
  have:=x.own _ _ ho hlt
  simp [owner] at this
 have hcase:h1=[]∧r=r1∧h'=h:=by
  unfold EJ at hb
  cases h1 with
  | nil=>cases hb; exact⟨rfl,rfl,rfl⟩
  | cons b t=>cases hb
 obtain⟨rfl,rfl,rfl⟩:=hcase
 let G2:Gh:={ G' with oP:=G.oP,cur:=G.cur }
 have mono:Ed G h' G2 h':=⟨x.hmono,fun id bl hb=>⟨bl,hb,by cases bl <;> simp [Kind,G2]⟩⟩
 have key:∀{v:kP}{V:Value},lP G' [] v V→lP G2 h' v V:=by
  intro v V r
  have nl:∀id,¬live ([]:kT) id:=fun id ⟨b,hb,_⟩=>by simp at hb
  induction r with
  | p v V hp=>exact .p v V hp
  | agg cs C hl _ ih=>exact .agg cs C hl ih
  | tuple cs C hl _ ih=>exact .tuple cs C hl ih
  | nil=>exact .nil
  | own rows id n sz V hp hf=>simp at hf
  | ownv id V hp hb=>obtain⟨b,hb,_⟩:=hb; simp at hb
  | vslice id tot off len sz b cap hb=>obtain⟨b,hb,_⟩:=hb; simp at hb
  | vptr id tot off b hb=>obtain⟨b,hb,_⟩:=hb; simp at hb
  | ptr id off hl=>exact absurd hl (nl id)
  | mslice id off len sz cap hl=>exact absurd hl (nl id)
  | mslice0 id off sz cap a=>exact .mslice0 id off sz cap a
  | map id hl=>exact absurd hl (nl id)
  | func f first cap F C hlf hlc _ _ ih1 ih2=>exact .func f first cap F C hlf hlc ih1 ih2
  | iface t v V _ ih=>exact .iface t v V ih
 refine⟨G2,⟨x.os,x.tape,x.output,x.size,fun b hb _=>fr b hb,x.hmono,fun id b ho _=>ho,mono.kinds⟩,⟨i'.ok,fun id bl hb=>?_,fun a b c ha hb=>i.inj a b c ha hb⟩,?_⟩
 ·refine(i.oP id bl hb).Xx mono rfl rfl fun b ho=>?_
  exact fr b ((i.oP id bl hb).lt ho)
 ·cases r with
  | ret v=>obtain⟨V,he,hV⟩:=hpost; exact⟨V,he,key hV⟩
  | pan v=>obtain⟨V,he,hV⟩:=hpost; exact⟨V,he,key hV⟩
theorem Rl (hK:vS P A K):vS P A (mD A K):=by
 intro f args h r h' hb G w X i gl hx
 unfold mD at hb
 cases hp:A.pure f with
 | false =>
  rw [hp] at hb
  exact hK f args h r h' hb G w X i gl hx
 | true =>
  rw [hp] at hb
  simp only [cond_true] at hb
  cases hs:args.all (kP.oZ 0) with
  | false=>rw [hs] at hb; cases hb
  | true =>
   rw [hs] at hb
   simp only [cond_true] at hb
   obtain⟨⟨r1,h1⟩,hc,hb⟩:=ab0.1 hb
   simp only [ag3] at hs
   have l:Left G h G [] 0:=⟨fun _ _ _ h=>h,rfl,rfl,fun id hid=>absurd hid (by omega),fun id n sz t hid=>absurd hid (by omega),fun id hid=>absurd hid (by omega)⟩
   have hx0:Cj G [] args X:=⟨hx.1,fun j u hu=>zN l (hs u (List.mem_of_getElem? hu)) (hx.2 j u hu)⟩
   obtain⟨e1,e2⟩:=hK f args [] _ _ hc G w X i.empty (gl.sub rfl fun id b ho=>by simp [owner] at ho) hx0
   refine⟨e1,Calls.mono e2 fun e w' hpost=>?_⟩
   exact L5 hb i hpost
theorem N6 (hm:P.follows .mixedOrders=true) (hX:yQ P A) (hlp:QU lp):∀n,vS P A (Ta P A lp n)
 | 0=>fun f args h r h' hb=>by simp [Ta] at hb
 | n+1=>fun f args h r h' hb=>Xg hm hX (Rl (N6 hm hX hlp n)) hlp f args h r h' hb
end
end
noncomputable section
open Go Go.RowKit
def Ev (p:Nat→Prop):Prop:=∃N,∀n,N≤n→p n
theorem Ev.of {p:Nat→Prop}(h:∀n,p n):Ev p:=⟨0,fun n _=>h n⟩
theorem Ev.imp {p q:Nat→Prop}(h:Ev p) (hi:∀n,p n→q n):Ev q:=let ⟨N,hN⟩:=h; ⟨N,fun n hn=>hi n (hN n hn)⟩
theorem Ev.and {p q:Nat→Prop}(h:Ev p) (h':Ev q):Ev fun n=>p n∧q n :=
 let ⟨N,hN⟩:=h; let ⟨M,hM⟩:=h'; ⟨max N M,fun n hn=>⟨hN n (by omega),hM n (by omega)⟩⟩
theorem Ls {F:List kP×kT→Option R}:∀{n:Nat}{s:List kP×kT}{r:R},uN n F s=some r→uN (n+1) F s=some r
 | 0,s,r,h=>by simp [uN] at h
 | n+1,s,r,h=>by
  rw [uN] at h ⊢
  obtain⟨r1,h1,h2⟩:=ab0.1 h
  rw [h1]
  simp only [an3]
  cases he:r1.1 with
  | normal=>rw [he] at h2; exact Ls h2
  | _=>rw [he] at h2; exact h2
theorem Jl {F:List kP×kT→Option R}{n m:Nat}{s:List kP×kT}{r:R}(hnm:n≤m) (h:uN n F s=some r):uN m F s=some r:=by
 induction hnm with
 | refl=>exact h
 | step _ ih=>exact Ls ih
open Classical in
def mQ (F:List kP×kT→Option R) (s:List kP×kT):Option R :=
 if h:∃n r,uN n F s=some r then some (Classical.choose (Classical.choose_spec h)) else none
theorem Ct {F:List kP×kT→Option R}{s:List kP×kT}{r:R}:mQ F s=some r↔∃n,uN n F s=some r:=by
 unfold mQ
 constructor
 ·intro h
  split at h
  ·rename_i hx
   cases h
   exact⟨_,Classical.choose_spec (Classical.choose_spec hx)⟩
  ·cases h
 ·rintro⟨n,hn⟩
  have hx:∃n r,uN n F s=some r:=⟨n,r,hn⟩
  rw [dif_pos hx]
  have h1:=Classical.choose_spec (Classical.choose_spec hx)
  have h2:=Jl (Nat.le_max_left _ n) h1
  have h3:=Jl (Nat.le_max_right (Classical.choose hx) n) hn
  rw [h2] at h3
  exact h3
theorem arX:QU mQ:=fun _ _ _ h=>Ct.1 h
theorem nA (F:List kP×kT→Option R) (s:List kP×kT):mQ F s=(F s).bind fun r=>r.1.mG (mQ F r.2) fun e=>some (e,r.2):=by
 apply Option.ext
 intro r
 rw [Ct]
 constructor
 ·rintro⟨n,hn⟩
  cases n with
  | zero=>simp [uN] at hn
  | succ n =>
   rw [uN] at hn
   obtain⟨r1,h1,h2⟩:=ab0.1 hn
   rw [h1]
   simp only [an3]
   cases he:r1.1 with
   | normal=>rw [he] at h2; exact Ct.2 ⟨n,h2⟩
   | _=>rw [he] at h2; exact h2
 ·intro h
  obtain⟨r1,h1,h2⟩:=ab0.1 h
  cases he:r1.1 with
  | normal =>
   rw [he] at h2
   obtain⟨n,hn⟩:=Ct.1 h2
   exact⟨n+1,by rw [uN,h1]; simp only [an3,he]; exact hn⟩
  | _ =>
   rw [he] at h2
   exact⟨1,by rw [uN,h1]; simp only [an3,he]; exact h2⟩
theorem aiO {F:List kP×kT→Option R}{Fn:Nat→List kP×kT→Option R}(hF:∀s r,F s=some r→Ev fun n=>Fn n s=some r) {s:List kP×kT}{r:R}(h:mQ F s=some r) :
  Ev fun n=>mQ (Fn n) s=some r:=by
 obtain⟨m,hm⟩:=Ct.1 h
 have key:∀(m:Nat) (s:List kP×kT),uN m F s=some r→Ev fun n=>uN m (Fn n) s=some r:=by
  intro m
  induction m with
  | zero=>intro s h; simp [uN] at h
  | succ m ih =>
   intro s h
   rw [uN] at h
   obtain⟨r1,h1,h2⟩:=ab0.1 h
   cases he:r1.1 with
   | normal =>
    rw [he] at h2
    refine((hF _ _ h1).and (ih _ h2)).imp fun n hn=>?_
    rw [uN,hn.1]; simp only [an3,he]; exact hn.2
   | _ =>
    rw [he] at h2
    refine(hF _ _ h1).imp fun n hn=>?_
    rw [uN,hn]; simp only [an3,he]; exact h2
 exact(key m s hm).imp fun n hn=>Ct.2 ⟨m,hn⟩
section
variable {cx:Cx}{o:Oper}{ρ:List kP}{h:kT}{kv kp:kP→kT→Option R}{r:R}{ids:List Nat}{ops:List Oper}
theorem aaE {kvn kpn:Nat→kP→kT→Option R}(hv:∀v h r,kv v h=some r→Ev fun n=>kvn n v h=some r) (hp:∀v h r,kp v h=some r→Ev fun n=>kpn n v h=some r) {r0:R}
  (hb:kX kv kp r0=some r):Ev fun n=>kX (kvn n) (kpn n) r0=some r:=by
 obtain⟨e,l,h⟩:=r0
 cases e with
 | normal =>
  match l with
  | []=>cases hb
  | [v]=>exact hv v h r hb
  | _::_::_=>cases hb
 | pan v=>exact hp v h r hb
 | exit _=>cases hb
 | ret=>cases hb
def D9 (K:lE) (Kn:Nat→lE):Prop:=∀f args h r,K f args h=some r→Ev fun n=>Kn n f args h=some r
theorem Z9 {lp':YL}{K':lE}{rsv:Option Nat}(hne:∀c f,o.op=.call c→c.callee=.value f→False) (hni:∀c f m,o.op=.call c→c.callee=.invoke f m→False):evalOp { cx with K:=K',lp:=lp' } o rsv ρ h kv kp=evalOp cx o rsv ρ h kv kp:=by
 unfold evalOp oL
 cases ho:o.op with
 | call c =>
  simp only []
  cases hc:c.callee with
  | value f=>exact(hne c f ho hc).elim
  | builtin b=>rfl
  | invoke f m=>exact(hni c f m ho hc).elim
 | makeFunc b f c=>cases b <;> rfl
 | makeMap t r=>cases r <;> rfl
 | typeAssert x xt t ok=>cases ok <;> rfl
 | slice t x lo hi mx=>cases mx <;> rfl
 | assign x=>cases Di x <;> rfl
 | _=>rfl
theorem FT {lp':YL}{Kn:Nat→lE}{kvn kpn:Nat→kP→kT→Option R}{rsv:Option Nat}(hK:D9 cx.K Kn) (hv:∀v h r,kv v h=some r→Ev fun n=>kvn n v h=some r)
  (hp:∀v h r,kp v h=some r→Ev fun n=>kpn n v h=some r) (hb:evalOp cx o rsv ρ h kv kp=some r):Ev fun n=>evalOp { cx with K:=Kn n,lp:=lp' } o rsv ρ h (kvn n) (kpn n)=some r:=by
 rw [DE] at hb
 obtain⟨r0,h1,h2⟩:=ab0.1 hb
 have key:Ev fun n=>evalOp { cx with K:=Kn n,lp:=lp' } o rsv ρ h kY AV=some r0:=by
  by_cases hne:∃c f,o.op=.call c∧c.callee=.value f
  ·obtain⟨c,f,ho,hc⟩:=hne
   simp only [evalOp,oL,ho,hc] at h1 ⊢
   obtain⟨g,hg,h1⟩:=ab0.1 h1
   cases hext:cx.A.ext g.1 with
   | some ek =>
    refine Ev.of fun n=>?_
    simp only [hg,an3,Cn,hext] at h1 ⊢
    exact h1
   | none =>
    simp only [Cn,hext] at h1 ⊢
    unfold kU at h1 ⊢
    obtain⟨r1,hk,h1⟩:=ab0.1 h1
    refine(hK _ _ _ _ hk).imp fun n hn=>?_
    simp only [hg,an3,hext,hn]
    exact h1
  ·by_cases hni:∃c f m,o.op=.call c∧c.callee=.invoke f m
   ·obtain⟨c,f,m,ho,hc⟩:=hni
    simp only [evalOp,oL,ho,hc] at h1 ⊢
    obtain⟨g,hg,h1⟩:=ab0.1 h1
    cases hext:cx.A.ext g.1 with
    | some ek =>
     refine Ev.of fun n=>?_
     simp only [hg,an3,Cn,hext] at h1 ⊢
     exact h1
    | none =>
     simp only [Cn,hext] at h1 ⊢
     unfold kU at h1 ⊢
     obtain⟨r1,hk,h1⟩:=ab0.1 h1
     refine(hK _ _ _ _ hk).imp fun n hn=>?_
     simp only [hg,an3,hext,hn]
     exact h1
   ·refine Ev.of fun n=>?_
    rw [Z9 (fun c f ho hc=>hne ⟨c,f,ho,hc⟩) (fun c f m ho hc=>hni ⟨c,f,m,ho,hc⟩)]
    exact h1
 refine(key.and (aaE hv hp h2)).imp fun n hn=>?_
 rw [DE,hn.1]
 exact hn.2
theorem K0 {lp':YL}{Kn:Nat→lE}{kvn kpn:Nat→kP→kT→Option R}(hK:D9 cx.K Kn) (hv:∀v h r,kv v h=some r→Ev fun n=>kvn n v h=some r)
  (hp:∀v h r,kp v h=some r→Ev fun n=>kpn n v h=some r) (hb:pF cx o ids ρ h kv kp=some r):Ev fun n=>pF { cx with K:=Kn n,lp:=lp' } o ids ρ h (kvn n) (kpn n)=some r :=
 FT hK (fun v h' r hk=>hv v _ r hk) (fun v h' r hk=>hp v _ r hk) hb
theorem Ru {lp':YL}{Kn:Nat→lE}{m:Nat}{kvn:Nat→kP→kT→Option R}(hK:D9 cx.K Kn) (hv:∀v h r,kv v h=some r→Ev fun n=>kvn n v h=some r)
  (hb:AQ cx o m ids ρ h kv=some r):Ev fun n=>AQ { cx with K:=Kn n,lp:=lp' } o m ids ρ h (kvn n)=some r:=by
 unfold AQ at hb ⊢
 cases hs:(h.take m).all (xU m) with
 | false=>rw [hs] at hb; cases hb
 | true =>
  rw [hs] at hb
  simp only [cond_true] at hb ⊢
  obtain⟨r0,h1,h2⟩:=ab0.1 hb
  have e1:Ev fun n=>pF { cx with K:=Kn n,lp:=lp' } o ids (ρ.map (AJ m)) (h.take m) kY AV=some r0 :=
   K0 (kvn:=fun _=>kY) (kpn:=fun _=>AV) hK (fun _ _ _ h=>Ev.of fun _=>h) (fun _ _ _ h=>Ev.of fun _=>h) h1
  have e2:Ev fun n=>Py m h (kvn n) r0=some r:=by
   unfold Py at h2 ⊢
   split at h2
   ·rename_i v t
    cases hl:t.length == m with
    | false=>rw [hl] at h2; cases h2
    | true=>rw [hl] at h2; exact hv _ _ _ h2
   ·cases h2
  refine(e1.and e2).imp fun n hn=>?_
  rw [hn.1]
  exact hn.2
theorem Pn {lp':YL}{Kn:Nat→lE}{kvn kpn:Nat→kP→kT→Option R}(hK:D9 cx.K Kn) (hv:∀v h r,kv v h=some r→Ev fun n=>kvn n v h=some r)
  (hp:∀v h r,kp v h=some r→Ev fun n=>kpn n v h=some r) (hb:wA cx ops o ids ρ h kv kp=some r):Ev fun n=>wA { cx with K:=Kn n,lp:=lp' } ops o ids ρ h (kvn n) (kpn n)=some r:=by
 have L:pF cx o ids ρ h kv kp=some r→Ev fun n=>pF { cx with K:=Kn n,lp:=lp' } o ids ρ h (kvn n) (kpn n)=some r :=
  fun hb=>FT hK (fun v h' r hk=>hv v _ r hk) (fun v h' r hk=>hp v _ r hk) hb
 simp only [Cq] at hb ⊢
 unfold BJ at hb ⊢
 cases hg:o.guard with
 | none=>simp only [hg] at hb ⊢; exact L hb
 | some jw =>
  obtain⟨j,want⟩:=jw
  simp only [hg] at hb ⊢
  cases hd:(ops[j]?).bind (·.dst) with
  | none=>simp only [hd] at hb; cases hb
  | some d =>
   simp only [hd] at hb ⊢
   generalize ρ.getD d .junk=x at hb ⊢
   split at hb
   ·rename_i g
    cases want <;> cases g <;> simp only [cond_true,cond_false] at hb ⊢
    ·exact L hb
    ·exact hv _ _ _ hb
    ·exact hv _ _ _ hb
    ·exact L hb
   ·exact hv _ _ _ hb
   ·cases hb
theorem Nk {lp':YL}{Kn:Nat→lE}{m:Nat}{it:Item}{kvn kpn:Nat→kP→kT→Option R}(hK:D9 cx.K Kn) (hv:∀v h r,kv v h=some r→Ev fun n=>kvn n v h=some r)
  (hp:∀v h r,kp v h=some r→Ev fun n=>kpn n v h=some r) (hb:pL cx ops m it ids ρ h kv kp=some r):Ev fun n=>pL { cx with K:=Kn n,lp:=lp' } ops m it ids ρ h (kvn n) (kpn n)=some r:=by
 unfold pL at hb ⊢
 cases hr:it.rsv with
 | some j =>
  simp only [hr] at hb ⊢
  cases hf:vH it.o with
  | false=>rw [hf] at hb; cases hb
  | true =>
   rw [hf] at hb
   exact FT (kpn:=fun _ _ _=>none) hK hv (fun _ _ _ h=>by cases h) hb
 | none =>
  simp only [hr] at hb ⊢
  cases hh:it.hid with
  | true =>
   simp only [hh,cond_true] at hb ⊢
   cases hf:Aa it.o with
   | false=>rw [hf] at hb; cases hb
   | true =>
    rw [hf] at hb
    exact Ru hK hv hb
  | false =>
   simp only [hh,cond_false] at hb ⊢
   exact Pn hK hv hp hb
theorem AS {lp':YL}{m:Nat}{Kn:Nat→lE}{k:List kP→kT→Option R}{kn:Nat→List kP→kT→Option R}{kpn:Nat→kP→kT→Option R}(hK:D9 cx.K Kn)
  (hk:∀ρ h r,k ρ h=some r→Ev fun n=>kn n ρ h=some r) (hp:∀v h r,kp v h=some r→Ev fun n=>kpn n v h=some r):∀(items:List Item) (seen ρ:List kP) (h:kT) (r:R),
  pT cx ops m items seen ρ h k kp=some r→Ev fun n=>pT { cx with K:=Kn n,lp:=lp' } ops m items seen ρ h (kn n) (kpn n)=some r:=by
 intro items
 induction items with
 | nil=>intro seen ρ h r hb; exact hk _ _ _ hb
 | cons it rest ih =>
  intro seen ρ h r hb
  simp only [pT,Ax] at hb ⊢
  exact Nk hK (fun v h' r hb=>ih _ _ _ _ hb) hp hb
theorem K4 {lp':YL}{Kn:Nat→lE}{k:List kP→kT→Option R}{kn:Nat→List kP→kT→Option R}{kp:kP→kT→Option R}{kpn:Nat→kP→kT→Option R}{draw:Bool}(hK:D9 cx.K Kn)
  (hk:∀ρ h r,k ρ h=some r→Ev fun n=>kn n ρ h=some r) (hkp:∀v h r,kp v h=some r→Ev fun n=>kpn n v h=some r) (hb:y6 cx ops draw ρ h k kp=some r):Ev fun n=>y6 { cx with K:=Kn n,lp:=lp' } ops draw ρ h (kn n) (kpn n)=some r:=by
 unfold y6 at hb ⊢
 cases draw with
 | false=>exact AS hK (fun ρ h r hb=>hk _ _ _ hb) (fun v h r hb=>hkp _ _ _ hb) _ _ _ _ _ hb
 | true =>
  simp only [] at hb ⊢
  cases hd:DA ops with
  | none=>simp only [hd] at hb; cases hb
  | some items =>
   simp only [hd] at hb ⊢
   exact AS (cx:={ cx with rb:=false }) hK (fun ρ h r hb=>hk _ _ _ hb) (fun v h r hb=>hkp _ _ _ hb) _ _ _ _ _ hb
end
theorem NX {v:kP}{t e:Option R}{tn en:Nat→Option R}{r:R}(ht:t=some r→Ev fun n=>tn n=some r) (he:e=some r→Ev fun n=>en n=some r) (hb:lC v t e=some r) :
  Ev fun n=>lC v (tn n) (en n)=some r:=by
 unfold lC at hb ⊢
 split at hb
 ·rename_i b; cases b
  ·exact he hb
  ·exact ht hb
 ·cases hb
theorem MD {e:Ex}{x:Option R}{f:Ex→Option R}{xn:Nat→Option R}{fn:Nat→Ex→Option R}{r:R}(hx:x=some r→Ev fun n=>xn n=some r) (hf:∀e,f e=some r→Ev fun n=>fn n e=some r)
  (hb:e.mG x f=some r):Ev fun n=>e.mG (xn n) (fn n)=some r:=by
 cases e with
 | normal=>exact hx hb
 | _=>exact hf _ hb
theorem akY {e:Ex}{x:Option R}{xn:Nat→Option R}{r:R}(hx:x=some r→Ev fun n=>xn n=some r) (hb:e.uJ x=some r):Ev fun n=>e.uJ (xn n)=some r:=by
 cases e with
 | normal=>exact hx hb
 | _=>cases hb
theorem Je {id:Nat}{e:Ex}{x:Option R}{f:Ex→Option R}{xn:Nat→Option R}{fn:Nat→Ex→Option R}{r:R}(hx:x=some r→Ev fun n=>xn n=some r) (hf:∀e,f e=some r→Ev fun n=>fn n e=some r)
  (hb:e.inBlock id x f=some r):Ev fun n=>e.inBlock id (xn n) (fn n)=some r:=by
 cases e with
 | normal=>exact hx hb
 | exit j =>
  simp only [Ex.inBlock] at hb ⊢
  cases hj:j == id with
  | true=>rw [hj] at hb; exact hx hb
  | false=>rw [hj] at hb; exact hf _ hb
 | _=>exact hf _ hb
theorem Br {cx:Cx}{Kn:Nat→lE}(hK:D9 cx.K Kn) (hlp:∀F s r,cx.lp F s=some r→mQ F s=some r):∀(c:Code) (L:Nat) (ρ:List kP) (h:kT) (kn:List kP→kT→Option R) (ke:Ex→List kP→kT→Option R)
  (knn:Nat→List kP→kT→Option R) (ken:Nat→Ex→List kP→kT→Option R) (r:R),
  (∀ρ h r,kn ρ h=some r→Ev fun n=>knn n ρ h=some r)→(∀e ρ h r,ke e ρ h=some r→Ev fun n=>ken n e ρ h=some r)→evalCode cx c L ρ h kn ke=some r→Ev fun n=>evalCode { cx with K:=Kn n,lp:=mQ } c L ρ h (knn n) (ken n)=some r:=by
 obtain⟨P,A,K,lp,nt,full,pan,vec,frz,vlit,vmk,jt,lkp,rb,frl,tb⟩:=cx
 dsimp only at hlp
 intro c
 induction c with
 | skip=>intro L ρ h kn ke knn ken r hk he hb; exact hk _ _ _ hb
 | region id ops draw=>intro L ρ h kn ke knn ken r hk he hb; exact K4 hK hk (kpn:=fun n=>aAC pan (ken n) ρ) (fun v h r hb=>by cases pan <;> first | exact he _ _ _ _ hb | cases hb) hb
 | seq x y ihx ihy =>
  intro L ρ h kn ke knn ken r hk he hb
  simp only [evalCode] at hb ⊢
  exact ihx _ ρ h _ _ _ _ r (fun ρ h r hb=>ihy _ _ _ _ _ _ _ _ hk he hb) he hb
 | cond c x y ihx ihy =>
  intro L ρ h kn ke knn ken r hk he hb
  simp only [evalCode] at hb ⊢
  cases hf:zI x && zI y with
  | true =>
   simp only [hf,cond_true] at hb ⊢
   obtain⟨r0,h1,h2⟩:=ab0.1 hb
   have e1:=NX (ihx L ρ h _ _ (fun _=>FP jt h.length L .normal) (fun _=>FP jt h.length L) r0 (fun ρ h r hb=>Ev.of fun _=>hb) (fun e ρ h r hb=>Ev.of fun _=>hb)) (ihy L ρ h _ _ (fun _=>FP jt h.length L .normal) (fun _=>FP jt h.length L) r0 (fun ρ h r hb=>Ev.of fun _=>hb) (fun e ρ h r hb=>Ev.of fun _=>hb)) h1
   have e2:Ev fun n=>(bif pan || (leaves [] x || leaves [] y) then r0.1.mG (knn n (unpack nt L r0.2.1) r0.2.2) fun e=>ken n e (unpack nt L r0.2.1) r0.2.2 else r0.1.uJ (knn n (unpack nt L r0.2.1) r0.2.2))=some r:=by
    cases hl:pan || (leaves [] x || leaves [] y) with
    | true=>rw [hl] at h2; exact MD (hk _ _ _) (fun e=>he e _ _ _) h2
    | false=>rw [hl] at h2; exact akY (hk _ _ _) h2
   refine(e1.and e2).imp fun n hn=>?_
   rw [ab0]
   exact⟨r0,hn.1,hn.2⟩
  | false =>
   simp only [hf,cond_false] at hb ⊢
   exact NX (ihx L ρ h _ _ knn ken r hk he) (ihy L ρ h _ _ knn ken r hk he) hb
 | block id c ih =>
  intro L ρ h kn ke knn ken r hk he hb
  simp only [evalCode] at hb ⊢
  cases hf:decide (2≤CU id c+bif zI c then 1 else 0) with
  | true =>
   simp only [hf,cond_true] at hb ⊢
   obtain⟨r0,h1,h2⟩:=ab0.1 hb
   refine((ih L ρ h _ _ (fun _=>FP jt h.length L .normal) (fun _=>FP jt h.length L) r0 (fun ρ h r hb=>Ev.of fun _=>hb) (fun e ρ h r hb=>Ev.of fun _=>hb) h1).and (Je (hk _ _ _) (fun e=>he e _ _ _) h2)).imp fun n hn=>?_
   rw [ab0]
   exact⟨r0,hn.1,hn.2⟩
  | false =>
   simp only [hf,cond_false] at hb ⊢
   exact ih L ρ h _ _ knn (fun n e ρ' h'=>e.inBlock id (knn n ρ' h') fun e=>ken n e ρ' h') r hk (fun e ρ' h' r hb=>Je (hk _ _ _) (fun e=>he e _ _ _) hb) hb
 | loop c ih =>
  intro L ρ h kn ke knn ken r hk he hb
  simp only [evalCode] at hb ⊢
  obtain⟨r0,h1,h2⟩:=ab0.1 hb
  refine((aiO (fun s r hb=>ih _ _ _ _ _ (fun _=>El lkp h.length (L ||| ue full c) .normal) (fun _=>El lkp h.length (L ||| ue full c)) _ (fun ρ h r hb=>Ev.of fun _=>hb) (fun e ρ h r hb=>Ev.of fun _=>hb) hb) (hlp _ _ _ h1)).and
   (MD (x:=none) (xn:=fun _=>none) (fun h=>by cases h) (fun e=>he e _ _ _) h2)).imp fun n hn=>?_
  rw [ab0]
  exact⟨r0,hn.1,hn.2⟩
 | scope c ih=>intro L ρ h kn ke knn ken r hk he hb; exact ih L ρ h kn ke knn ken r hk he hb
 | label l=>intro L ρ h kn ke knn ken r hk he hb; exact hk _ _ _ hb
 | exit id=>intro L ρ h kn ke knn ken r hk he hb; exact he _ _ _ _ hb
 | ret=>intro L ρ h kn ke knn ken r hk he hb; exact he _ _ _ _ hb
 | _=>intro L ρ h kn ke knn ken r hk he hb; simp [evalCode] at hb
theorem Rx {cx:Cx}{Kn:Nat→lE}(hK:D9 cx.K Kn) (hlp:∀F s r,cx.lp F s=some r→mQ F s=some r) {g:Nat}{caps:List kP}{pv:Option kP}{h h':kT}(hb:yY cx g caps pv h=some h') :
  Ev fun n=>yY { cx with K:=Kn n,lp:=mQ } g caps pv h=some h':=by
 unfold yY at hb ⊢
 cases hf:cx.P.funcs[g]? with
 | none=>rw [hf] at hb; cases hb
 | some fn =>
  simp only [hf] at hb ⊢
  split at hb
  ·rename_i id ops c hbody
   split at hb
   ·rename_i o os hops
    cases hc:(E8 o && decide (caps.length≤fn.ntmps) && fn.results.isEmpty && !(fn.name == "runtime.NumGoroutine")) with
    | false=>rw [hc] at hb; cases hb
    | true =>
     rw [hc] at hb
     simp only [cond_true] at hb ⊢
     obtain⟨r0,h1,h2⟩:=ab0.1 hb
     have e1:=AS (cx:={ cx with n:=fn.ntmps,full:=2 ^ fn.ntmps - 1,pan:=false }) (lp':=mQ) (ops:=ops.toList) (kp:=fun _ _=>none) (kpn:=fun _ _ _=>none)
      (kn:=fun n ρ' h'=>evalCode { cx with K:=Kn n,lp:=mQ,n:=fn.ntmps,full:=2 ^ fn.ntmps - 1,pan:=false } c 0 ρ' h' (Jp 0) (Jo 0)) hK
      (fun ρ h r hb=>Br (cx:={ cx with n:=fn.ntmps,full:=2 ^ fn.ntmps - 1,pan:=false }) hK hlp c 0 ρ h _ _ (fun _=>Jp 0) (fun _=>Jo 0) r (fun ρ h r hb=>Ev.of fun _=>hb) (fun e ρ h r hb=>Ev.of fun _=>hb) hb)
      (fun _ _ _ h=>by cases h) _ _ _ _ _ h1
     refine e1.imp fun n hn=>?_
     rw [ab0]
     exact⟨r0,hn,h2⟩
   ·cases hb
  ·cases hb
theorem Po {cx:Cx}{Kn:Nat→lE}(hK:D9 cx.K Kn) (hlp:∀F s r,cx.lp F s=some r→mQ F s=some r) {b:Code}{L:Nat}{fv:kP}{ρ:List kP}{h:kT}{r:R}(hb:BY cx b L fv ρ h=some r) :
  Ev fun n=>BY { cx with K:=Kn n,lp:=mQ } b L fv ρ h=some r:=by
 unfold BY at hb ⊢
 cases hok:ED L b with
 | false=>rw [hok] at hb; cases hb
 | true =>
  rw [hok] at hb
  simp only [cond_true] at hb ⊢
  obtain⟨g,hg,hb⟩:=ab0.1 hb
  simp only [hg,an3]
  obtain⟨r0,h1,h2⟩:=ab0.1 hb
  have e1:=Br (cx:={ cx with pan:=true }) hK hlp b L ρ h _ _ (fun _=>Jp L) (fun _=>Jo L) r0 (fun ρ h r hb=>Ev.of fun _=>hb) (fun e ρ h r hb=>Ev.of fun _=>hb) h1
  have e2:Ev fun n=>r0.1.Rt ((yY { cx with K:=Kn n,lp:=mQ } g.1 (g.2.1++g.2.2) none r0.2.2).map fun h2=>((.ret,r0.2.1,h2):R)) (fun v=>(yY { cx with K:=Kn n,lp:=mQ } g.1 (g.2.1++g.2.2) (some v) r0.2.2).map fun h2=>((.ret,pack L ρ,h2):R))=some r:=by
   have key:∀{pv:Option kP}{pk:List kP},((yY cx g.1 (g.2.1++g.2.2) pv r0.2.2).map fun h2=>((.ret,pk,h2):R))=some r→Ev fun n=>((yY { cx with K:=Kn n,lp:=mQ } g.1 (g.2.1++g.2.2) pv r0.2.2).map fun h2=>((.ret,pk,h2):R))=some r:=by
    intro pv pk hx
    obtain⟨h3,e3,e4⟩:=ac5.1 hx
    exact(Rx hK hlp e3).imp fun n hn=>by rw [hn]; exact congrArg some e4
   cases he:r0.1 with
   | normal=>rw [he] at h2; exact key h2
   | ret=>rw [he] at h2; exact key h2
   | exit id=>rw [he] at h2; cases h2
   | pan v=>rw [he] at h2; exact key h2
  refine(e1.and e2).imp fun n hn=>?_
  rw [ab0]
  exact⟨r0,hn.1,hn.2⟩
theorem Rv {cx:Cx}{Kn:Nat→lE}(hK:D9 cx.K Kn) (hlp:∀F s r,cx.lp F s=some r→mQ F s=some r):∀(c:Code) (L:Nat) (ρ:List kP) (h:kT) (r:R),u_ cx c L ρ h=some r →
  Ev fun n=>u_ { cx with K:=Kn n,lp:=mQ } c L ρ h=some r:=by
 intro c
 induction c with
 | seq x y ihx ihy =>
  intro L ρ h r hb
  have piece:evalCode cx x (L ||| ue cx.full y) ρ h (fun ρ' h'=>u_ cx y L ρ' h') (Oq L)=some r →
    Ev fun n=>evalCode { cx with K:=Kn n,lp:=mQ } x (L ||| ue cx.full y) ρ h (fun ρ' h'=>u_ { cx with K:=Kn n,lp:=mQ } y L ρ' h') (Oq L)=some r:=fun hb =>
   Br hK hlp x _ ρ h _ _ (fun n ρ' h'=>u_ { cx with K:=Kn n,lp:=mQ } y L ρ' h') (fun _=>Oq L) r (fun ρ h r hb=>ihy L ρ h r hb) (fun e ρ h r hb=>Ev.of fun _=>hb) hb
  cases x with
  | region id ops draw =>
   cases draw with
   | true=>simp only [u_] at hb ⊢; exact piece hb
   | false =>
    simp only [u_] at hb ⊢
    cases hl:Db ops.toList with
    | none=>simp only [hl] at hb ⊢; exact piece hb
    | some f =>
     simp only [hl] at hb ⊢
     exact AS (lp':=mQ) (kpn:=fun _ _ _=>none) (kn:=fun n ρ' h'=>BY { cx with K:=Kn n,lp:=mQ } y L (tB cx.A ρ' f) ρ' h') hK (fun ρ h r hb=>Po hK hlp hb) (fun _ _ _ h=>by cases h) _ _ _ _ _ hb
  | _=>simp only [u_] at hb ⊢; exact piece hb
 | _=>intro L ρ h r hb; simp [u_] at hb
theorem Pk {cx:Cx}{Kn:Nat→lE}(hK:D9 cx.K Kn) (hlp:∀F s r,cx.lp F s=some r→mQ F s=some r) {d:Bool}{c:Code}{L:Nat}{ρ:List kP}{h:kT}{r:R}(hb:En cx d c L ρ h=some r) :
  Ev fun n=>En { cx with K:=Kn n,lp:=mQ } d c L ρ h=some r:=by
 cases d with
 | true=>exact Rv (cx:={ cx with pan:=false }) hK hlp c L ρ h r hb
 | false=>exact Br hK hlp c L ρ h _ _ (fun _=>Jp L) (fun _=>Jo L) r (fun ρ h r hb=>Ev.of fun _=>hb) (fun e ρ h r hb=>Ev.of fun _=>hb) hb
theorem W4 {A:Cd}{K:lE}{Kn:Nat→lE}(hK:D9 K Kn):D9 (mD A K) fun n=>mD A (Kn n):=by
 intro f args h r hb
 unfold mD at hb ⊢
 cases hp:A.pure f with
 | false =>
  simp only [hp,cond_false] at hb ⊢
  exact hK _ _ _ _ hb
 | true =>
  simp only [hp,cond_true] at hb ⊢
  cases hs:args.all (kP.oZ 0) with
  | false=>simp only [hs,cond_false] at hb; cases hb
  | true =>
   simp only [hs,cond_true] at hb ⊢
   obtain⟨r0,h1,h2⟩:=ab0.1 hb
   refine(hK _ _ _ _ h1).imp fun n hn=>?_
   rw [ab0]
   exact⟨r0,hn,h2⟩
theorem JN {P:Program}{A:Cd}{lp:YL}{K:lE}{Kn:Nat→lE}(hlp:∀F s r,lp F s=some r→mQ F s=some r) (hK:D9 K Kn):D9 (qJ P A lp K) fun n=>qJ P A mQ (Kn n):=by
 intro f args h r hb
 unfold qJ at hb ⊢
 cases hpr:A.prm f with
 | some k =>
  simp only [hpr] at hb ⊢
  exact⟨0,fun n _=>hb⟩
 | none =>
 simp only [hpr] at hb ⊢
 cases hf:P.funcs[f]? with
 | none=>simp only [hf] at hb; cases hb
 | some fn =>
  simp only [hf] at hb ⊢
  cases hc:fn.body with
  | none=>simp only [hc] at hb; cases hb
  | some c =>
   simp only [hc] at hb ⊢
   cases hg:decide (args.length≤fn.ntmps) && !(fn.name == "runtime.NumGoroutine") with
   | false=>simp only [hg,cond_false] at hb; cases hb
   | true =>
    simp only [hg,cond_true,Pl] at hb ⊢
    obtain⟨r0,h1,h2⟩:=ab0.1 hb
    refine(Pk (cx:={ P,A,K:=mD A K,lp,n:=fn.ntmps,full:=2 ^ fn.ntmps - 1,pan:=A.pan f,vec:=A.amB f,frz:=A.frz f,vlit:=A.Wi f,vmk:=A.vmk f,jt:=A.jt f,lkp:=A.lkp f,rb:=A.rb f,frl:=A.frl f,tb:=A.tb f }) (W4 hK) hlp h1).imp fun n hn=>?_
    rw [ab0]
    exact⟨r0,hn,h2⟩
open Classical in
def KX (P:Program) (A:Cd):lE:=fun f args h =>
 if hx:∃r,Ev fun n=>Ta P A mQ n f args h=some r then some (Classical.choose hx) else none
theorem E7 {P:Program}{A:Cd}{f:Nat}{args:List kP}{h:kT}{r:n_×kT}:KX P A f args h=some r↔Ev fun n=>Ta P A mQ n f args h=some r:=by
 unfold KX
 constructor
 ·intro hb
  split at hb
  ·rename_i hx; cases hb; exact Classical.choose_spec hx
  ·cases hb
 ·intro hb
  have hx:∃r,Ev fun n=>Ta P A mQ n f args h=some r:=⟨r,hb⟩
  rw [dif_pos hx]
  obtain⟨N,hN⟩:=(Classical.choose_spec hx).and hb
  obtain⟨e1,e2⟩:=hN N (ac9 _)
  rw [e1] at e2
  exact e2
theorem Z8 {P:Program}{A:Cd}{f:Nat}{args:List kP}{h:kT}{r:n_×kT}(hb:qJ P A mQ (KX P A) f args h=some r):KX P A f args h=some r:=by
 rw [E7]
 obtain⟨N,hN⟩:=JN (lp:=mQ) (Kn:=fun n=>Ta P A mQ n) (fun _ _ _ h=>h) (fun f args h r hb=>E7.1 hb) f args h r hb
 refine⟨N+1,fun n hn=>?_⟩
 cases n with
 | zero=>omega
 | succ n=>exact hN n (by omega)
theorem Pj {P:Program}{A:Cd}(m:Nat):∀(n f:Nat) (args:List kP) (h:kT) (r:n_×kT),Ta P A (uN m) n f args h=some r→KX P A f args h=some r:=by
 have hlp:∀F s r,uN m F s=some r→mQ F s=some r:=fun F s r h=>Ct.2 ⟨m,h⟩
 have key:∀n,D9 (Ta P A (uN m) n) fun k=>Ta P A mQ k:=by
  intro n
  induction n with
  | zero=>intro f args h r hb; cases hb
  | succ n ih =>
   intro f args h r hb
   obtain⟨N,hN⟩:=JN hlp ih f args h r hb
   refine⟨N+1,fun k hk=>?_⟩
   cases k with
   | zero=>omega
   | succ k=>exact hN k (by omega)
 exact fun n f args h r hb=>E7.2 (key n f args h r hb)
theorem Xh {P:Program}{A:Cd}(hm:P.follows .mixedOrders=true) (hX:yQ P A):vS P A (KX P A):=by
 intro f args h r h' hb
 obtain⟨N,hN⟩:=E7.1 hb
 exact N6 hm hX arX N f args h r h' (hN N (ac9 _))
end
section
open Go Go.RowKit Go.ChangeShapes
def gh (W:World):Gh:={ H:=fun b k=>W.cell? ⟨b,k,none⟩,oP:=fun _=>0,cur:=fun _=>.slice none 0 0 }
theorem arI (W:World):Inv (gh W) [] W:=⟨fun _ _ _ h=>h,fun id bl hb=>by simp at hb,fun a b c ha=>by simp [owner] at ha⟩
theorem KS {P:Program}{A:Cd}{f:Nat}{args:List kP}{X:Array Value}{W:World}(hm:P.follows .mixedOrders=true) (hX:yQ P A) (h:KX P A f args []=some (.ret (.bool true),[]))
  (gl:tM A (gh W) [] W) (hx:Cj (gh W) [] args X):Calls P f X W fun e W'=>e=.returned (.bool true)∧Below W.heap.size W W':=by
 refine((Xh hm hX f args [] _ _ h (gh W) W X (arI W) gl hx).2).mono fun e W' hpost=>?_
 obtain⟨G',x,_,V,rfl,hV⟩:=hpost
 refine⟨by rw [hV.zY],x.os,x.tape,x.output,x.size,fun k hk=>(x.frame k hk fun id=>by simp [owner]).1⟩
section
variable {H:Type}{enc:TypeId×Value→H}{P:Program}
theorem FH (hl:laidOutB P=true) {W W':World}{sp':Nat→Bool}(hb:Below W.heap.size W W'):∀{ts:List TypeId}{vs:List Value}{ds:List (DataW H)}{ps:List MemPlace},
  (∀t∈ts,P.readableRec t=true∧t < P.types.size)→DataW.TrodAll enc P W 0 (fun _=>true) true ts vs ds ps→(∀p∈ps,p.block < W.heap.size)→(∀p∈ps,sp' p.block=true)→DataW.TrodAll enc P W' 0 sp' true ts vs ds ps
 | [],[],[],_,_,h,_,_=>h
 | _::_,_::_,_::_,_,ht,⟨p,q,h1,h2,e⟩,hlt,hs =>
  ⟨p,q,WideElems.Trod_stays hl (ht _ (by simp)).1 (ht _ (by simp)).2 h1 (fun x hx=>hb.same (hlt x (by rw [e]; exact List.mem_append_left _ hx))) (fun x hx=>hs x (by rw [e]; exact List.mem_append_left _ hx)),
   FH hl hb (fun t h=>ht t (by simp [h])) h2 (fun x hx=>hlt x (by rw [e]; exact List.mem_append_right _ hx)) (fun x hx=>hs x (by rw [e]; exact List.mem_append_right _ hx)),e⟩
theorem Ox {f:Func}{s:ChangeSpec}{apart fresh handsOn again:Bool}{W W':World}{args:Array Value}{tb:TypeId}{ds gs:List (DataW H)}{before:List MemPlace}
  (hl:laidOutB P=true) (ht:∀t∈f.params.toList,P.readableRec t=true∧t < P.types.size) (hr:f.resultTypes=#[tb]) (htb:P.underlying tb=some .bool) (hv:s.vars=[])
  (hW:DataW.Whole enc P f.params.toList s.vars apart W args.toList ds gs before) (hb:Below W.heap.size W W')
  (h1:(s.fn H (ds++gs)).results=[.lit (.bool true)]) (h2:(s.fn H (ds++gs)).args=ds) (h3:(s.fn H (ds++gs)).vars=[]):s.post enc P f apart fresh handsOn again W args (Value.bool true) W':=by
 have hlt:=hW.lt
 have hold:∀p∈before,(fun b=>decide (b < W.heap.size)) p.block=true:=fun p hp=>by simpa using hlt p hp
 have hW':=hW
 obtain⟨p,q,hA,hV,hps,hz,hn⟩:=hW
 rw [hv] at hV
 obtain⟨rfl,rfl⟩:=trodVars_none hV
 simp only [al6] at hps h1 h2 h3
 subst hps
 have hargs:∀sp:Nat→Bool,(∀x∈before,sp x.block=true)→DataW.TrodAll enc P W' 0 sp true f.params.toList args.toList (s.fn H ds).args before:=by
  intro sp hs; rw [h2]; exact FH hl hb ht hA hlt hs
 have hres:∀(b:Nat) (sp:Nat→Bool) (hd:Bool),DataW.TrodAll enc P W' b sp hd f.resultTypes.toList ((Value.bool true).resultList f.resultTypes.size) (s.fn H ds).results []:=by
  intro b sp hd; rw [h1,hr]; exact trodAll_mk1 (shut_bool htb true)
 have hvars:∀sp:Nat→Bool,DataW.TrodVars enc P W' sp s.vars (s.fn H ds).vars []:=by
  intro sp; rw [h3,hv]; rfl
 refine⟨ds,[],before,[],before,[],hW',by simpa using hres _ _ _,by simpa using hargs _ hold,by simpa using hvars _,World.keptBut_mono (fun p hp=>⟨hp,?_⟩) (hb.frame (·∈before)),fun _=>?_⟩
 ·exact Or.inr (by simpa using hp)
 ·refine⟨ok_one hr rfl (okWide_bool_mk htb true),_,_,([]++before)++[],⟨[]++before,[],trodAll_append (hargs _ (fun _ _=>rfl)) (hres _ _ _),hvars _,rfl,?_,?_⟩,?_⟩
  ·intro b off hp
   have hp':MemPlace.cell b off∈before:=by simpa using hp
   rw [hb.frozen (p:=⟨b,off,none⟩) (hlt _ hp')]
   exact hz b off hp'
  ·intro ha
   simpa using hn ha
  ·intro p hp _
   simpa using hp
end
def D3 (H:Nat→Nat→Option Value) (cs:List kP) (vs:List Value):Prop:=cs.length=vs.length∧∀(i:Nat) (v:kP),cs[i]?=some v→v.mH=true∧rI H v (vs.getD i undef)
theorem D3.one {H:Nat→Nat→Option Value}{v:kP}{V:Value}(hk:v.mH=true) (h:rI H v V):D3 H [v] [V] :=
 ⟨rfl,fun i u hu=>by cases i with
  | zero=>simp at hu; subst hu; exact⟨hk,h⟩
  | succ i=>simp at hu⟩
structure Rd (P:Program) (n:Nat) (t:TypeId) {α:Type}(encA:α→List kP) (wf:α→Prop):Prop where
 get:∀{H:Type}{enc:TypeId×Value→H}{w:World}{sp:Nat→Bool}{held:Bool}{fuel:Nat}{cs:List Value}{x:DataW H×List MemPlace},fuel≤n →
  DataW.trod enc P w 0 sp held fuel t cs=some x→∃a:α,wf a∧D3 (gh w).H (encA a) cs
theorem Rd.str {P:Program}{n:Nat}{t:TypeId}(ht:P.underlying t=some .string):Rd P n t (fun z:List UInt8=>[.str z]) (fun z=>z.length≤maxLen):=by
 refine⟨?_⟩
 intro H enc w sp held fuel cs x _ h
 obtain⟨s,hx,_,hs⟩:=DataW.trod_string ht h
 refine⟨s.data.toList,by simpa using hs,?_⟩
 have:(⟨s.data.toList.toArray⟩:ByteArray)=s:=by cases s; simp
 rw [hx]
 have r:=rI.str (H:=(gh w).H) s.data.toList
 rw [this] at r
 exact .one rfl r
theorem Rd.arg {P:Program}{t:TypeId}{α:Type}{encA:α→kP}{wf:α→Prop}(r:∀n,Rd P n t (fun a=>[encA a]) wf) {H:Type}{enc:TypeId×Value→H}{w:World}{sp:Nat→Bool}{held:Bool}{v:Value}{d:DataW H}{ps:List MemPlace}
  (hv:∀C,v≠.agg C) (h:DataW.Trod enc P w 0 sp held t v d ps):∃a,wf a∧lP (gh w) [] (encA a) v:=by
 obtain⟨fuel,hf⟩:=h
 obtain⟨a,wa,ra⟩:=(r fuel).get (ac9 _) hf
 refine⟨a,wa,.p _ _ ?_⟩
 have:=(ra.2 0 _ rfl).2
 have hc:v.cells=#[v]:=by cases v <;> simp_all [Value.cells]
 rw [hc] at this
 simpa using this
end
section
open Go
attribute [simp] an3 Option.bind_none
theorem yA {d:Nat}:uU none d=some d:=(rfl)
theorem qT {k:IntKind}{n d:Nat}:uU (some (.int k (n:Int))) d=some n:=by simp [uU]
@[congr] theorem awO {α β:Type}{x x':Option α}{f:α→Option β}(h:x=x'):x.bind f=x'.bind f:=by rw [h]
@[congr] theorem ahC {x x':Option (n_×kT)}{f g:kP→kT→Option R}(h:x=x'):kU x f g=kU x' f g:=by rw [h]
@[congr] theorem am7 {x x':Option (kP×kT)}{f:kP→kT→Option R}(h:x=x'):k9 x f=k9 x' f:=by rw [h]
@[congr] theorem apQ {x x':kP}{t e:Option R}(h:x=x'):lC x t e=lC x' t e:=by rw [h]
@[congr] theorem afR {w:Bool}{x x':kP}{t e:Option R}(h:x=x'):kQ w x t e=kQ w x' t e:=by rw [h]
@[congr] theorem aoV {x x':Ex}{t:Option R}{e:Ex→Option R}(h:x=x'):Ex.mG x t e=Ex.mG x' t e:=by rw [h]
@[congr] theorem ah4 {i:Nat}{x x':Ex}{t:Option R}{e:Ex→Option R}(h:x=x'):Ex.inBlock i x t e=Ex.inBlock i x' t e:=by rw [h]
@[congr] theorem aAu {x x':Ex}{t:Option R}(h:x=x'):Ex.uJ x t=Ex.uJ x' t:=by rw [h]
@[congr] theorem awY {x x':Ex}{t:Option (n_×kT)}{tp:kP→Option (n_×kT)}(h:x=x'):Ex.yM x t tp=Ex.yM x' t tp:=by rw [h]
@[congr] theorem awW {x x':Ex}{t:Option (n_×kT)}(h:x=x'):Ex.nP x t=Ex.nP x' t:=by rw [h]
@[congr] theorem awU {α:Type}{x x':Bool}{t e:α}(h:x=x'):cond x t e=cond x' t e:=by rw [h]
@[congr] theorem aw2 {f g:kP→kT→Option R}{x x':R}(h:x=x'):kX f g x=kX f g x':=by rw [h]
section
variable {k k':IntKind}{a b:Int}{x y:Bool}{s t:List UInt8}{v w:kP}{h:kT}{m:Nat}
@[simp] theorem ax8:kZ .add (.int k a) (.int k b)=some (.int k (k.wrap (a+b))):=by simp [kZ]
@[simp] theorem ayF:kZ .sub (.int k a) (.int k b)=some (.int k (k.wrap (a - b))):=by simp [kZ]
@[simp] theorem ayD:kZ .mul (.int k a) (.int k b)=some (.int k (k.wrap (a * b))):=by simp [kZ]
@[simp] theorem ax9:kZ .eql (.int k a) (.int k b)=some (.bool (decide (a=b))):=by simp [kZ]; rfl
@[simp] theorem ayE:kZ .neq (.int k a) (.int k b)=some (.bool (!decide (a=b))):=by simp [kZ,bne]; rfl
@[simp] theorem Zq:kZ .lss (.int k a) (.int k b)=some (.bool (decide (a < b))):=by simp [kZ]
@[simp] theorem ayC:kZ .leq (.int k a) (.int k b)=some (.bool (decide (a≤b))):=by simp [kZ]
@[simp] theorem ayB:kZ .gtr (.int k a) (.int k b)=some (.bool (decide (b < a))):=by simp [kZ]
@[simp] theorem ayA:kZ .geq (.int k a) (.int k b)=some (.bool (decide (b≤a))):=by simp [kZ]
@[simp] theorem NW:kZ .add (.str s) (.str t)=if s.length+t.length≤4611686018427387904 then some (.str (s++t)) else none:=(rfl)
@[simp] theorem awD:kZ .eql (.str s) (.str t)=some (.bool (decide (s=t))):=by
 have:(s == t)=decide (s=t):=by by_cases h:s=t <;> simp [h]
 simp [kZ,this]
@[simp] theorem awE:kZ .neq (.str s) (.str t)=some (.bool (!decide (s=t))):=by
 have:(s == t)=decide (s=t):=by by_cases h:s=t <;> simp [h]
 simp [kZ,this]
@[simp] theorem awC:Fx .neq (.bool x) (.bool y)=some (.bool (!decide (x=y))):=by cases x <;> cases y <;> rfl
@[simp] theorem aCb:x8 .not (.bool x)=some (.bool (!x)):=(rfl)
@[simp] theorem ag1:vZ k (.int k' a)=some (.int k (k.wrap a)):=(rfl)
@[simp] theorem apX:lV (.bool x) v w=some (bif x then v else w):=(rfl)
@[simp] theorem ag4 {rows:List (List kP)}{t:Tok}:nH (.slice rows t)=some (.int .i64 rows.length):=(rfl)
@[simp] theorem amS:nW (.str s)=some (.int .i64 s.length):=(rfl)
@[simp] theorem FL {t e:Option R}:lC (.bool x) t e=bif x then t else e:=(rfl)
@[simp] theorem afS {run skip:Option R}:kQ true (.bool x) run skip=bif x then run else skip:=(rfl)
@[simp] theorem aaO {run skip:Option R}:kQ false (.bool x) run skip=bif x then skip else run:=(rfl)
@[simp] theorem aaP {g:Bool}{run skip:Option R}:kQ g (.tuple []) run skip=skip:=(rfl)
@[simp] theorem anM {kv kp:kP→kT→Option R}:kX kv kp (.normal,[v],h)=kv v h:=(rfl)
@[simp] theorem aD9:kY v h=some (.normal,[v],h):=(rfl)
@[simp] theorem Rh {kv kp:kP→kT→Option R}:kU (some (.ret v,h)) kv kp=kv v h:=(rfl)
@[simp] theorem I8 {kv:kP→kT→Option R}:k9 (some (v,h)) kv=kv v h:=(rfl)
@[simp] theorem oD {kn:Option R}{ke:Ex→Option R}:Ex.mG .normal kn ke=kn:=(rfl)
@[simp] theorem avQ {kn:Option R}{ke:Ex→Option R}:Ex.mG .ret kn ke=ke .ret:=(rfl)
@[simp] theorem SX {i:Nat}{kn:Option R}{ke:Ex→Option R}:Ex.mG (.exit i) kn ke=ke (.exit i):=(rfl)
@[simp] theorem at5 {kn:Option R}:Ex.uJ .normal kn=kn:=(rfl)
@[simp] theorem aa2 {i:Nat}{kn:Option R}{ke:Ex→Option R}:Ex.inBlock i .normal kn ke=kn:=(rfl)
@[simp] theorem anT {i:Nat}{kn:Option R}{ke:Ex→Option R}:Ex.inBlock i .ret kn ke=ke .ret:=(rfl)
@[simp] theorem PE {i j:Nat}{kn:Option R}{ke:Ex→Option R}:Ex.inBlock i (.exit j) kn ke=bif j == i then kn else ke (.exit j):=(rfl)
@[simp] theorem anF {x:Option (n_×kT)}:Ex.nP .normal x=x:=(rfl)
@[simp] theorem am6 {v:kP}{h:kT}{kv kp:kP→kT→Option R}:kU (some (.pan v,h)) kv kp=kp v h:=(rfl)
@[simp] theorem azD {v:kP}{l:List kP}{h:kT}{kv kp:kP→kT→Option R}:kX kv kp (.pan v,l,h)=kp v h:=by cases l <;> rfl
@[simp] theorem aCu {v:kP}{h:kT}:AV v h=some (.pan v,[],h):=(rfl)
@[simp] theorem avP {v:kP}{kn:Option R}{ke:Ex→Option R}:Ex.mG (.pan v) kn ke=ke (.pan v):=(rfl)
@[simp] theorem anS {id:Nat}{v:kP}{kn:Option R}{ke:Ex→Option R}:Ex.inBlock id (.pan v) kn ke=ke (.pan v):=(rfl)
@[simp] theorem anH {x:Option (n_×kT)}{xp:kP→Option (n_×kT)}:Ex.yM .normal x xp=x:=(rfl)
@[simp] theorem ay6 {x:Option (n_×kT)}{xp:kP→Option (n_×kT)}:Ex.yM .ret x xp=x:=(rfl)
@[simp] theorem ay5 {v:kP}{x:Option (n_×kT)}{xp:kP→Option (n_×kT)}:Ex.yM (.pan v) x xp=xp v:=(rfl)
@[simp] theorem ay2 {x:Option R}{xp:kP→Option R}:Ex.Rt .ret x xp=x:=(rfl)
@[simp] theorem ay1 {v:kP}{x:Option R}{xp:kP→Option R}:Ex.Rt (.pan v) x xp=xp v:=(rfl)
@[simp] theorem anG {x:Option kT}:Ex.Xf .normal x=x:=(rfl)
@[simp] theorem YO {t:Nat}{z:kP}:A4 t z .niliface=some (.tuple [z,.bool false]):=(rfl)
@[simp] theorem Vf {t t':Nat}{z w:kP}:A4 t z (.iface t' w)=some (bif t' == t then .tuple [w,.bool true] else .tuple [z,.bool false]):=(rfl)
@[congr] theorem awV {x x':Ex}{t:Option R}{tp:kP→Option R}(h:x=x'):Ex.Rt x t tp=Ex.Rt x' t tp:=by rw [h]
@[congr] theorem awX {x x':Ex}{t:Option kT}(h:x=x'):Ex.Xf x t=Ex.Xf x' t:=by rw [h]
@[congr] theorem aAr {α β:Type}{x x':Option α}{f:α→β}(h:x=x'):x.map f=x'.map f:=by rw [h]
@[simp] theorem ay3 {x:Option (n_×kT)}:Ex.nP .ret x=x:=(rfl)
@[simp] theorem alI:kP.xR m h (.int k a)=.int k a:=(rfl)
@[simp] theorem ad4:kP.xR m h (.bool x)=.bool x:=(rfl)
@[simp] theorem aCX:kP.xR m h (.str s)=.str s:=(rfl)
@[simp] theorem axO {rows:List (List kP)}:kP.xR m h (.slice rows .no)=.slice rows .no:=(rfl)
@[simp] theorem axP:kP.xR m h (.tuple [])=.tuple []:=(rfl)
@[simp] theorem aCW {rows:List (List kP)}{id:Nat}:kP.xR m h (.slice rows (.own id))=bif decide (id < m) then .slice rows (.own id) else .slice rows .no:=(rfl)
@[simp] theorem aCT {cs:List kP}:kP.xR m h (.agg cs)=.agg (cs.map (·.m_ m h)):=(rfl)
@[simp] theorem aBi:kP.m_ m h (.int k a)=.int k a:=(rfl)
@[simp] theorem axM:kP.m_ m h (.bool x)=.bool x:=(rfl)
@[simp] theorem aBl:kP.m_ m h (.str s)=.str s:=(rfl)
@[simp] theorem avC {rows:List (List kP)}:kP.m_ m h (.slice rows .no)=.slice rows .no:=(rfl)
@[simp] theorem aBk:kP.m_ m h (.slice [] .nil)=.slice [] .nil:=(rfl)
@[simp] theorem SD {rows:List (List kP)}{id:Nat}:kP.m_ m h (.slice rows (.own id))=bif decide (id < m) then .slice rows (.own id) else .slice rows .no:=(rfl)
@[simp] theorem avE {v w:kP}:kP.xR m h (.tuple [v,w])=.tuple [(match v with | .agg cs=>.agg (cs.map (·.m_ m h)) | v=>v.m_ m h),(match w with | .agg cs=>.agg (cs.map (·.m_ m h)) | v=>v.m_ m h)]:=(rfl)
@[simp] theorem axV:kP.kV (.int k a)=.int k a:=(rfl)
@[simp] theorem avX:kP.kV (.bool x)=.bool x:=(rfl)
@[simp] theorem axY:kP.kV (.str s)=.str s:=(rfl)
@[simp] theorem ao2 {rows:List (List kP)}{t:Tok}:kP.kV (.slice rows t)=.slice rows .no:=(rfl)
@[simp] theorem ao3:kP.kV (.tuple [])=.tuple []:=(rfl)
@[simp] theorem axU {cs:List kP}:kP.kV (.agg cs)=.agg (cs.map kP.tP):=(rfl)
@[simp] theorem avV:kP.tP (.int k a)=.int k a:=(rfl)
@[simp] theorem ao1:kP.tP (.bool x)=.bool x:=(rfl)
@[simp] theorem avW:kP.tP (.str s)=.str s:=(rfl)
@[simp] theorem al8 {rows:List (List kP)}{t:Tok}:kP.tP (.slice rows t)=.slice rows .no:=(rfl)
@[simp] theorem al9 {v w:kP}:kP.kV (.tuple [v,w])=.tuple [(match v with | .agg cs=>.agg (cs.map kP.tP) | v=>v.tP),(match w with | .agg cs=>.agg (cs.map kP.tP) | v=>v.tP)]:=(rfl)
@[simp] theorem axT:mI m []=some []:=by simp [mI,nX]
theorem UF {bs:kT}:mI 0 bs=some []:=by simp [mI,nX]
@[simp] theorem avU {bs:kT}:mI 0 bs=some []:=UF
@[simp] theorem ahR {m:Nat}{h:kT}:Ex.xR m h .normal=.normal:=(rfl)
@[simp] theorem aw1 {m:Nat}{h:kT}:Ex.xR m h .ret=.ret:=(rfl)
@[simp] theorem TG {m:Nat}{h:kT}{id:Nat}:Ex.xR m h (.exit id)=.exit id:=(rfl)
@[simp] theorem aw0 {m:Nat}{h:kT}{v:kP}:Ex.xR m h (.pan v)=.pan (v.xR m h):=(rfl)
theorem nV {e:Ex}{vs:List kP}:lA 0 e vs h=some (e.xR 0 h,vs.map (·.xR 0 h),[]):=by simp [lA]
theorem kS:mJ 0 v h=some (.ret (v.xR 0 h).kV,[]):=by simp [mJ]
def uI (h:kT) (id:Nat):Bool:=match h[id]? with
 | some (.front 0 0)=>true
 | _=>false
@[simp] theorem ah9 {r:kT}:uI (.front 0 0::r) 0=true:=(rfl)
@[simp] theorem ah8 {b:lR}{r:kT}{n:Nat}:uI (b::r) (n+1)=uI r n:=(rfl)
@[simp] theorem anO {cs:List kP}{r:kT}:oM (.cells cs::r) 0=some cs:=(rfl)
@[simp] theorem anN {b:lR}{r:kT}{n:Nat}:oM (b::r) (n+1)=oM r n:=(rfl)
@[simp] theorem WQ {n id off:Nat}:kW false n h (.ptr id off)=(oM h id).bind fun cs=>cs[off]?:=by
 simp only [kW,apart,cond_false]; cases oM h id <;> rfl
@[simp] theorem Tq {n id off:Nat}:kW true n h (.ptr id off)=(oM h id).bind fun cs=>if off+n≤cs.length then some (.agg ((cs.drop off).take n)) else none:=by
 simp only [kW,apart,cond_true]; cases oM h id <;> rfl
@[simp] theorem Dx {n id off:Nat}:k_ n h (.ptr id off) v=(oM h id).bind fun cs=>if v.cells.length=n∧off+n≤cs.length∧v.cells.all kP.mH then some (h.set id (.cells (putCells cs off (p9 h (cs.drop off) v.cells)))) else none:=by
 simp only [k_]; cases oM h id <;> rfl
@[simp] theorem aiD {os:List kP}:p9 h os []=[]:=by cases os <;> rfl
@[simp] theorem PF {o:kP}{os vs:List kP}:p9 h (o::os) (v::vs)=yU h o v::p9 h os vs:=(rfl)
@[simp] theorem aw6 {o:kP}:yU h o (.int k a)=.int k a:=(rfl)
@[simp] theorem arP {o:kP}:yU h o (.bool x)=.bool x:=(rfl)
@[simp] theorem axA {o:kP}:yU h o (.str s)=.str s:=(rfl)
@[simp] theorem azO {o:kP}{rows:List (List kP)}:yU h o (.slice rows .no)=.slice rows .no:=by cases rows <;> rfl
@[simp] theorem aw8 {o:kP}{rows:List (List kP)}{id:Nat}:yU h o (.slice rows (.own id))=.slice rows (.own id):=by cases rows <;> rfl
@[simp] theorem Xy {id:Nat}:yU h (.slice [] (.own id)) (.slice [] .nil)=bif uI h id then .slice [] (.own id) else .slice [] .nil:=by
 have e:yU h (.slice [] (.own id)) (.slice [] .nil)=match h[id]? with | some (.front 0 0)=>.slice [] (.own id) | _=>.slice [] .nil:=(rfl)
 rw [e]
 unfold uI
 split <;> rfl
@[simp] theorem TV {rows:List (List kP)}:yU h (.slice rows .no) (.slice [] .nil)=.slice [] .nil:=by cases rows <;> rfl
theorem rC:∀{vs os:List kP},(∀c∈vs,c.isNil=false)→p9 h os vs=vs
 | [],_,_=>by simp
 | v::vs,[],_=>rfl
 | v::vs,o::os,hn=>by
  have h1:=hn v (by simp)
  simp only [PF,yU,h1,cond_false]
  rw [rC fun c hc=>hn c (by simp [hc])]
@[simp] theorem ag2 {id o off:Nat}:kR off (.ptr id o)=some (.ptr id (o+off)):=(rfl)
@[simp] theorem afF {cs:List kP}{off:Nat}:kR off (.pptr cs)=some (.pptr (cs.drop off)):=(rfl)
@[simp] theorem afL {id off:Nat}:lG (.ptr id off)=some (.ptr id off):=(rfl)
@[simp] theorem awQ:kP.cells (.int k a)=[.int k a]:=(rfl)
@[simp] theorem aqP:kP.cells (.bool x)=[.bool x]:=(rfl)
@[simp] theorem awT:kP.cells (.str s)=[.str s]:=(rfl)
@[simp] theorem anB {rows:List (List kP)}{t:Tok}:kP.cells (.slice rows t)=[.slice rows t]:=(rfl)
@[simp] theorem E5 {cs:List kP}:kP.cells (.agg cs)=cs:=(rfl)
@[simp] theorem awR {i:Nat}:kP.cells (.map i)=[.map i]:=(rfl)
@[simp] theorem aqK:kP.mH (.int k a)=true:=(rfl)
@[simp] theorem am9:kP.mH (.bool x)=true:=(rfl)
@[simp] theorem aqN:kP.mH (.str s)=true:=(rfl)
@[simp] theorem Pb {rows:List (List kP)}{t:Tok}:kP.mH (.slice rows t)=true:=(rfl)
@[simp] theorem aqL {i:Nat}:kP.mH (.map i)=true:=(rfl)
@[simp] theorem arK:kP.pN (.int k a)=false:=(rfl)
@[simp] theorem anW:kP.pN (.bool x)=false:=(rfl)
@[simp] theorem arM:kP.pN (.str s)=false:=(rfl)
@[simp] theorem aiA {rows:List (List kP)}{t:Tok}:kP.pN (.slice rows t)=false:=(rfl)
@[simp] theorem arJ {cs:List kP}:kP.pN (.agg cs)=false:=(rfl)
@[simp] theorem arL {i:Nat}:kP.pN (.map i)=false:=(rfl)
@[simp] theorem aBj {i:Nat}:kP.m_ m h (.map i)=bif decide (i < m) then .map i else .junk:=(rfl)
@[simp] theorem alJ {i o:Nat}:kP.xR m h (.ptr i o)=kP.m_ m h (.ptr i o):=(rfl)
theorem lN {i o:Nat}(hi:i < m):kP.m_ m h (.ptr i o)=.ptr i o:=by simp [kP.m_,hi]
theorem uA {i o:Nat}(hi:i < m):kP.xR m h (.ptr i o)=.ptr i o:=by rw [alJ,lN hi]
@[simp] theorem axX {i o:Nat}:kP.kV (.ptr i o)=.ptr i o:=(rfl)
@[simp] theorem Qr:nK m h []=some []:=(rfl)
@[simp] theorem tK {cs:List kP}:nK m h (v::cs)=bif (v.m_ m h).mH then(nK m h cs).map (v.m_ m h::·) else none:=by
 simp only [nK]; cases nK m h cs <;> rfl
@[simp] theorem Ht {cs:List kP}:qB m h (.cells cs)=(nK m h cs).map .cells:=(rfl)
@[simp] theorem Qq {i j:Nat}:qB m h (.front i j)=some (.front i j):=(rfl)
@[simp] theorem aoK:nX m h []=some []:=(rfl)
@[simp] theorem oV {b:lR}{bs:kT}:nX m h (b::bs)=(qB m h b).bind fun b'=>(nX m h bs).map (b'::·):=by
 simp only [nX]; cases qB m h b <;> cases nX m h bs <;> rfl
@[simp] theorem Fz {i:Nat}:mX (.str s) (.int k (i:Int))=(s[i]?).map fun b=>.int .u8 b.toNat:=by simp [mX]
@[simp] theorem Zs:mX (.str s) (.int k 0)=(s[0]?).map fun b=>.int .u8 b.toNat:=by simp [mX]
theorem qZ {lo hi:Option kP}{l u:Nat}(hl:uU lo 0=some l) (hu:uU hi s.length=some u) (h1:l≤u) (h2:u≤s.length):oY (.str s) lo hi=some (.str ((s.drop l).take (u - l))):=by
 simp [oY,hl,hu,h1,h2]
@[simp] theorem Zr {i:Nat}{vs:List kP}:lT i (.tuple vs)=vs[i]?:=(rfl)
end
theorem wrap64 {n:Int}(h1:-9223372036854775808≤n) (h2:n≤9223372036854775807):IntKind.wrap .i64 n=n:=by
 simp [IntKind.wrap,IntKind.signed,IntKind.bits]
 split <;> omega
@[simp] theorem Gy {α:Type}{enc:α→List kP}{sz:Nat}{xs:List α}{t:Tok}{k:IntKind}{i:Nat} :
  lH sz (.slice (xs.map enc) t) (.int k (i:Int))=(xs[i]?).bind fun x=>if (enc x).length=sz then some (.pptr (enc x)) else none:=by
 simp only [lH,Int.natCast_nonneg,if_true,Int.toNat_natCast,ag6]
 cases xs[i]? <;> rfl
theorem q_ {sz:Nat}{rows:List (List kP)}{t:Tok}{k:IntKind}{n:Int}:lH sz (.slice rows t) (.int k n)=if 0≤n then(rows[n.toNat]?).bind fun row=>if row.length=sz then some (.pptr row) else none else none:=by
 simp only [lH]
 split
 ·cases rows[n.toNat]? <;> rfl
 ·rfl
@[simp] theorem Tp {n:Nat}{h:kT}{cs:List kP}:kW true n h (.pptr cs)=if n≤cs.length then some (.agg (cs.take n)) else none:=by
 simp [kW,apart]
@[simp] theorem amT {n:Nat}{h:kT}{cs:List kP}:kW false n h (.pptr cs)=cs[0]?:=by
 simp [kW,apart]
theorem GD {α:Type}{enc:α→List kP}{sz:Nat}{xs:List α}{t:Tok}{lo hi:Option kP}{l u:Nat}(hs:∀x,(enc x).length=sz) (hl:uU lo 0=some l) (hu:uU hi xs.length=some u) (h1:l≤u) (h2:u≤xs.length) :
  uV sz (.slice (xs.map enc) t) lo hi=some (.slice (((xs.drop l).take (u - l)).map enc) .no):=by
 have:((xs.map enc).all fun r=>r.length == sz)=true:=by simp [hs]
 simp only [uV,ak1,hl,hu,h1,h2,this,and_self,if_true,List.map_take,List.map_drop]
theorem lJ {P:Program}{A:Cd}{f:Nat}{args:List kP}{h:kT}{m:Option (n_×kT)}{r:n_×kT}(he:qJ P A mQ (KX P A) f args h=m) (hm:m=some r):KX P A f args h=some r:=Z8 (he.trans hm)
theorem lK {A:Cd}{K:lE}{f:Nat}{args:List kP}{h:kT}{v:kP}(hp:A.pure f=true) (hs:args.all (kP.oZ 0)=true) (hk:K f args []=some (.ret v,[])):mD A K f args h=some (.ret v,h):=by
 simp [mD,hp,hs,hk,EJ]
theorem tN {F:List kP×kT→Option R}{σ:Type}(enc:σ→List kP×kT) (inv:σ→Prop) (μ:σ→Nat) (out:σ→R)
  (h:∀s,inv s→(∃s',F (enc s)=some (.normal,enc s')∧inv s'∧μ s' < μ s∧out s'=out s)∨(F (enc s)=some (out s)∧(out s).1≠.normal)):∀s,inv s→mQ F (enc s)=some (out s):=by
 have key:∀n s,μ s=n→inv s→mQ F (enc s)=some (out s):=by
  intro n
  induction n using Nat.strongRecOn with
  | _ n ih =>
   intro s hn hi
   rw [nA]
   rcases h s hi with ⟨s',e1,e2,e3,e4⟩ | ⟨e1,e2⟩
   ·rw [e1]
    simp only [an3,oD]
    rw [ih (μ s') (by omega) s' rfl e2,e4]
   ·rw [e1]
    generalize out s=r at e2
    obtain⟨e,l⟩:=r
    cases e <;> first | exact absurd rfl e2 | rfl
 exact fun s hi=>key (μ s) s rfl hi
end
section
open Go
section
variable {k k':IntKind}{a b:Int}{h:kT}{m n id tot off len sz:Nat}{v w:kP}{cs:List kP}
end
end
section
open Go
def TA:Nat→Nat→List UInt8→List UInt8
 | 0,_,a=>a
 | k+1,n,a=>if n < 10 then UInt8.ofNat (48+n)::a else TA k (n / 10) (UInt8.ofNat (48+n % 10)::a)
def Oc (n:Int):List UInt8:=if n < 0 then 45::TA 20 n.natAbs [] else TA 20 n.toNat []
def R0:List kP→Option kP
 | [.int .i64 n]=>if -9223372036854775808≤n∧n≤9223372036854775807 then some (.str (Oc n)) else none
 | _=>none
def adU:List kP→Option kP
 | [.str [b],.int .i64 n]=>if 0≤n∧n≤1099511627776 then some (.str (ah7 n.toNat b)) else none
 | _=>none
end
end Hk
