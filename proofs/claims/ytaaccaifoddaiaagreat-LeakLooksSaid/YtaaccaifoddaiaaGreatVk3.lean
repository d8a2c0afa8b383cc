/-
  The texts Vk.Lim, Vk.Front, Vk.Simp, Vk.Simp2, one behind another. No conditions.
-/
import Derived.Test.YtaaccaifoddaiaaGreatVk2
import Derived.OpenShut
import Derived.WideKeyArgs
set_option linter.unusedVariables false
set_option linter.unusedSimpArgs false
set_option linter.all false
open List renaming getD → ad8
open Nat renaming le_refl → al1
open Option renaming bind_eq_some_iff → aa6, bind_some → aq5
open Option.some renaming injEq → aa9
namespace Hk
noncomputable section
open Go Go.RowKit
def Ev (p:Nat→Prop):Prop:=∃N,∀n,N≤n→p n
theorem Ev.of {p:Nat→Prop}(h:∀n,p n):Ev p:=⟨0,fun n _=>h n⟩
theorem Ev.imp {p q:Nat→Prop}(h:Ev p) (hi:∀n,p n→q n):Ev q:=let ⟨N,hN⟩:=h;⟨N,fun n hn=>hi n (hN n hn)⟩
theorem Ev.and {p q:Nat→Prop}(h:Ev p) (h':Ev q):Ev fun n=>p n∧q n :=
 let ⟨N,hN⟩:=h;let ⟨M,hM⟩:=h';⟨max N M,fun n hn=>⟨hN n (by omega),hM n (by omega)⟩⟩
theorem HZ {F:List kN×kO→Option R}:∀{n:Nat}{s:List kN×kO}{r:R},rV n F s=some r→rV (n+1) F s=some r
 | 0,s,r,h=>by simp [rV] at h
 | n+1,s,r,h=>by
  rw [rV] at h ⊢
  obtain⟨r1,h1,h2⟩:=aa6.1 h
  rw [h1]
  simp only [aq5]
  cases he:r1.1 with
  | normal=>rw [he] at h2;exact HZ h2
  | _=>rw [he] at h2;exact h2
theorem FW {F:List kN×kO→Option R}{n m:Nat}{s:List kN×kO}{r:R}(hnm:n≤m) (h:rV n F s=some r):rV m F s=some r:=by
 induction hnm with
 | refl=>exact h
 | step _ ih=>exact HZ ih
open Classical in
def nP (F:List kN×kO→Option R) (s:List kN×kO):Option R :=
 if h:∃n r,rV n F s=some r then some (Classical.choose (Classical.choose_spec h)) else none
theorem yM {F:List kN×kO→Option R}{s:List kN×kO}{r:R}:nP F s=some r↔∃n,rV n F s=some r:=by
 unfold nP
 constructor
 ·intro h
  split at h
  ·rename_i hx
   cases h
   exact⟨_,Classical.choose_spec (Classical.choose_spec hx)⟩
  ·cases h
 ·rintro⟨n,hn⟩
  have hx:∃n r,rV n F s=some r:=⟨n,r,hn⟩
  rw [dif_pos hx]
  have h1:=Classical.choose_spec (Classical.choose_spec hx)
  have h2:=FW (Nat.le_max_left _ n) h1
  have h3:=FW (Nat.le_max_right (Classical.choose hx) n) hn
  rw [h2] at h3
  exact h3
theorem Wn:KI nP:=fun _ _ _ h=>yM.1 h
theorem Bj (F:List kN×kO→Option R) (s:List kN×kO):nP F s=(F s).bind fun r=>r.1.l_ (nP F r.2) fun e=>some (e,r.2):=by
 apply Option.ext
 intro r
 rw [yM]
 constructor
 ·rintro⟨n,hn⟩
  cases n with
  | zero=>simp [rV] at hn
  | succ n =>
   rw [rV] at hn
   obtain⟨r1,h1,h2⟩:=aa6.1 hn
   rw [h1]
   simp only [aq5]
   cases he:r1.1 with
   | normal=>rw [he] at h2;exact yM.2 ⟨n,h2⟩
   | _=>rw [he] at h2;exact h2
 ·intro h
  obtain⟨r1,h1,h2⟩:=aa6.1 h
  cases he:r1.1 with
  | normal =>
   rw [he] at h2
   obtain⟨n,hn⟩:=yM.1 h2
   exact⟨n+1,by rw [rV,h1];simp only [aq5,he];exact hn⟩
  | _ =>
   rw [he] at h2
   exact⟨1,by rw [rV,h1];simp only [aq5,he];exact h2⟩
theorem ZC {F:List kN×kO→Option R}{Fn:Nat→List kN×kO→Option R}(hF:∀s r,F s=some r→Ev fun n=>Fn n s=some r) {s:List kN×kO}{r:R}(h:nP F s=some r) :
  Ev fun n=>nP (Fn n) s=some r:=by
 obtain⟨m,hm⟩:=yM.1 h
 have key:∀(m:Nat) (s:List kN×kO),rV m F s=some r→Ev fun n=>rV m (Fn n) s=some r:=by
  intro m
  induction m with
  | zero=>intro s h;simp [rV] at h
  | succ m ih =>
   intro s h
   rw [rV] at h
   obtain⟨r1,h1,h2⟩:=aa6.1 h
   cases he:r1.1 with
   | normal =>
    rw [he] at h2
    refine((hF _ _ h1).and (ih _ h2)).imp fun n hn=>?_
    rw [rV,hn.1];simp only [aq5,he];exact hn.2
   | _ =>
    rw [he] at h2
    refine(hF _ _ h1).imp fun n hn=>?_
    rw [rV,hn];simp only [aq5,he];exact h2
 exact(key m s hm).imp fun n hn=>yM.2 ⟨m,hn⟩
section
variable {cx:Cx}{o:Oper}{ρ:List kN}{h:kO}{kv kp:kN→kO→Option R}{r:R}{ids:List Nat}{ops:List Oper}
theorem V8 {kvn kpn:Nat→kN→kO→Option R}(hv:∀v h r,kv v h=some r→Ev fun n=>kvn n v h=some r) (hp:∀v h r,kp v h=some r→Ev fun n=>kpn n v h=some r) {r0:R}
  (hb:sY kv kp r0=some r):Ev fun n=>sY (kvn n) (kpn n) r0=some r:=by
 obtain⟨e,l,h⟩:=r0
 cases e with
 | normal =>
  match l with
  | []=>cases hb
  | [v]=>exact hv v h r hb
  | _::_::_=>cases hb
 | pan v=>exact hp v h r hb
 | exit _=>cases hb
 | ret=>cases hb
def AS (K:kT) (Kn:Nat→kT):Prop:=∀f args h r,K f args h=some r→Ev fun n=>Kn n f args h=some r
theorem V7 {lp':U3}{K':kT}{rsv:Option Nat}(hne:∀c f,o.op=.call c→c.callee=.value f→False) (hni:∀c f m,o.op=.call c→c.callee=.invoke f m→False):evalOp { cx with K:=K',lp:=lp' } o rsv ρ h kv kp=evalOp cx o rsv ρ h kv kp:=by
 unfold evalOp mU
 cases ho:o.op with
 | call c =>
  simp only []
  cases hc:c.callee with
  | value f=>exact(hne c f ho hc).elim
  | builtin b=>rfl
  | invoke f m=>exact(hni c f m ho hc).elim
 | makeFunc b f c=>cases b <;> rfl
 | makeMap t r=>cases r <;> rfl
 | typeAssert x xt t ok=>cases ok <;> rfl
 | slice t x lo hi mx=>cases mx <;> rfl
 | assign x=>cases z9 x <;> rfl
 | _=>rfl
theorem Cz {lp':U3}{Kn:Nat→kT}{kvn kpn:Nat→kN→kO→Option R}{rsv:Option Nat}(hK:AS cx.K Kn) (hv:∀v h r,kv v h=some r→Ev fun n=>kvn n v h=some r)
  (hp:∀v h r,kp v h=some r→Ev fun n=>kpn n v h=some r) (hb:evalOp cx o rsv ρ h kv kp=some r):Ev fun n=>evalOp { cx with K:=Kn n,lp:=lp' } o rsv ρ h (kvn n) (kpn n)=some r:=by
 rw [vX] at hb
 obtain⟨r0,h1,h2⟩:=aa6.1 hb
 have key:Ev fun n=>evalOp { cx with K:=Kn n,lp:=lp' } o rsv ρ h lI Gg=some r0:=by
  by_cases hne:∃c f,o.op=.call c∧c.callee=.value f
  ·obtain⟨c,f,ho,hc⟩:=hne
   simp only [evalOp,mU,ho,hc] at h1 ⊢
   obtain⟨g,hg,h1⟩:=aa6.1 h1
   cases hext:cx.A.ext g.1 with
   | some ek =>
    refine Ev.of fun n=>?_
    simp only [hg,aq5,wR,hext] at h1 ⊢
    exact h1
   | none =>
    simp only [wR,hext] at h1 ⊢
    unfold lW at h1 ⊢
    obtain⟨r1,hk,h1⟩:=aa6.1 h1
    refine(hK _ _ _ _ hk).imp fun n hn=>?_
    simp only [hg,aq5,hext,hn]
    exact h1
  ·by_cases hni:∃c f m,o.op=.call c∧c.callee=.invoke f m
   ·obtain⟨c,f,m,ho,hc⟩:=hni
    simp only [evalOp,mU,ho,hc] at h1 ⊢
    obtain⟨g,hg,h1⟩:=aa6.1 h1
    cases hext:cx.A.ext g.1 with
    | some ek =>
     refine Ev.of fun n=>?_
     simp only [hg,aq5,wR,hext] at h1 ⊢
     exact h1
    | none =>
     simp only [wR,hext] at h1 ⊢
     unfold lW at h1 ⊢
     obtain⟨r1,hk,h1⟩:=aa6.1 h1
     refine(hK _ _ _ _ hk).imp fun n hn=>?_
     simp only [hg,aq5,hext,hn]
     exact h1
   ·refine Ev.of fun n=>?_
    rw [V7 (fun c f ho hc=>hne ⟨c,f,ho,hc⟩) (fun c f m ho hc=>hni ⟨c,f,m,ho,hc⟩)]
    exact h1
 refine(key.and (V8 hv hp h2)).imp fun n hn=>?_
 rw [vX,hn.1]
 exact hn.2
theorem Bf {lp':U3}{Kn:Nat→kT}{kvn kpn:Nat→kN→kO→Option R}(hK:AS cx.K Kn) (hv:∀v h r,kv v h=some r→Ev fun n=>kvn n v h=some r)
  (hp:∀v h r,kp v h=some r→Ev fun n=>kpn n v h=some r) (hb:mP cx o ids ρ h kv kp=some r):Ev fun n=>mP { cx with K:=Kn n,lp:=lp' } o ids ρ h (kvn n) (kpn n)=some r:=by
 unfold mP at hb ⊢
 cases hc:cx.ck with
 | true =>
  simp only [hc,cond_true] at hb ⊢
  exact Cz (lp':=lp') hK (fun v h' r hk=>by
   obtain⟨h1,h2⟩:=Dn.1 hk
   exact(hv v _ r h2).imp fun n hn=>Dn.2 ⟨h1,hn⟩) hp hb
 | false =>
  simp only [hc,cond_false] at hb ⊢
  exact Cz (lp':=lp') hK (fun v h' r hk=>hv v _ r hk) (fun v h' r hk=>hp v _ r hk) hb
theorem OL {lp':U3}{Kn:Nat→kT}{m:Nat}{kvn:Nat→kN→kO→Option R}(hK:AS cx.K Kn) (hv:∀v h r,kv v h=some r→Ev fun n=>kvn n v h=some r)
  (hb:wJ cx o m ids ρ h kv=some r):Ev fun n=>wJ { cx with K:=Kn n,lp:=lp' } o m ids ρ h (kvn n)=some r:=by
 unfold wJ at hb ⊢
 cases hs:(h.take m).all (nH m) with
 | false=>rw [hs] at hb;cases hb
 | true =>
  rw [hs] at hb
  simp only [cond_true] at hb ⊢
  obtain⟨r0,h1,h2⟩:=aa6.1 hb
  have e1:Ev fun n=>mP { cx with K:=Kn n,lp:=lp' } o ids (ρ.map (tK m)) (h.take m) lI Gg=some r0 :=
   Bf (kvn:=fun _=>lI) (kpn:=fun _=>Gg) hK (fun _ _ _ h=>Ev.of fun _=>h) (fun _ _ _ h=>Ev.of fun _=>h) h1
  have e2:Ev fun n=>JP m h (kvn n) r0=some r:=by
   unfold JP at h2 ⊢
   split at h2
   ·rename_i v t
    cases hl:t.length == m with
    | false=>rw [hl] at h2;cases h2
    | true=>rw [hl] at h2;exact hv _ _ _ h2
   ·cases h2
  refine(e1.and e2).imp fun n hn=>?_
  rw [hn.1]
  exact hn.2
theorem Li {lp':U3}{Kn:Nat→kT}{kvn kpn:Nat→kN→kO→Option R}(hK:AS cx.K Kn) (hv:∀v h r,kv v h=some r→Ev fun n=>kvn n v h=some r)
  (hp:∀v h r,kp v h=some r→Ev fun n=>kpn n v h=some r) (hb:sN cx ops o ids ρ h kv kp=some r):Ev fun n=>sN { cx with K:=Kn n,lp:=lp' } ops o ids ρ h (kvn n) (kpn n)=some r:=by
 have L:mP cx o ids ρ h kv kp=some r→Ev fun n=>mP { cx with K:=Kn n,lp:=lp' } o ids ρ h (kvn n) (kpn n)=some r :=
  fun hb=>Bf hK hv hp hb
 simp only [yL] at hb ⊢
 unfold xT at hb ⊢
 cases hg:o.guard with
 | none=>simp only [hg] at hb ⊢;exact L hb
 | some jw =>
  obtain⟨j,want⟩:=jw
  simp only [hg] at hb ⊢
  cases hd:(ops[j]?).bind (·.dst) with
  | none=>simp only [hd] at hb;cases hb
  | some d =>
   simp only [hd] at hb ⊢
   generalize ρ.getD d .junk=x at hb ⊢
   split at hb
   ·rename_i g
    cases want <;> cases g <;> simp only [cond_true,cond_false] at hb ⊢
    ·exact L hb
    ·exact hv _ _ _ hb
    ·exact hv _ _ _ hb
    ·exact L hb
   ·exact hv _ _ _ hb
   ·cases hb
theorem JM {lp':U3}{Kn:Nat→kT}{m:Nat}{it:Item}{kvn kpn:Nat→kN→kO→Option R}(hK:AS cx.K Kn) (hv:∀v h r,kv v h=some r→Ev fun n=>kvn n v h=some r)
  (hp:∀v h r,kp v h=some r→Ev fun n=>kpn n v h=some r) (hb:nB cx ops m it ids ρ h kv kp=some r):Ev fun n=>nB { cx with K:=Kn n,lp:=lp' } ops m it ids ρ h (kvn n) (kpn n)=some r:=by
 unfold nB at hb ⊢
 cases hr:it.rsv with
 | some j =>
  simp only [hr] at hb ⊢
  cases hf:rO it.o with
  | false=>rw [hf] at hb;cases hb
  | true =>
   rw [hf] at hb
   exact Cz (kpn:=fun _ _ _=>none) hK hv (fun _ _ _ h=>by cases h) hb
 | none =>
  simp only [hr] at hb ⊢
  cases hh:it.hid with
  | true =>
   simp only [hh,cond_true] at hb ⊢
   cases hf:vF it.o with
   | false=>rw [hf] at hb;cases hb
   | true =>
    rw [hf] at hb
    exact OL hK hv hb
  | false =>
   simp only [hh,cond_false] at hb ⊢
   exact Li hK hv hp hb
theorem wL {lp':U3}{m:Nat}{Kn:Nat→kT}{k:List kN→kO→Option R}{kn:Nat→List kN→kO→Option R}{kpn:Nat→kN→kO→Option R}(hK:AS cx.K Kn)
  (hk:∀ρ h r,k ρ h=some r→Ev fun n=>kn n ρ h=some r) (hp:∀v h r,kp v h=some r→Ev fun n=>kpn n v h=some r):∀(items:List Item) (seen ρ:List kN) (h:kO) (r:R),
  nF cx ops m items seen ρ h k kp=some r→Ev fun n=>nF { cx with K:=Kn n,lp:=lp' } ops m items seen ρ h (kn n) (kpn n)=some r:=by
 intro items
 induction items with
 | nil=>intro seen ρ h r hb;exact hk _ _ _ hb
 | cons it rest ih =>
  intro seen ρ h r hb
  simp only [nF,vY] at hb ⊢
  exact JM hK (fun v h' r hb=>ih _ _ _ _ hb) hp hb
theorem HQ {lp':U3}{Kn:Nat→kT}{k:List kN→kO→Option R}{kn:Nat→List kN→kO→Option R}{kp:kN→kO→Option R}{kpn:Nat→kN→kO→Option R}{draw:Bool}(hK:AS cx.K Kn)
  (hk:∀ρ h r,k ρ h=some r→Ev fun n=>kn n ρ h=some r) (hkp:∀v h r,kp v h=some r→Ev fun n=>kpn n v h=some r) (hb:uS cx ops draw ρ h k kp=some r):Ev fun n=>uS { cx with K:=Kn n,lp:=lp' } ops draw ρ h (kn n) (kpn n)=some r:=by
 unfold uS at hb ⊢
 cases draw with
 | false=>exact wL hK (fun ρ h r hb=>hk _ _ _ hb) (fun v h r hb=>hkp _ _ _ hb) _ _ _ _ _ hb
 | true =>
  simp only [] at hb ⊢
  cases hd:An ops with
  | none=>simp only [hd] at hb;cases hb
  | some items =>
   simp only [hd] at hb ⊢
   exact wL (cx:={ cx with rb:=false }) hK (fun ρ h r hb=>hk _ _ _ hb) (fun v h r hb=>hkp _ _ _ hb) _ _ _ _ _ hb
end
theorem Kc {v:kN}{t e:Option R}{tn en:Nat→Option R}{r:R}(ht:t=some r→Ev fun n=>tn n=some r) (he:e=some r→Ev fun n=>en n=some r) (hb:kV v t e=some r) :
  Ev fun n=>kV v (tn n) (en n)=some r:=by
 unfold kV at hb ⊢
 split at hb
 ·rename_i b;cases b
  ·exact he hb
  ·exact ht hb
 ·cases hb
theorem Je {e:Ex}{x:Option R}{f:Ex→Option R}{xn:Nat→Option R}{fn:Nat→Ex→Option R}{r:R}(hx:x=some r→Ev fun n=>xn n=some r) (hf:∀e,f e=some r→Ev fun n=>fn n e=some r)
  (hb:e.l_ x f=some r):Ev fun n=>e.l_ (xn n) (fn n)=some r:=by
 cases e with
 | normal=>exact hx hb
 | _=>exact hf _ hb
theorem aa2 {e:Ex}{x:Option R}{xn:Nat→Option R}{r:R}(hx:x=some r→Ev fun n=>xn n=some r) (hb:e.pR x=some r):Ev fun n=>e.pR (xn n)=some r:=by
 cases e with
 | normal=>exact hx hb
 | _=>cases hb
theorem FQ {id:Nat}{e:Ex}{x:Option R}{f:Ex→Option R}{xn:Nat→Option R}{fn:Nat→Ex→Option R}{r:R}(hx:x=some r→Ev fun n=>xn n=some r) (hf:∀e,f e=some r→Ev fun n=>fn n e=some r)
  (hb:e.inBlock id x f=some r):Ev fun n=>e.inBlock id (xn n) (fn n)=some r:=by
 cases e with
 | normal=>exact hx hb
 | exit j =>
  simp only [Ex.inBlock] at hb ⊢
  cases hj:j == id with
  | true=>rw [hj] at hb;exact hx hb
  | false=>rw [hj] at hb;exact hf _ hb
 | _=>exact hf _ hb
theorem xK {cx:Cx}{Kn:Nat→kT}(hK:AS cx.K Kn) (hlp:∀F s r,cx.lp F s=some r→nP F s=some r):∀(c:Code) (L:Nat) (ρ:List kN) (h:kO) (kn:List kN→kO→Option R) (ke:Ex→List kN→kO→Option R)
  (knn:Nat→List kN→kO→Option R) (ken:Nat→Ex→List kN→kO→Option R) (r:R),
  (∀ρ h r,kn ρ h=some r→Ev fun n=>knn n ρ h=some r)→(∀e ρ h r,ke e ρ h=some r→Ev fun n=>ken n e ρ h=some r)→evalCode cx c L ρ h kn ke=some r→Ev fun n=>evalCode { cx with K:=Kn n,lp:=nP } c L ρ h (knn n) (ken n)=some r:=by
 obtain⟨P,A,K,lp,nt,full,pan,vec,frz,vlit,vmk,jt,lkp,rb,frl,tb⟩:=cx
 dsimp only at hlp
 intro c
 induction c with
 | skip=>intro L ρ h kn ke knn ken r hk he hb;exact hk _ _ _ hb
 | region id ops draw=>intro L ρ h kn ke knn ken r hk he hb;exact HQ hK hk (kpn:=fun n=>aw7 pan (ken n) ρ) (fun v h r hb=>by cases pan <;> first | exact he _ _ _ _ hb | cases hb) hb
 | seq x y ihx ihy =>
  intro L ρ h kn ke knn ken r hk he hb
  simp only [evalCode] at hb ⊢
  exact ihx _ ρ h _ _ _ _ r (fun ρ h r hb=>ihy _ _ _ _ _ _ _ _ hk he hb) he hb
 | cond c x y ihx ihy =>
  intro L ρ h kn ke knn ken r hk he hb
  simp only [evalCode] at hb ⊢
  cases hf:uW x&&uW y with
  | true =>
   simp only [hf,cond_true] at hb ⊢
   obtain⟨r0,h1,h2⟩:=aa6.1 hb
   have e1:=Kc (ihx L ρ h _ _ (fun _=>Cy jt h.length L .normal) (fun _=>Cy jt h.length L) r0 (fun ρ h r hb=>Ev.of fun _=>hb) (fun e ρ h r hb=>Ev.of fun _=>hb)) (ihy L ρ h _ _ (fun _=>Cy jt h.length L .normal) (fun _=>Cy jt h.length L) r0 (fun ρ h r hb=>Ev.of fun _=>hb) (fun e ρ h r hb=>Ev.of fun _=>hb)) h1
   have e2:Ev fun n=>(bif pan || (leaves [] x || leaves [] y) then r0.1.l_ (knn n (unpack nt L r0.2.1) r0.2.2) fun e=>ken n e (unpack nt L r0.2.1) r0.2.2 else r0.1.pR (knn n (unpack nt L r0.2.1) r0.2.2))=some r:=by
    cases hl:pan || (leaves [] x || leaves [] y) with
    | true=>rw [hl] at h2;exact Je (hk _ _ _) (fun e=>he e _ _ _) h2
    | false=>rw [hl] at h2;exact aa2 (hk _ _ _) h2
   refine(e1.and e2).imp fun n hn=>?_
   rw [aa6]
   exact⟨r0,hn.1,hn.2⟩
  | false =>
   simp only [hf,cond_false] at hb ⊢
   exact Kc (ihx L ρ h _ _ knn ken r hk he) (ihy L ρ h _ _ knn ken r hk he) hb
 | block id c ih =>
  intro L ρ h kn ke knn ken r hk he hb
  simp only [evalCode] at hb ⊢
  cases hf:decide (2≤zG id c+bif uW c then 1 else 0) with
  | true =>
   simp only [hf,cond_true] at hb ⊢
   obtain⟨r0,h1,h2⟩:=aa6.1 hb
   refine((ih L ρ h _ _ (fun _=>Cy jt h.length L .normal) (fun _=>Cy jt h.length L) r0 (fun ρ h r hb=>Ev.of fun _=>hb) (fun e ρ h r hb=>Ev.of fun _=>hb) h1).and (FQ (hk _ _ _) (fun e=>he e _ _ _) h2)).imp fun n hn=>?_
   rw [aa6]
   exact⟨r0,hn.1,hn.2⟩
  | false =>
   simp only [hf,cond_false] at hb ⊢
   exact ih L ρ h _ _ knn (fun n e ρ' h'=>e.inBlock id (knn n ρ' h') fun e=>ken n e ρ' h') r hk (fun e ρ' h' r hb=>FQ (hk _ _ _) (fun e=>he e _ _ _) hb) hb
 | loop c ih =>
  intro L ρ h kn ke knn ken r hk he hb
  simp only [evalCode] at hb ⊢
  obtain⟨r0,h1,h2⟩:=aa6.1 hb
  refine((ZC (fun s r hb=>ih _ _ _ _ _ (fun _=>Bc lkp h.length (L ||| ue full c) .normal) (fun _=>Bc lkp h.length (L ||| ue full c)) _ (fun ρ h r hb=>Ev.of fun _=>hb) (fun e ρ h r hb=>Ev.of fun _=>hb) hb) (hlp _ _ _ h1)).and
   (Je (x:=none) (xn:=fun _=>none) (fun h=>by cases h) (fun e=>he e _ _ _) h2)).imp fun n hn=>?_
  rw [aa6]
  exact⟨r0,hn.1,hn.2⟩
 | scope c ih=>intro L ρ h kn ke knn ken r hk he hb;exact ih L ρ h kn ke knn ken r hk he hb
 | label l=>intro L ρ h kn ke knn ken r hk he hb;exact hk _ _ _ hb
 | exit id=>intro L ρ h kn ke knn ken r hk he hb;exact he _ _ _ _ hb
 | ret=>intro L ρ h kn ke knn ken r hk he hb;exact he _ _ _ _ hb
 | _=>intro L ρ h kn ke knn ken r hk he hb;simp [evalCode] at hb
theorem ON {cx:Cx}{Kn:Nat→kT}(hK:AS cx.K Kn) (hlp:∀F s r,cx.lp F s=some r→nP F s=some r) {g:Nat}{caps:List kN}{pv:Option kN}{h h':kO}(hb:uQ cx g caps pv h=some h') :
  Ev fun n=>uQ { cx with K:=Kn n,lp:=nP } g caps pv h=some h':=by
 unfold uQ at hb ⊢
 cases hf:cx.P.funcs[g]? with
 | none=>rw [hf] at hb;cases hb
 | some fn =>
  simp only [hf] at hb ⊢
  split at hb
  ·rename_i id ops c hbody
   split at hb
   ·rename_i o os hops
    cases hc:(BT o&&decide (caps.length≤fn.ntmps)&&fn.results.isEmpty&&!(fn.name == "runtime.NumGoroutine")) with
    | false=>rw [hc] at hb;cases hb
    | true =>
     rw [hc] at hb
     simp only [cond_true] at hb ⊢
     obtain⟨r0,h1,h2⟩:=aa6.1 hb
     have e1:=wL (cx:={ cx with n:=fn.ntmps,full:=2^fn.ntmps-1,pan:=false }) (lp':=nP) (ops:=ops.toList) (kp:=fun _ _=>none) (kpn:=fun _ _ _=>none)
      (kn:=fun n ρ' h'=>evalCode { cx with K:=Kn n,lp:=nP,n:=fn.ntmps,full:=2^fn.ntmps-1,pan:=false } c 0 ρ' h' (FY 0) (FX 0)) hK
      (fun ρ h r hb=>xK (cx:={ cx with n:=fn.ntmps,full:=2^fn.ntmps-1,pan:=false }) hK hlp c 0 ρ h _ _ (fun _=>FY 0) (fun _=>FX 0) r (fun ρ h r hb=>Ev.of fun _=>hb) (fun e ρ h r hb=>Ev.of fun _=>hb) hb)
      (fun _ _ _ h=>by cases h) _ _ _ _ _ h1
     refine e1.imp fun n hn=>?_
     rw [aa6]
     exact⟨r0,hn,h2⟩
   ·cases hb
  ·cases hb
theorem Lj {cx:Cx}{Kn:Nat→kT}(hK:AS cx.K Kn) (hlp:∀F s r,cx.lp F s=some r→nP F s=some r) {b:Code}{L:Nat}{fv:kN}{ρ:List kN}{h:kO}{r:R}(hb:xY cx b L fv ρ h=some r) :
  Ev fun n=>xY { cx with K:=Kn n,lp:=nP } b L fv ρ h=some r:=by
 unfold xY at hb ⊢
 cases hok:Br L b with
 | false=>rw [hok] at hb;cases hb
 | true =>
  rw [hok] at hb
  simp only [cond_true] at hb ⊢
  obtain⟨g,hg,hb⟩:=aa6.1 hb
  simp only [hg,aq5]
  obtain⟨r0,h1,h2⟩:=aa6.1 hb
  have e1:=xK (cx:={ cx with pan:=true }) hK hlp b L ρ h _ _ (fun _=>FY L) (fun _=>FX L) r0 (fun ρ h r hb=>Ev.of fun _=>hb) (fun e ρ h r hb=>Ev.of fun _=>hb) h1
  have e2:Ev fun n=>r0.1.OK ((uQ { cx with K:=Kn n,lp:=nP } g.1 (g.2.1++g.2.2) none r0.2.2).map fun h2=>((.ret,r0.2.1,h2):R)) (fun v=>(uQ { cx with K:=Kn n,lp:=nP } g.1 (g.2.1++g.2.2) (some v) r0.2.2).map fun h2=>((.ret,pack L ρ,h2):R))=some r:=by
   have key:∀{pv:Option kN}{pk:List kN},((uQ cx g.1 (g.2.1++g.2.2) pv r0.2.2).map fun h2=>((.ret,pk,h2):R))=some r→Ev fun n=>((uQ { cx with K:=Kn n,lp:=nP } g.1 (g.2.1++g.2.2) pv r0.2.2).map fun h2=>((.ret,pk,h2):R))=some r:=by
    intro pv pk hx
    obtain⟨h3,e3,e4⟩:=Option.map_eq_some_iff.1 hx
    exact(ON hK hlp e3).imp fun n hn=>by rw [hn];exact congrArg some e4
   cases he:r0.1 with
   | normal=>rw [he] at h2;exact key h2
   | ret=>rw [he] at h2;exact key h2
   | exit id=>rw [he] at h2;cases h2
   | pan v=>rw [he] at h2;exact key h2
  refine(e1.and e2).imp fun n hn=>?_
  rw [aa6]
  exact⟨r0,hn.1,hn.2⟩
theorem OM {cx:Cx}{Kn:Nat→kT}(hK:AS cx.K Kn) (hlp:∀F s r,cx.lp F s=some r→nP F s=some r):∀(c:Code) (L:Nat) (ρ:List kN) (h:kO) (r:R),rF cx c L ρ h=some r →
  Ev fun n=>rF { cx with K:=Kn n,lp:=nP } c L ρ h=some r:=by
 intro c
 induction c with
 | seq x y ihx ihy =>
  intro L ρ h r hb
  have piece:evalCode cx x (L ||| ue cx.full y) ρ h (fun ρ' h'=>rF cx y L ρ' h') (Ks L)=some r →
    Ev fun n=>evalCode { cx with K:=Kn n,lp:=nP } x (L ||| ue cx.full y) ρ h (fun ρ' h'=>rF { cx with K:=Kn n,lp:=nP } y L ρ' h') (Ks L)=some r:=fun hb =>
   xK hK hlp x _ ρ h _ _ (fun n ρ' h'=>rF { cx with K:=Kn n,lp:=nP } y L ρ' h') (fun _=>Ks L) r (fun ρ h r hb=>ihy L ρ h r hb) (fun e ρ h r hb=>Ev.of fun _=>hb) hb
  cases x with
  | region id ops draw =>
   cases draw with
   | true=>simp only [rF] at hb ⊢;exact piece hb
   | false =>
    simp only [rF] at hb ⊢
    cases hl:z5 ops.toList with
    | none=>simp only [hl] at hb ⊢;exact piece hb
    | some f =>
     simp only [hl] at hb ⊢
     exact wL (lp':=nP) (kpn:=fun _ _ _=>none) (kn:=fun n ρ' h'=>xY { cx with K:=Kn n,lp:=nP } y L (qF cx.A ρ' f) ρ' h') hK (fun ρ h r hb=>Lj hK hlp hb) (fun _ _ _ h=>by cases h) _ _ _ _ _ hb
  | _=>simp only [rF] at hb ⊢;exact piece hb
 | _=>intro L ρ h r hb;simp [rF] at hb
theorem Lf {cx:Cx}{Kn:Nat→kT}(hK:AS cx.K Kn) (hlp:∀F s r,cx.lp F s=some r→nP F s=some r) {d:Bool}{c:Code}{L:Nat}{ρ:List kN}{h:kO}{r:R}(hb:Be cx d c L ρ h=some r) :
  Ev fun n=>Be { cx with K:=Kn n,lp:=nP } d c L ρ h=some r:=by
 cases d with
 | true=>exact OM (cx:={ cx with pan:=false }) hK hlp c L ρ h r hb
 | false=>exact xK hK hlp c L ρ h _ _ (fun _=>FY L) (fun _=>FX L) r (fun ρ h r hb=>Ev.of fun _=>hb) (fun e ρ h r hb=>Ev.of fun _=>hb) hb
theorem Us {A:xS}{K:kT}{Kn:Nat→kT}(hK:AS K Kn):AS (lG A K) fun n=>lG A (Kn n):=by
 intro f args h r hb
 unfold lG at hb ⊢
 cases hp:A.pure f with
 | false =>
  simp only [hp,cond_false] at hb ⊢
  cases hsb:A.sub f with
  | false=>simp only [hsb,cond_false] at hb ⊢;exact hK _ _ _ _ hb
  | true =>
   simp only [hsb,cond_true] at hb ⊢
   unfold ao5 Xv at hb ⊢
   cases ho:Kx (reach h args) args h with
   | false=>simp only [ho,cond_false] at hb;cases hb
   | true =>
    simp only [ho,cond_true] at hb ⊢
    obtain⟨r0,h1,h2⟩:=aa6.1 hb
    refine(hK _ _ _ _ h1).imp fun n hn=>?_
    rw [aa6]
    exact⟨r0,hn,h2⟩
 | true =>
  simp only [hp,cond_true] at hb ⊢
  cases hs:args.all (kN.rI 0) with
  | false=>simp only [hs,cond_false] at hb;cases hb
  | true =>
   simp only [hs,cond_true] at hb ⊢
   obtain⟨r0,h1,h2⟩:=aa6.1 hb
   refine(hK _ _ _ _ h1).imp fun n hn=>?_
   rw [aa6]
   exact⟨r0,hn,h2⟩
theorem Gw {P:Program}{A:xS}{lp:U3}{K:kT}{Kn:Nat→kT}(hlp:∀F s r,lp F s=some r→nP F s=some r) (hK:AS K Kn):AS (C8 P A lp K) fun n=>C8 P A nP (Kn n):=by
 intro f args h r hb
 unfold C8 at hb ⊢
 cases hpr:A.prm f with
 | some k =>
  simp only [hpr] at hb ⊢
  exact⟨0,fun n _=>hb⟩
 | none =>
 simp only [hpr] at hb ⊢
 cases hf:P.funcs[f]? with
 | none=>simp only [hf] at hb;cases hb
 | some fn =>
  simp only [hf] at hb ⊢
  cases hc:fn.body with
  | none=>simp only [hc] at hb;cases hb
  | some c =>
   simp only [hc] at hb ⊢
   cases hg:decide (args.length≤fn.ntmps)&&!(fn.name == "runtime.NumGoroutine") with
   | false=>simp only [hg,cond_false] at hb;cases hb
   | true =>
    simp only [hg,cond_true] at hb ⊢
    simp only [Lg] at hb ⊢
    obtain⟨r0,h1,h2⟩:=aa6.1 hb
    refine(Lf (cx:={ P,A,K:=lG A K,lp,n:=fn.ntmps,full:=2^fn.ntmps-1,pan:=A.pan f,vec:=A.adF f,frz:=A.frz f,vlit:=A.Ub f,vmk:=A.vmk f,jt:=A.jt f,lkp:=A.lkp f,rb:=A.rb f,frl:=A.frl f,tb:=A.tb f,ck:=A.ck f }) (Us hK) hlp h1).imp fun n hn=>?_
    rw [aa6]
    exact⟨r0,hn,h2⟩
open Classical in
def Ag (P:Program) (A:xS):kT:=fun f args h =>
 if hx:∃r,Ev fun n=>Uz P A nP n f args h=some r then some (Classical.choose hx) else none
theorem BS {P:Program}{A:xS}{f:Nat}{args:List kN}{h:kO}{r:mR×kO}:Ag P A f args h=some r↔Ev fun n=>Uz P A nP n f args h=some r:=by
 unfold Ag
 constructor
 ·intro hb
  split at hb
  ·rename_i hx;cases hb;exact Classical.choose_spec hx
  ·cases hb
 ·intro hb
  have hx:∃r,Ev fun n=>Uz P A nP n f args h=some r:=⟨r,hb⟩
  rw [dif_pos hx]
  obtain⟨N,hN⟩:=(Classical.choose_spec hx).and hb
  obtain⟨e1,e2⟩:=hN N (al1 _)
  rw [e1] at e2
  exact e2
theorem V6 {P:Program}{A:xS}{f:Nat}{args:List kN}{h:kO}{r:mR×kO}(hb:C8 P A nP (Ag P A) f args h=some r):Ag P A f args h=some r:=by
 rw [BS]
 obtain⟨N,hN⟩:=Gw (lp:=nP) (Kn:=fun n=>Uz P A nP n) (fun _ _ _ h=>h) (fun f args h r hb=>BS.1 hb) f args h r hb
 refine⟨N+1,fun n hn=>?_⟩
 cases n with
 | zero=>omega
 | succ n=>exact hN n (by omega)
theorem UA {P:Program}{A:xS}(hm:P.follows .mixedOrders=true) (hX:tO P A):qR P A (Ag P A):=by
 intro f args h r h' hb
 obtain⟨N,hN⟩:=BS.1 hb
 exact Kl hm hX Wn N f args h r h' (hN N (al1 _))
end
section
open Go Go.RowKit Go.ChangeShapes
def gh (W:World):Gh:={ H:=fun b k=>W.cell? ⟨b,k,none⟩,mO:=fun _=>0,cur:=fun _=>.slice none 0 0 }
theorem aiQ (W:World):Inv (gh W) [] W:=⟨fun _ _ _ h=>h,fun id bl hb=>by simp at hb,fun a b c ha=>by simp [owner] at ha⟩
theorem P9 {P:Program}{A:xS}{f:Nat}{args:List kN}{X:Array Value}{W:World}(hm:P.follows .mixedOrders=true) (hX:tO P A) (h:Ag P A f args []=some (.ret (.bool true),[]))
  (gl:o_ A (gh W) [] W) (hx:xW (gh W) [] args X):Calls P f X W fun e W'=>e=.returned (.bool true)∧Below W.heap.size W W':=by
 refine((UA hm hX f args [] _ _ h (gh W) W X (aiQ W) gl hx).2).mono fun e W' hpost=>?_
 obtain⟨G',x,_,V,rfl,hV⟩:=hpost
 refine⟨by rw [hV.uJ],x.os,x.tape,x.output,x.size,fun k hk=>(x.frame k hk fun id=>by simp [owner]).1⟩
section
variable {H:Type}{enc:TypeId×Value→H}{P:Program}
theorem Cq (hl:laidOutB P=true) {W W':World}{sp':Nat→Bool}(hb:Below W.heap.size W W'):∀{ts:List TypeId}{vs:List Value}{ds:List (DataW H)}{ps:List MemPlace},
  (∀t∈ts,P.readableRec t=true∧t<P.types.size)→DataW.TrodAll enc P W 0 (fun _=>true) true ts vs ds ps→(∀p∈ps,p.block<W.heap.size)→(∀p∈ps,sp' p.block=true)→DataW.TrodAll enc P W' 0 sp' true ts vs ds ps
 | [],[],[],_,_,h,_,_=>h
 | _::_,_::_,_::_,_,ht,⟨p,q,h1,h2,e⟩,hlt,hs =>
  ⟨p,q,WideElems.Trod_stays hl (ht _ (by simp)).1 (ht _ (by simp)).2 h1 (fun x hx=>hb.same (hlt x (by rw [e];exact List.mem_append_left _ hx))) (fun x hx=>hs x (by rw [e];exact List.mem_append_left _ hx)),
   Cq hl hb (fun t h=>ht t (by simp [h])) h2 (fun x hx=>hlt x (by rw [e];exact List.mem_append_right _ hx)) (fun x hx=>hs x (by rw [e];exact List.mem_append_right _ hx)),e⟩
theorem UQ {f:Func}{s:ChangeSpec}{apart fresh handsOn again:Bool}{W W':World}{args:Array Value}{tb:TypeId}{ds gs:List (DataW H)}{before:List MemPlace}
  (hl:laidOutB P=true) (ht:∀t∈f.params.toList,P.readableRec t=true∧t<P.types.size) (hr:f.resultTypes=#[tb]) (htb:P.underlying tb=some .bool) (hv:s.vars=[])
  (hW:DataW.Whole enc P f.params.toList s.vars apart W args.toList ds gs before) (hb:Below W.heap.size W W')
  (h1:(s.fn H (ds++gs)).results=[.lit (.bool true)]) (h2:(s.fn H (ds++gs)).args=ds) (h3:(s.fn H (ds++gs)).vars=[]):s.post enc P f apart fresh handsOn again W args (Value.bool true) W':=by
 have hlt:=hW.lt
 have hold:∀p∈before,(fun b=>decide (b<W.heap.size)) p.block=true:=fun p hp=>by simpa using hlt p hp
 have hW':=hW
 obtain⟨p,q,hA,hV,hps,hz,hn⟩:=hW
 rw [hv] at hV
 obtain⟨rfl,rfl⟩:=trodVars_none hV
 simp only [List.append_nil] at hps h1 h2 h3
 subst hps
 have hargs:∀sp:Nat→Bool,(∀x∈before,sp x.block=true)→DataW.TrodAll enc P W' 0 sp true f.params.toList args.toList (s.fn H ds).args before:=by
  intro sp hs;rw [h2];exact Cq hl hb ht hA hlt hs
 have hres:∀(b:Nat) (sp:Nat→Bool) (hd:Bool),DataW.TrodAll enc P W' b sp hd f.resultTypes.toList ((Value.bool true).resultList f.resultTypes.size) (s.fn H ds).results []:=by
  intro b sp hd;rw [h1,hr];exact trodAll_mk1 (shut_bool htb true)
 have hvars:∀sp:Nat→Bool,DataW.TrodVars enc P W' sp s.vars (s.fn H ds).vars []:=by
  intro sp;rw [h3,hv];rfl
 refine⟨ds,[],before,[],before,[],hW',by simpa using hres _ _ _,by simpa using hargs _ hold,by simpa using hvars _,World.keptBut_mono (fun p hp=>⟨hp,?_⟩) (hb.frame (·∈before)),fun _=>?_⟩
 ·exact Or.inr (by simpa using hp)
 ·refine⟨ok_one hr rfl (okWide_bool_mk htb true),_,_,([]++before)++[],⟨[]++before,[],trodAll_append (hargs _ (fun _ _=>rfl)) (hres _ _ _),hvars _,rfl,?_,?_⟩,?_⟩
  ·intro b off hp
   have hp':MemPlace.cell b off∈before:=by simpa using hp
   rw [hb.frozen (p:=⟨b,off,none⟩) (hlt _ hp')]
   exact hz b off hp'
  ·intro ha
   simpa using hn ha
  ·intro p hp _
   simpa using hp
end
def AN (H:Nat→Nat→Option Value) (cs:List kN) (vs:List Value):Prop:=cs.length=vs.length∧∀(i:Nat) (v:kN),cs[i]?=some v→v.lS=true∧oL H v (vs.getD i undef)
theorem AN.one {H:Nat→Nat→Option Value}{v:kN}{V:Value}(hk:v.lS=true) (h:oL H v V):AN H [v] [V] :=
 ⟨rfl,fun i u hu=>by cases i with
  | zero=>simp at hu;subst hu;exact⟨hk,h⟩
  | succ i=>simp at hu⟩
structure Rd (P:Program) (n:Nat) (t:TypeId) {α:Type}(encA:α→List kN) (wf:α→Prop):Prop where
 get:∀{H:Type}{enc:TypeId×Value→H}{w:World}{sp:Nat→Bool}{held:Bool}{fuel:Nat}{cs:List Value}{x:DataW H×List MemPlace},fuel≤n →
  DataW.trod enc P w 0 sp held fuel t cs=some x→∃a:α,wf a∧AN (gh w).H (encA a) cs
theorem Rd.int {P:Program}{n:Nat}{t:TypeId}{k:IntKind}(ht:P.underlying t=some (.int k)):Rd P n t (fun z:Int=>[.int k z]) (fun z=>(Lit.int k z).wf=true):=by
 refine⟨?_⟩
 intro H enc w sp held fuel cs x _ h
 obtain⟨z,hx,_,hw⟩:=DataW.trod_int ht h
 exact⟨z,hw,by rw [hx];exact .one rfl (.int _ _)⟩
theorem Rd.bool {P:Program}{n:Nat}{t:TypeId}(ht:P.underlying t=some .bool):Rd P n t (fun z:Bool=>[.bool z]) (fun _=>True):=by
 refine⟨?_⟩
 intro H enc w sp held fuel cs x _ h
 cases fuel with
 | zero=>simp [DataW.trod] at h
 | succ m =>
  unfold DataW.trod at h
  rw [ht] at h
  split at h <;> try (simp at *;done)
  rename_i b _
  exact⟨b,trivial,.one rfl (.bool _)⟩
theorem Rd.str {P:Program}{n:Nat}{t:TypeId}(ht:P.underlying t=some .string):Rd P n t (fun z:List UInt8=>[.str z]) (fun z=>z.length≤maxLen):=by
 refine⟨?_⟩
 intro H enc w sp held fuel cs x _ h
 obtain⟨s,hx,_,hs⟩:=DataW.trod_string ht h
 refine⟨s.data.toList,by simpa using hs,?_⟩
 have:(⟨s.data.toList.toArray⟩:ByteArray)=s:=by cases s;simp
 rw [hx]
 have r:=oL.str (H:=(gh w).H) s.data.toList
 rw [this] at r
 exact .one rfl r
theorem Rd.to {P:Program}{n:Nat}{t:TypeId}{α β:Type}{encA:α→List kN}{wfA:α→Prop}{encB:β→List kN}{wfB:β→Prop}(r:Rd P n t encA wfA) (g:α→β) (he:∀a,encB (g a)=encA a) (hw:∀a,wfA a→wfB (g a)):Rd P n t encB wfB:=by
 refine⟨?_⟩
 intro H enc w sp held fuel cs x hf h
 obtain⟨a,wa,ra⟩:=r.get hf h
 exact⟨g a,hw a wa,by rw [he];exact ra⟩
theorem Rd.arg {P:Program}{t:TypeId}{α:Type}{encA:α→kN}{wf:α→Prop}(r:∀n,Rd P n t (fun a=>[encA a]) wf) {H:Type}{enc:TypeId×Value→H}{w:World}{sp:Nat→Bool}{held:Bool}{v:Value}{d:DataW H}{ps:List MemPlace}
  (hv:∀C,v≠.agg C) (h:DataW.Trod enc P w 0 sp held t v d ps):∃a,wf a∧k_ (gh w) [] (encA a) v:=by
 obtain⟨fuel,hf⟩:=h
 obtain⟨a,wa,ra⟩:=(r fuel).get (al1 _) hf
 refine⟨a,wa,.p _ _ ?_⟩
 have:=(ra.2 0 _ rfl).2
 have hc:v.cells=#[v]:=by cases v <;> simp_all [Value.cells]
 rw [hc] at this
 simpa using this
end
section
open Go
attribute [simp] aq5 Option.bind_none
@[congr] theorem aqB {α β:Type}{x x':Option α}{f:α→Option β}(h:x=x'):x.bind f=x'.bind f:=by rw [h]
@[congr] theorem YY {x x':Option (mR×kO)}{f g:kN→kO→Option R}(h:x=x'):lW x f g=lW x' f g:=by rw [h]
@[congr] theorem ad6 {x x':Option (kN×kO)}{f:kN→kO→Option R}(h:x=x'):kW x f=kW x' f:=by rw [h]
@[congr] theorem agL {x x':kN}{t e:Option R}(h:x=x'):kV x t e=kV x' t e:=by rw [h]
@[congr] theorem Yg {w:Bool}{x x':kN}{t e:Option R}(h:x=x'):oU w x t e=oU w x' t e:=by rw [h]
@[congr] theorem afZ {x x':Ex}{t:Option R}{e:Ex→Option R}(h:x=x'):Ex.l_ x t e=Ex.l_ x' t e:=by rw [h]
@[congr] theorem Zp {i:Nat}{x x':Ex}{t:Option R}{e:Ex→Option R}(h:x=x'):Ex.inBlock i x t e=Ex.inBlock i x' t e:=by rw [h]
@[congr] theorem awL {x x':Ex}{t:Option R}(h:x=x'):Ex.pR x t=Ex.pR x' t:=by rw [h]
@[congr] theorem aqN {x x':Ex}{t:Option (mR×kO)}{tp:kN→Option (mR×kO)}(h:x=x'):Ex.Ga x t tp=Ex.Ga x' t tp:=by rw [h]
@[congr] theorem aqL {x x':Ex}{t:Option (mR×kO)}(h:x=x'):Ex.oH x t=Ex.oH x' t:=by rw [h]
@[congr] theorem aqI {α:Type}{x x':Bool}{t e:α}(h:x=x'):cond x t e=cond x' t e:=by rw [h]
@[congr] theorem aqR {f g:kN→kO→Option R}{x x':R}(h:x=x'):sY f g x=sY f g x':=by rw [h]
section
variable {k k':IntKind}{a b:Int}{x y:Bool}{s t:List UInt8}{v w:kN}{h:kO}{m:Nat}
@[simp] theorem asC:lF .add (.int k a) (.int k b)=some (.int k (k.wrap (a+b))):=by simp [lF]
@[simp] theorem asK:lF .sub (.int k a) (.int k b)=some (.int k (k.wrap (a-b))):=by simp [lF]
@[simp] theorem asI:lF .mul (.int k a) (.int k b)=some (.int k (k.wrap (a*b))):=by simp [lF]
@[simp] theorem asD:lF .eql (.int k a) (.int k b)=some (.bool (decide (a=b))):=by simp [lF];rfl
@[simp] theorem asJ:lF .neq (.int k a) (.int k b)=some (.bool (!decide (a=b))):=by simp [lF,bne];rfl
@[simp] theorem asH:lF .lss (.int k a) (.int k b)=some (.bool (decide (a<b))):=by simp [lF]
@[simp] theorem asG:lF .leq (.int k a) (.int k b)=some (.bool (decide (a≤b))):=by simp [lF]
@[simp] theorem asF:lF .gtr (.int k a) (.int k b)=some (.bool (decide (b<a))):=by simp [lF]
@[simp] theorem asE:lF .geq (.int k a) (.int k b)=some (.bool (decide (b≤a))):=by simp [lF]
@[simp] theorem apY:lF .eql (.str s) (.str t)=some (.bool (decide (s=t))):=by
 have:(s == t)=decide (s=t):=by by_cases h:s=t <;> simp [h]
 simp [lF,this]
@[simp] theorem apZ:lF .neq (.str s) (.str t)=some (.bool (!decide (s=t))):=by
 have:(s == t)=decide (s=t):=by by_cases h:s=t <;> simp [h]
 simp [lF,this]
@[simp] theorem apV:xF .eql (.bool x) (.bool y)=some (.bool (decide (x=y))):=by cases x <;> cases y <;> rfl
@[simp] theorem apW:xF .neq (.bool x) (.bool y)=some (.bool (!decide (x=y))):=by cases x <;> cases y <;> rfl
@[simp] theorem aAw:vN .not (.bool x)=some (.bool (!x)):=(rfl)
@[simp] theorem aAv:vN .neg (.int k a)=some (.int k (k.wrap (0-a))):=(rfl)
@[simp] theorem YD:mC k (.int k' a)=some (.int k (k.wrap a)):=(rfl)
@[simp] theorem agW:lH (.bool x) v w=some (bif x then v else w):=(rfl)
@[simp] theorem ap5:Ck (.int k a) (.int k' b)=some (.int k (min a b)):=by
 simp only [Ck,aa9,kN.int.injEq,true_and]
 by_cases h:b<a <;> simp [h] <;> omega
@[simp] theorem ap3:Dh (.int k a) (.int k' b)=some (.int k (max a b)):=by
 simp only [Dh,aa9,kN.int.injEq,true_and]
 by_cases h:b > a <;> simp [h] <;> omega
@[simp] theorem YG {rows:List (List kN)}{t:Tok}:s5 (.slice rows t)=some (.int .i64 rows.length):=(rfl)
@[simp] theorem adV:nG (.str s)=some (.int .i64 s.length):=(rfl)
@[simp] theorem rZ {t e:Option R}:kV (.bool x) t e=bif x then t else e:=(rfl)
@[simp] theorem oZ {run skip:Option R}:oU true (.bool x) run skip=bif x then run else skip:=(rfl)
@[simp] theorem oJ {run skip:Option R}:oU false (.bool x) run skip=bif x then skip else run:=(rfl)
@[simp] theorem V_ {g:Bool}{run skip:Option R}:oU g (.tuple []) run skip=skip:=(rfl)
@[simp] theorem aeN {kv kp:kN→kO→Option R}:sY kv kp (.normal,[v],h)=kv v h:=(rfl)
@[simp] theorem aC0:lI v h=some (.normal,[v],h):=(rfl)
@[simp] theorem ad5 {kv kp:kN→kO→Option R}:lW (some (.ret v,h)) kv kp=kv v h:=(rfl)
@[simp] theorem ad7 {kv:kN→kO→Option R}:kW (some (v,h)) kv=kv v h:=(rfl)
@[simp] theorem J_ {kn:Option R}{ke:Ex→Option R}:Ex.l_ .normal kn ke=kn:=(rfl)
@[simp] theorem apH {kn:Option R}{ke:Ex→Option R}:Ex.l_ .ret kn ke=ke .ret:=(rfl)
@[simp] theorem af0 {i:Nat}{kn:Option R}{ke:Ex→Option R}:Ex.l_ (.exit i) kn ke=ke (.exit i):=(rfl)
@[simp] theorem alV {kn:Option R}:Ex.pR .normal kn=kn:=(rfl)
@[simp] theorem Wc {i:Nat}{kn:Option R}{ke:Ex→Option R}:Ex.inBlock i .normal kn ke=kn:=(rfl)
@[simp] theorem aeR {i:Nat}{kn:Option R}{ke:Ex→Option R}:Ex.inBlock i .ret kn ke=ke .ret:=(rfl)
@[simp] theorem Zq {i j:Nat}{kn:Option R}{ke:Ex→Option R}:Ex.inBlock i (.exit j) kn ke=bif j == i then kn else ke (.exit j):=(rfl)
@[simp] theorem aeJ {x:Option (mR×kO)}:Ex.oH .normal x=x:=(rfl)
@[simp] theorem ad4 {v:kN}{h:kO}{kv kp:kN→kO→Option R}:lW (some (.pan v,h)) kv kp=kp v h:=(rfl)
@[simp] theorem atQ {v:kN}{l:List kN}{h:kO}{kv kp:kN→kO→Option R}:sY kv kp (.pan v,l,h)=kp v h:=by cases l <;> rfl
@[simp] theorem aAT {v:kN}{h:kO}:Gg v h=some (.pan v,[],h):=(rfl)
@[simp] theorem apG {v:kN}{kn:Option R}{ke:Ex→Option R}:Ex.l_ (.pan v) kn ke=ke (.pan v):=(rfl)
@[simp] theorem atL {x:Option (mR×kO)}{xp:kN→Option (mR×kO)}:Ex.Ga .ret x xp=x:=(rfl)
@[simp] theorem atK {v:kN}{x:Option (mR×kO)}{xp:kN→Option (mR×kO)}:Ex.Ga (.pan v) x xp=xp v:=(rfl)
@[simp] theorem atH {x:Option R}{xp:kN→Option R}:Ex.OK .ret x xp=x:=(rfl)
@[simp] theorem atG {v:kN}{x:Option R}{xp:kN→Option R}:Ex.OK (.pan v) x xp=xp v:=(rfl)
@[simp] theorem aeK {x:Option kO}:Ex.Uw .normal x=x:=(rfl)
@[simp] theorem U5 {t:Nat}{z:kN}:wQ t z .niliface=some (.tuple [z,.bool false]):=(rfl)
@[simp] theorem Tr {t t':Nat}{z w:kN}:wQ t z (.iface t' w)=some (bif t' == t then .tuple [w,.bool true] else .tuple [z,.bool false]):=(rfl)
@[congr] theorem aqK {x x':Ex}{t:Option R}{tp:kN→Option R}(h:x=x'):Ex.OK x t tp=Ex.OK x' t tp:=by rw [h]
@[congr] theorem aqM {x x':Ex}{t:Option kO}(h:x=x'):Ex.Uw x t=Ex.Uw x' t:=by rw [h]
@[congr] theorem awE {α β:Type}{x x':Option α}{f:α→β}(h:x=x'):x.map f=x'.map f:=by rw [h]
@[simp] theorem atI {x:Option (mR×kO)}:Ex.oH .ret x=x:=(rfl)
@[simp] theorem aBn:kN.vS m h (.int k a)=.int k a:=(rfl)
@[simp] theorem ayU:kN.vS m h (.bool x)=.bool x:=(rfl)
@[simp] theorem aBr:kN.vS m h (.str s)=.str s:=(rfl)
@[simp] theorem arM {rows:List (List kN)}:kN.vS m h (.slice rows .no)=.slice rows .no:=(rfl)
@[simp] theorem arN:kN.vS m h (.tuple [])=.tuple []:=(rfl)
@[simp] theorem aBq {rows:List (List kN)}{id:Nat}:kN.vS m h (.slice rows (.own id))=bif decide (id<m) then .slice rows (.own id) else .slice rows .no:=(rfl)
@[simp] theorem aBm {cs:List kN}:kN.vS m h (.agg cs)=.agg (cs.map (·.oW m h)):=(rfl)
@[simp] theorem ayO:kN.oW m h (.int k a)=.int k a:=(rfl)
@[simp] theorem arJ:kN.oW m h (.bool x)=.bool x:=(rfl)
@[simp] theorem ayS:kN.oW m h (.str s)=.str s:=(rfl)
@[simp] theorem aoW {rows:List (List kN)}:kN.oW m h (.slice rows .no)=.slice rows .no:=(rfl)
@[simp] theorem ayR {rows:List (List kN)}{id:Nat}:kN.oW m h (.slice rows (.own id))=bif decide (id<m) then .slice rows (.own id) else .slice rows .no:=(rfl)
@[simp] theorem ao0 {v w:kN}:kN.vS m h (.tuple [v,w])=.tuple [(match v with | .agg cs=>.agg (cs.map (·.oW m h)) | v=>v.oW m h),(match w with | .agg cs=>.agg (cs.map (·.oW m h)) | v=>v.oW m h)]:=(rfl)
@[simp] theorem arW:kN.kP (.int k a)=.int k a:=(rfl)
@[simp] theorem apN:kN.kP (.bool x)=.bool x:=(rfl)
@[simp] theorem arZ:kN.kP (.str s)=.str s:=(rfl)
@[simp] theorem af5 {rows:List (List kN)}{t:Tok}:kN.kP (.slice rows t)=.slice rows .no:=(rfl)
@[simp] theorem af6:kN.kP (.tuple [])=.tuple []:=(rfl)
@[simp] theorem arV {cs:List kN}:kN.kP (.agg cs)=.agg (cs.map kN.qK):=(rfl)
@[simp] theorem apL:kN.qK (.int k a)=.int k a:=(rfl)
@[simp] theorem af4:kN.qK (.bool x)=.bool x:=(rfl)
@[simp] theorem apM:kN.qK (.str s)=.str s:=(rfl)
@[simp] theorem adB {rows:List (List kN)}{t:Tok}:kN.qK (.slice rows t)=.slice rows .no:=(rfl)
@[simp] theorem adC {v w:kN}:kN.kP (.tuple [v,w])=.tuple [(match v with | .agg cs=>.agg (cs.map kN.qK) | v=>v.qK),(match w with | .agg cs=>.agg (cs.map kN.qK) | v=>v.qK)]:=(rfl)
@[simp] theorem Zl {m:Nat}{h:kO}:Ex.vS m h .normal=.normal:=(rfl)
@[simp] theorem aqQ {m:Nat}{h:kO}:Ex.vS m h .ret=.ret:=(rfl)
@[simp] theorem aiE {m:Nat}{h:kO}{id:Nat}:Ex.vS m h (.exit id)=.exit id:=(rfl)
@[simp] theorem aqP {m:Nat}{h:kO}{v:kN}:Ex.vS m h (.pan v)=.pan (v.vS m h):=(rfl)
def xM (h:kO) (id:Nat):Bool:=match h[id]? with
 | some (.front 0 0)=>true
 | _=>false
@[simp] theorem Zu {r:kO}:xM (.front 0 0::r) 0=true:=(rfl)
@[simp] theorem Zt {b:lN}{r:kO}{n:Nat}:xM (b::r) (n+1)=xM r n:=(rfl)
@[simp] theorem aeP {cs:List kN}{r:kO}:pM (.cells cs::r) 0=some cs:=(rfl)
@[simp] theorem aeO {b:lN}{r:kO}{n:Nat}:pM (b::r) (n+1)=pM r n:=(rfl)
@[simp] theorem ap1 {n id off:Nat}:kY false n h (.ptr id off)=(pM h id).bind fun cs=>cs[off]?:=by
 simp only [kY,apart,cond_false];cases pM h id <;> rfl
@[simp] theorem agQ {n id off:Nat}:kY true n h (.ptr id off)=(pM h id).bind fun cs=>if off+n≤cs.length then some (.agg ((cs.drop off).take n)) else none:=by
 simp only [kY,apart,cond_true];cases pM h id <;> rfl
@[simp] theorem agX {n id off:Nat}:kR n h (.ptr id off) v=(pM h id).bind fun cs=>if v.cells.length=n∧off+n≤cs.length∧v.cells.all kN.lS then some (h.set id (.cells (kU cs off (nQ h (cs.drop off) v.cells)))) else none:=by
 simp only [kR];cases pM h id <;> rfl
@[simp] theorem ZA {os:List kN}:nQ h os []=[]:=by cases os <;> rfl
@[simp] theorem Ln {o:kN}{os vs:List kN}:nQ h (o::os) (v::vs)=uM h o v::nQ h os vs:=(rfl)
@[simp] theorem aqZ {o:kN}:uM h o (.int k a)=.int k a:=(rfl)
@[simp] theorem ai0 {o:kN}:uM h o (.bool x)=.bool x:=(rfl)
@[simp] theorem aq3 {o:kN}:uM h o (.str s)=.str s:=(rfl)
@[simp] theorem auN {o:kN}{rows:List (List kN)}:uM h o (.slice rows .no)=.slice rows .no:=by cases rows <;> rfl
@[simp] theorem aq1 {o:kN}{rows:List (List kN)}{id:Nat}:uM h o (.slice rows (.own id))=.slice rows (.own id):=by cases rows <;> rfl
@[simp] theorem UE {id:Nat}:uM h (.slice [] (.own id)) (.slice [] .nil)=bif xM h id then .slice [] (.own id) else .slice [] .nil:=by
 have e:uM h (.slice [] (.own id)) (.slice [] .nil)=match h[id]? with | some (.front 0 0)=>.slice [] (.own id) | _=>.slice [] .nil:=(rfl)
 rw [e]
 unfold xM
 split <;> rfl
@[simp] theorem Qh {rows:List (List kN)}:uM h (.slice rows .no) (.slice [] .nil)=.slice [] .nil:=by cases rows <;> rfl
@[simp] theorem YE {id o off:Nat}:kQ off (.ptr id o)=some (.ptr id (o+off)):=(rfl)
@[simp] theorem X8 {cs:List kN}{off:Nat}:kQ off (.pptr cs)=some (.pptr (cs.drop off)):=(rfl)
@[simp] theorem Yc {id off:Nat}:lM (.ptr id off)=some (.ptr id off):=(rfl)
@[simp] theorem aqF:kN.cells (.int k a)=[.int k a]:=(rfl)
@[simp] theorem ah5:kN.cells (.bool x)=[.bool x]:=(rfl)
@[simp] theorem aqH:kN.cells (.str s)=[.str s]:=(rfl)
@[simp] theorem aeD {rows:List (List kN)}{t:Tok}:kN.cells (.slice rows t)=[.slice rows t]:=(rfl)
@[simp] theorem aqE {cs:List kN}:kN.cells (.agg cs)=cs:=(rfl)
@[simp] theorem ah2:kN.lS (.int k a)=true:=(rfl)
@[simp] theorem aeB:kN.lS (.bool x)=true:=(rfl)
@[simp] theorem ah4:kN.lS (.str s)=true:=(rfl)
@[simp] theorem Zf {rows:List (List kN)}{t:Tok}:kN.lS (.slice rows t)=true:=(rfl)
@[simp] theorem aiS:kN.nE (.int k a)=false:=(rfl)
@[simp] theorem aeS:kN.nE (.bool x)=false:=(rfl)
@[simp] theorem aiU:kN.nE (.str s)=false:=(rfl)
@[simp] theorem Zv {rows:List (List kN)}{t:Tok}:kN.nE (.slice rows t)=false:=(rfl)
@[simp] theorem aiR {cs:List kN}:kN.nE (.agg cs)=false:=(rfl)
@[simp] theorem acV {i o:Nat}:kN.vS m h (.ptr i o)=kN.oW m h (.ptr i o):=(rfl)
theorem nJ {i o:Nat}(hi:i<m):kN.oW m h (.ptr i o)=.ptr i o:=by simp [kN.oW,hi]
@[simp] theorem arY {i o:Nat}:kN.kP (.ptr i o)=.ptr i o:=(rfl)
@[simp] theorem Ng:mI m h []=some []:=(rfl)
@[simp] theorem zJ {cs:List kN}:mI m h (v::cs)=bif (v.oW m h).lS then(mI m h cs).map (v.oW m h::·) else none:=by
 simp only [mI];cases mI m h cs <;> rfl
@[simp] theorem acT {cs:List kN}:pW m h (.cells cs)=(mI m h cs).map .cells:=(rfl)
@[simp] theorem acU {i j:Nat}:pW m h (.front i j)=some (.front i j):=(rfl)
@[simp] theorem afL:sJ m h []=some []:=(rfl)
@[simp] theorem vM {b:lN}{bs:kO}:sJ m h (b::bs)=(pW m h b).bind fun b'=>(sJ m h bs).map (b'::·):=by
 simp only [sJ];cases pW m h b <;> cases sJ m h bs <;> rfl
@[simp] theorem VC {i:Nat}{vs:List kN}:lC i (.tuple vs)=vs[i]?:=(rfl)
end
theorem wrap64 {n:Int}(h1:-9223372036854775808≤n) (h2:n≤9223372036854775807):IntKind.wrap .i64 n=n:=by
 simp [IntKind.wrap,IntKind.signed,IntKind.bits]
 split <;> omega
@[simp] theorem p5 {α:Type}{enc:α→List kN}{sz:Nat}{xs:List α}{t:Tok}{k:IntKind}{i:Nat} :
  mD sz (.slice (xs.map enc) t) (.int k (i:Int))=(xs[i]?).bind fun x=>if (enc x).length=sz then some (.pptr (enc x)) else none:=by
 simp only [mD,Int.natCast_nonneg,if_true,Int.toNat_natCast,List.getElem?_map]
 cases xs[i]? <;> rfl
@[simp] theorem agN {n:Nat}{h:kO}{cs:List kN}:kY true n h (.pptr cs)=if n≤cs.length then some (.agg (cs.take n)) else none:=by
 simp [kY,apart]
@[simp] theorem adW {n:Nat}{h:kO}{cs:List kN}:kY false n h (.pptr cs)=cs[0]?:=by
 simp [kY,apart]
theorem aiB {P:Program}{A:xS}{f:Nat}{args:List kN}{h:kO}{m:Option (mR×kO)}{r:mR×kO}(he:C8 P A nP (Ag P A) f args h=m) (hm:m=some r):Ag P A f args h=some r:=V6 (he.trans hm)
end
section
open Go
section
variable {k k':IntKind}{a b:Int}{h:kO}{m n id tot off len sz:Nat}{v w:kN}{cs:List kN}
@[simp] theorem Yq:kN.qK (.vslice id tot off len sz)=.vslice id tot off len sz:=(rfl)
@[simp] theorem Zg:kN.cells (.vslice id tot off len sz)=[.vslice id tot off len sz]:=(rfl)
@[simp] theorem Ye:kN.lS (.vslice id tot off len sz)=true:=(rfl)
@[simp] theorem Zz {o:kN}:uM h o (.vslice id tot off len sz)=.vslice id tot off len sz:=(rfl)
theorem lT (hi:id<m):kN.oW m h (.vslice id tot off len sz)=.vslice id tot off len sz:=by simp [kN.oW,hi]
theorem JV:kN.vS m h (.vslice id tot off len sz)=kN.oW m h (.vslice id tot off len sz):=(rfl)
theorem SX (hi:id<m):kN.vS m h (.vslice id tot off len sz)=.vslice id tot off len sz:=by rw [JV,lT hi]
@[simp] theorem Jz:s5 (.vslice id tot off len sz)=some (.int .i64 len):=(rfl)
@[simp] theorem pH {i:Nat}{sz':Nat}:mD sz' (.vslice id tot off len sz) (.int k (i:Int))=if i<len∧sz=sz' then some (.vptr id tot (off+i*sz')) else none:=by
 simp [mD]
@[simp] theorem X9 {o:Nat}:kQ o (.vptr id tot off)=some (.vptr id tot (off+o)):=(rfl)
@[simp] theorem VK:lM (.vptr id tot off)=some (.vptr id tot off):=(rfl)
@[simp] theorem pV:kY false n h (.vptr id tot off)=(n6 h id tot).bind fun x=>x.2[off]?:=by
 simp only [kY,apart,cond_false];cases n6 h id tot <;> rfl
@[simp] theorem qX:kY true n h (.vptr id tot off)=(n6 h id tot).bind fun x=>if off+n≤x.2.length then some (.agg ((x.2.drop off).take n)) else none:=by
 simp only [kY,apart,cond_true];cases n6 h id tot <;> rfl
@[simp] theorem qY:kR n h (.vptr id tot off) v=(n6 h id tot).bind fun x=>if v.cells.length=n∧off+n≤x.2.length∧v.cells.all kN.lS then some (h.set id (.vec tot x.1 (kU x.2 off v.cells))) else none:=by
 simp only [kR];cases n6 h id tot <;> rfl
theorem Bi {r:kO}:n6 (.vec tot sz cs::r) 0 tot=some (sz,cs):=by simp [n6]
@[simp] theorem Zn {r:kO}{tot':Nat}:n6 (.vec tot' sz cs::r) 0 tot=if tot'=tot then some (sz,cs) else none:=(rfl)
@[simp] theorem Bh {bl:lN}{r:kO}:n6 (bl::r) (n+1) tot=n6 r n tot:=(rfl)
@[simp] theorem SW:pW m h (.vec tot sz cs)=(mI m h cs).map (.vec tot sz):=(rfl)
@[simp] theorem YI {rows:List (List kN)}{t:Tok}:tH sz h (.slice rows t)=if rows.all fun r=>r.length == sz then some rows else none:=(rfl)
end
noncomputable section
def Jr {α:Type}(s:List kN×kO) (k:kN→kO→α):α:=k (ad8 s.1 0 .junk) s.2
def F3 {α:Type}(s:List kN×kO) (k:kN→kN→kO→α):α:=k (ad8 s.1 0 .junk) (ad8 s.1 1 .junk) s.2
def Js {α:Type}(s:List kN×kO) (k:kN→kN→kN→kO→α):α:=k (ad8 s.1 0 .junk) (ad8 s.1 1 .junk) (ad8 s.1 2 .junk) s.2
def X1 {α:Type}(s:List kN×kO) (k:kN→kN→kN→kN→kO→α):α:=k (ad8 s.1 0 .junk) (ad8 s.1 1 .junk) (ad8 s.1 2 .junk) (ad8 s.1 3 .junk) s.2
def uq5 {α:Type}(s:List kN×kO) (k:kN→kN→kN→kN→kN→kO→α):α:=k (ad8 s.1 0 .junk) (ad8 s.1 1 .junk) (ad8 s.1 2 .junk) (ad8 s.1 3 .junk) (ad8 s.1 4 .junk) s.2
def Vd {α:Type}(s:List kN×kO) (k:kN→kN→kN→kN→kN→kN→kO→α):α:=k (ad8 s.1 0 .junk) (ad8 s.1 1 .junk) (ad8 s.1 2 .junk) (ad8 s.1 3 .junk) (ad8 s.1 4 .junk) (ad8 s.1 5 .junk) s.2
def uq7 {α:Type}(s:List kN×kO) (k:kN→kN→kN→kN→kN→kN→kN→kO→α):α:=k (ad8 s.1 0 .junk) (ad8 s.1 1 .junk) (ad8 s.1 2 .junk) (ad8 s.1 3 .junk) (ad8 s.1 4 .junk) (ad8 s.1 5 .junk) (ad8 s.1 6 .junk) s.2
def PH {α:Type}(s:List kN×kO) (k:kN→kN→kN→kN→kN→kN→kN→kN→kO→α):α:=k (ad8 s.1 0 .junk) (ad8 s.1 1 .junk) (ad8 s.1 2 .junk) (ad8 s.1 3 .junk) (ad8 s.1 4 .junk) (ad8 s.1 5 .junk) (ad8 s.1 6 .junk) (ad8 s.1 7 .junk) s.2
def uq9 {α:Type}(s:List kN×kO) (k:kN→kN→kN→kN→kN→kN→kN→kN→kN→kO→α):α:=k (ad8 s.1 0 .junk) (ad8 s.1 1 .junk) (ad8 s.1 2 .junk) (ad8 s.1 3 .junk) (ad8 s.1 4 .junk) (ad8 s.1 5 .junk) (ad8 s.1 6 .junk) (ad8 s.1 7 .junk) (ad8 s.1 8 .junk) s.2
def aEP {α:Type}(s:List kN×kO) (k:kN→kN→kN→kN→kN→kN→kN→kN→kN→kN→kO→α):α:=k (ad8 s.1 0 .junk) (ad8 s.1 1 .junk) (ad8 s.1 2 .junk) (ad8 s.1 3 .junk) (ad8 s.1 4 .junk) (ad8 s.1 5 .junk) (ad8 s.1 6 .junk) (ad8 s.1 7 .junk) (ad8 s.1 8 .junk) (ad8 s.1 9 .junk) s.2
def aEQ {α:Type}(s:List kN×kO) (k:kN→kN→kN→kN→kN→kN→kN→kN→kN→kN→kN→kO→α):α:=k (ad8 s.1 0 .junk) (ad8 s.1 1 .junk) (ad8 s.1 2 .junk) (ad8 s.1 3 .junk) (ad8 s.1 4 .junk) (ad8 s.1 5 .junk) (ad8 s.1 6 .junk) (ad8 s.1 7 .junk) (ad8 s.1 8 .junk) (ad8 s.1 9 .junk) (ad8 s.1 10 .junk) s.2
def aER {α:Type}(s:List kN×kO) (k:kN→kN→kN→kN→kN→kN→kN→kN→kN→kN→kN→kN→kO→α):α:=k (ad8 s.1 0 .junk) (ad8 s.1 1 .junk) (ad8 s.1 2 .junk) (ad8 s.1 3 .junk) (ad8 s.1 4 .junk) (ad8 s.1 5 .junk) (ad8 s.1 6 .junk) (ad8 s.1 7 .junk) (ad8 s.1 8 .junk) (ad8 s.1 9 .junk) (ad8 s.1 10 .junk) (ad8 s.1 11 .junk) s.2
def gq (b:Bool) (t:kN) (x:Option R) (h:kO) (k:kN→kO→Option R):Option R:=(oU b t x (lI (.tuple []) h)).bind (sY k (fun _ _=>none))
def kq0 (K:kT) (f:Nat) (h:kO) (k:kN→kO→Option R):Option R:=lW (K f [] h) k (fun _ _=>none)
def zE (K:kT) (f:Nat) (a:kN) (h:kO) (k:kN→kO→Option R):Option R:=lW (K f [(a.kP)] h) k (fun _ _=>none)
def yG (K:kT) (f:Nat) (a b:kN) (h:kO) (k:kN→kO→Option R):Option R:=lW (K f [(a.kP),(b.kP)] h) k (fun _ _=>none)
def AP (K:kT) (f:Nat) (a b c:kN) (h:kO) (k:kN→kO→Option R):Option R:=lW (K f [(a.kP),(b.kP),(c.kP)] h) k (fun _ _=>none)
def Ym (K:kT) (f:Nat) (a b c d:kN) (h:kO) (k:kN→kO→Option R):Option R:=lW (K f [(a.kP),(b.kP),(c.kP),(d.kP)] h) k (fun _ _=>none)
def kq5 (K:kT) (f:Nat) (a b c d e:kN) (h:kO) (k:kN→kO→Option R):Option R:=lW (K f [(a.kP),(b.kP),(c.kP),(d.kP),(e.kP)] h) k (fun _ _=>none)
def fq {α:Type}(i:Nat) (x:kN) (h:kO) (k:kN→Option α):Option α:=(kQ i x).bind fun t=>(kY false 1 h t).bind k
abbrev OH:=Option (mR×kO)
abbrev St:=List kN×kO
def iq (n:Int):kN:=.int .i64 n
def nI (b:Bool) (t:kN) (x:Option kN) (h:kO) (k:kN→kO→Option R):Option R:=(oU b t (x.bind fun v=>lI v h) (lI (.tuple []) h)).bind (sY k (fun _ _=>none))
def uk1 (K:kT) (f:Nat) (a:kN) (h:kO):Option (mR×kO):=K f [(a.kP)] h
def Yp (K:kT) (f:Nat) (a b:kN) (h:kO):Option (mR×kO):=K f [(a.kP),(b.kP)] h
def uk3 (K:kT) (f:Nat) (a b c:kN) (h:kO):Option (mR×kO):=K f [(a.kP),(b.kP),(c.kP)] h
def uk4 (K:kT) (f:Nat) (a b c d:kN) (h:kO):Option (mR×kO):=K f [(a.kP),(b.kP),(c.kP),(d.kP)] h
def uk5 (K:kT) (f:Nat) (a b c d e:kN) (h:kO):Option (mR×kO):=K f [(a.kP),(b.kP),(c.kP),(d.kP),(e.kP)] h
def aq (o:BinOp) (x y:kN) (a b:Option R):Option R:=(lF o x y).bind fun t=>kV t a b
end
@[simp ↓] theorem aES {α:Type}{s:List kN×kO}{k:kN→kO→α}:Jr s k=k (ad8 s.1 0 .junk) s.2:=(rfl)
@[simp ↓] theorem aET {α:Type}{s:List kN×kO}{k:kN→kN→kO→α}:F3 s k=k (ad8 s.1 0 .junk) (ad8 s.1 1 .junk) s.2:=(rfl)
@[simp ↓] theorem aEU {α:Type}{s:List kN×kO}{k:kN→kN→kN→kO→α}:Js s k=k (ad8 s.1 0 .junk) (ad8 s.1 1 .junk) (ad8 s.1 2 .junk) s.2:=(rfl)
@[simp ↓] theorem aEV {α:Type}{s:List kN×kO}{k:kN→kN→kN→kN→kO→α}:X1 s k=k (ad8 s.1 0 .junk) (ad8 s.1 1 .junk) (ad8 s.1 2 .junk) (ad8 s.1 3 .junk) s.2:=(rfl)
@[simp ↓] theorem aEW {α:Type}{s:List kN×kO}{k:kN→kN→kN→kN→kN→kO→α}:uq5 s k=k (ad8 s.1 0 .junk) (ad8 s.1 1 .junk) (ad8 s.1 2 .junk) (ad8 s.1 3 .junk) (ad8 s.1 4 .junk) s.2:=(rfl)
@[simp ↓] theorem aEX {α:Type}{s:List kN×kO}{k:kN→kN→kN→kN→kN→kN→kO→α}:Vd s k=k (ad8 s.1 0 .junk) (ad8 s.1 1 .junk) (ad8 s.1 2 .junk) (ad8 s.1 3 .junk) (ad8 s.1 4 .junk) (ad8 s.1 5 .junk) s.2:=(rfl)
@[simp ↓] theorem aEY {α:Type}{s:List kN×kO}{k:kN→kN→kN→kN→kN→kN→kN→kO→α}:uq7 s k=k (ad8 s.1 0 .junk) (ad8 s.1 1 .junk) (ad8 s.1 2 .junk) (ad8 s.1 3 .junk) (ad8 s.1 4 .junk) (ad8 s.1 5 .junk) (ad8 s.1 6 .junk) s.2:=(rfl)
@[simp ↓] theorem aEZ {α:Type}{s:List kN×kO}{k:kN→kN→kN→kN→kN→kN→kN→kN→kO→α}:PH s k=k (ad8 s.1 0 .junk) (ad8 s.1 1 .junk) (ad8 s.1 2 .junk) (ad8 s.1 3 .junk) (ad8 s.1 4 .junk) (ad8 s.1 5 .junk) (ad8 s.1 6 .junk) (ad8 s.1 7 .junk) s.2:=(rfl)
@[simp ↓] theorem aE0 {α:Type}{s:List kN×kO}{k:kN→kN→kN→kN→kN→kN→kN→kN→kN→kO→α}:uq9 s k=k (ad8 s.1 0 .junk) (ad8 s.1 1 .junk) (ad8 s.1 2 .junk) (ad8 s.1 3 .junk) (ad8 s.1 4 .junk) (ad8 s.1 5 .junk) (ad8 s.1 6 .junk) (ad8 s.1 7 .junk) (ad8 s.1 8 .junk) s.2:=(rfl)
@[simp ↓] theorem aBy {α:Type}{s:List kN×kO}{k:kN→kN→kN→kN→kN→kN→kN→kN→kN→kN→kO→α}:aEP s k=k (ad8 s.1 0 .junk) (ad8 s.1 1 .junk) (ad8 s.1 2 .junk) (ad8 s.1 3 .junk) (ad8 s.1 4 .junk) (ad8 s.1 5 .junk) (ad8 s.1 6 .junk) (ad8 s.1 7 .junk) (ad8 s.1 8 .junk) (ad8 s.1 9 .junk) s.2:=(rfl)
@[simp ↓] theorem aBz {α:Type}{s:List kN×kO}{k:kN→kN→kN→kN→kN→kN→kN→kN→kN→kN→kN→kO→α}:aEQ s k=k (ad8 s.1 0 .junk) (ad8 s.1 1 .junk) (ad8 s.1 2 .junk) (ad8 s.1 3 .junk) (ad8 s.1 4 .junk) (ad8 s.1 5 .junk) (ad8 s.1 6 .junk) (ad8 s.1 7 .junk) (ad8 s.1 8 .junk) (ad8 s.1 9 .junk) (ad8 s.1 10 .junk) s.2:=(rfl)
@[simp ↓] theorem aBA {α:Type}{s:List kN×kO}{k:kN→kN→kN→kN→kN→kN→kN→kN→kN→kN→kN→kN→kO→α}:aER s k=k (ad8 s.1 0 .junk) (ad8 s.1 1 .junk) (ad8 s.1 2 .junk) (ad8 s.1 3 .junk) (ad8 s.1 4 .junk) (ad8 s.1 5 .junk) (ad8 s.1 6 .junk) (ad8 s.1 7 .junk) (ad8 s.1 8 .junk) (ad8 s.1 9 .junk) (ad8 s.1 10 .junk) (ad8 s.1 11 .junk) s.2:=(rfl)
@[simp ↓] theorem aFx {b:Bool}{t:kN}{x:Option R}{h:kO}{k:kN→kO→Option R}:gq b t x h k=(oU b t x (lI (.tuple []) h)).bind (sY k (fun _ _=>none)):=(rfl)
@[simp ↓] theorem aCU {K:kT}{f:Nat}{h:kO}{k:kN→kO→Option R}:kq0 K f h k=lW (K f [] h) k (fun _ _=>none):=(rfl)
@[simp ↓] theorem aCV {K:kT}{f:Nat}{a:kN}{h:kO}{k:kN→kO→Option R}:zE K f a h k=lW (K f [(a.kP)] h) k (fun _ _=>none):=(rfl)
@[simp ↓] theorem aCW {K:kT}{f:Nat}{a b:kN}{h:kO}{k:kN→kO→Option R}:yG K f a b h k=lW (K f [(a.kP),(b.kP)] h) k (fun _ _=>none):=(rfl)
@[simp ↓] theorem aCX {K:kT}{f:Nat}{a b c:kN}{h:kO}{k:kN→kO→Option R}:AP K f a b c h k=lW (K f [(a.kP),(b.kP),(c.kP)] h) k (fun _ _=>none):=(rfl)
@[simp ↓] theorem aCY {K:kT}{f:Nat}{a b c d:kN}{h:kO}{k:kN→kO→Option R}:Ym K f a b c d h k=lW (K f [(a.kP),(b.kP),(c.kP),(d.kP)] h) k (fun _ _=>none):=(rfl)
@[simp ↓] theorem aCZ {K:kT}{f:Nat}{a b c d e:kN}{h:kO}{k:kN→kO→Option R}:kq5 K f a b c d e h k=lW (K f [(a.kP),(b.kP),(c.kP),(d.kP),(e.kP)] h) k (fun _ _=>none):=(rfl)
@[simp ↓] theorem aFw {α:Type}{i:Nat}{x:kN}{h:kO}{k:kN→Option α}:fq i x h k=(kQ i x).bind fun t=>(kY false 1 h t).bind k:=(rfl)
@[simp ↓] theorem aFy {n:Int}:iq n=.int .i64 n:=(rfl)
@[simp ↓] theorem aCG {b:Bool}{t:kN}{x:Option kN}{h:kO}{k:kN→kO→Option R}:nI b t x h k=(oU b t (x.bind fun v=>lI v h) (lI (.tuple []) h)).bind (sY k (fun _ _=>none)):=(rfl)
@[simp ↓] theorem aEK {K:kT}{f:Nat}{a:kN}{h:kO}:uk1 K f a h=K f [(a.kP)] h:=(rfl)
@[simp ↓] theorem aEL {K:kT}{f:Nat}{a b:kN}{h:kO}:Yp K f a b h=K f [(a.kP),(b.kP)] h:=(rfl)
@[simp ↓] theorem aEM {K:kT}{f:Nat}{a b c:kN}{h:kO}:uk3 K f a b c h=K f [(a.kP),(b.kP),(c.kP)] h:=(rfl)
@[simp ↓] theorem aEN {K:kT}{f:Nat}{a b c d:kN}{h:kO}:uk4 K f a b c d h=K f [(a.kP),(b.kP),(c.kP),(d.kP)] h:=(rfl)
@[simp ↓] theorem aEO {K:kT}{f:Nat}{a b c d e:kN}{h:kO}:uk5 K f a b c d e h=K f [(a.kP),(b.kP),(c.kP),(d.kP),(e.kP)] h:=(rfl)
@[simp ↓] theorem aFo {o:BinOp}{x y:kN}{a b:Option R}:aq o x y a b=(lF o x y).bind fun t=>kV t a b:=(rfl)
end
end Hk
