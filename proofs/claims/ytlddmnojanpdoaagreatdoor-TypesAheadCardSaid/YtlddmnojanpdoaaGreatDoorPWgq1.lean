/-
  The texts WG.KP, WG.KN, one behind another. No conditions.
-/
import Derived.Test.YtlddmnojanpdoaaGreatDoorPWgb1
import Derived.Test.YtlddmnojanpdoaaGreatDoorPWgt1
set_option linter.unusedVariables false
set_option linter.unusedSimpArgs false
set_option linter.all false
open List renaming cons_append → af2, map_cons → aj2, map_nil → al1
namespace Go.Proofs.YtlddmnojanpdoaaGreatDoor
section
open Go Hk
def qS:List UInt8:=[113,113,113,113]
mutual
def nqE:GE→Prop
 | .mk _ _ _ name args=>name≠qS∧acT args
def acT:List GE→Prop
 | []=>True
 | x::r=>nqE x∧acT r
end
mutual
def nqS:GS→Prop
 | .mk _ _ _ _ _ args body els _=>acT args∧Xi body∧Xi els
def Xi:List GS→Prop
 | []=>True
 | x::r=>nqS x∧Xi r
end
def nqF (f:GF):Prop:=f.name≠qS∧Xi f.body
def EQ (x:XE):Prop:=nqE x.o8
def Tm (l:List XE):Prop:=acT (XE.pJ l)
def SQ (x:XS):Prop:=nqS x.o8
def SQs (l:List XS):Prop:=Xi (XS.pJ l)
theorem Tm.snoc {x:XE}(hx:EQ x):∀{l:List XE},Tm l→Tm (l++[x])
 | [],_=>⟨hx,trivial⟩
 | _::_,h=>⟨h.1,Tm.snoc hx h.2⟩
theorem SQs.snoc {x:XS}(hx:SQ x):∀{l:List XS},SQs l→SQs (l++[x])
 | [],_=>⟨hx,trivial⟩
 | _::_,h=>⟨h.1,SQs.snoc hx h.2⟩
theorem EQ.mk {k p n:Nat}{name:List UInt8}{l:List XE}(h:name≠qS) (hl:Tm l):EQ (.mk k p n name l):=by
 unfold EQ; rw [XE.o8,nqE]; exact⟨h,hl⟩
theorem Wt:([]:List UInt8)≠qS:=fun h=>by cases h
theorem SQ.mk {k p m:Nat}{name:List UInt8}{ty:Ty}{a:List XE}{b e:List XS}{has:Bool}(ha:Tm a) (hb:SQs b) (he:SQs e):SQ (.mk k p m name ty a b e has):=by
 unfold SQ; rw [XS.o8,nqS]; exact⟨ha,hb,he⟩
section
variable {L:List Token}{α β:Type}(hT:∀a,(tk L a).text≠qS)
theorem ai9 {one:PM α}{Q:List α→Prop}{S:α→Prop}(h:PR one S) (hq:∀{x l},S x→Q l→Q (l++[x])):∀(n:Nat) (l:List α),Q l→PR (xT L one n l) Q
 | 0,_,_=>PR.fail
 | n+1,l,hl=>h.bind fun x hx=>PR.any fun _=>PR.ite (ai9 h hq n _ (hq hx hl)) (PR.pure (hq hx hl))
include hT
theorem aBD:PR (oQ L) (fun t=>t.text≠qS):=fun a d v a' d' h=>by cases h; exact hT a
theorem ai8 {k:Nat}:PR (qM L k) (fun t=>t.text≠qS):=fun a d v a' d' h=>by
 unfold qM at h
 split at h
 ·cases h; exact hT a
 ·cases h
section
variable {ex un:PM XE}(he:PR ex EQ) (hu:PR un EQ)
include he
omit hT in
theorem Zp:PR (uU L ex) Tm:=PR.any fun _=>he.bind fun x hx=>PR.any fun _=>PR.pure ⟨hx,trivial⟩
omit hT in
theorem ai5 {t:Token}(ht:t.text≠qS):PR (zT L ex t) EQ:=PR.any fun _=>PR.bind (Q:=Tm) (PR.any fun _=>PR.ite (PR.pure trivial) (ai9 he (fun hx hl=>Tm.snoc hx hl) _ [] trivial)) fun l hl=>PR.any fun _=>PR.pure (EQ.mk ht hl)
omit hT in
theorem Xc:∀(n:Nat) (b:Bool) (l:List XE),Tm l→PR (tO L ex n b l) Tm
 | 0,_,_,hl=>PR.pure hl
 | n+1,b,l,hl=>by
  rw [tO]
  refine PR.ite ?_ ?_
  ·exact PR.any fun _=>he.bind fun x hx=>Xc n false _ (hl.snoc hx)
  ·exact he.bind fun x hx=>Xc n false _ (hl.snoc hx)
omit hT in
theorem NO {k m:Nat}{b:Bool}:PR (vY L ex k m b) EQ:=PR.any fun _=>PR.any fun _=>PR.any fun _=>(Xc he _ _ [] trivial).bind fun l hl =>
 PR.ite (PR.any fun _=>PR.any fun _=>PR.any fun _=>PR.pure (EQ.mk Wt hl)) (PR.any fun _=>PR.pure (EQ.mk Wt hl))
theorem acS:PR (qD L ex) EQ:=(aBD hT).bind fun t ht =>
 PR.ite (PR.any fun _=>PR.pure (EQ.mk Wt trivial)) (PR.ite (PR.any fun _=>he.bind fun x hx=>PR.any fun _=>PR.pure hx)
  (PR.ite (NO he) (PR.ite (NO he) (PR.ite (NO he) (PR.ite (NO he) (PR.ite (NO he)
   (PR.any fun _=>PR.any fun _=>PR.ite (ai5 he ht) (PR.any fun _=>PR.ite ((Zp he).bind fun l hl=>PR.pure (EQ.mk ht hl)) (PR.pure (EQ.mk ht trivial))))))))))
include hu
omit hT he in
theorem Xe {k:Nat}:PR (AK L un k) EQ:=PR.any fun _=>PR.any fun _=>hu.bind fun x hx=>PR.any fun _=>PR.pure (EQ.mk Wt ⟨hx,trivial⟩)
theorem asK:PR (yB L ex un) EQ:=PR.any fun _=>PR.ite (Xe hu) (PR.ite (Xe hu) (PR.ite (Xe hu) (acS hT he)))
end
omit hT in
theorem Xd {next:PM XE}(hn:PR next EQ) (k:Nat):∀(n:Nat) (x:XE),EQ x→PR (tP L next k n x) EQ
 | 0,_,_=>PR.fail
 | n+1,x,hx=>PR.any fun t=>by
  cases pO t k with
  | none=>exact PR.pure hx
  | some kind=>exact PR.any fun _=>PR.ite (PR.any fun _=>Xd hn k n _ (EQ.mk Wt ⟨hx,trivial⟩)) (hn.bind fun y hy=>Xd hn k n _ (EQ.mk Wt ⟨hx,hy,trivial⟩))
omit hT in
theorem Lx {un:PM XE}(hu:PR un EQ):∀j,PR (pD L un j) EQ
 | 0=>hu
 | j+1=>(Lx hu j).bind fun x hx=>Xd (Lx hu j) _ _ x hx
omit hT in
theorem ai7 {un:PM XE}(hu:PR un EQ):PR (Bj L un) EQ:=(Lx hu 6).bind fun x hx=>PR.any fun t=>by
 cases pO t 0 with
 | none=>exact PR.pure hx
 | some kind=>exact PR.any fun _=>(Lx hu 6).bind fun y hy=>PR.pure (EQ.mk Wt ⟨hx,hy,trivial⟩)
theorem aBF:∀n,PR (EC L n) EQ
 | 0=>PR.fail
 | n+1=>asK hT (ai7 (aBF n)) (aBF n)
theorem ai6 (n:Nat):PR (B1 L n) EQ:=ai7 (aBF hT n)
theorem Zn (n:Nat):PR (Bu L n) Tm:=(ai6 hT n).bind fun x hx=>PR.any fun _=>PR.pure ⟨hx,trivial⟩
omit hT in
theorem Tm.app:∀{l m:List XE},Tm l→Tm m→Tm (l++m)
 | [],_,_,h=>h
 | _::_,_,h,g=>⟨h.1,Tm.app h.2 g⟩
theorem asJ (n p:Nat):PR (pN L n p) SQ:=(ai8 hT).bind fun t ht=>PR.any fun _ =>
 PR.ite ((ai5 (ai6 hT _) ht).bind fun c hc=>PR.any fun _=>PR.pure (SQ.mk ⟨hc,trivial⟩ trivial trivial)) (PR.any fun _ =>
  PR.ite ((Zp (ai6 hT _)).bind fun i hi=>PR.any fun _=>(Zn hT n).bind fun l hl=>PR.pure (SQ.mk (hi.app hl) trivial trivial))
   (PR.any fun _=>(Zn hT n).bind fun l hl=>PR.pure (SQ.mk hl trivial trivial)))
theorem aBE {block:PM (List XS)}(hb:PR block SQs) (n:Nat):PR (uL L block n) SQ :=
 PR.any fun t=>PR.any fun _=>PR.ite
  (PR.any fun _=>PR.any fun _=>(Zn hT n).bind fun l hl=>PR.pure (SQ.mk hl trivial trivial))
  (PR.any fun _=>PR.ite
   (PR.any fun _=>PR.any fun _=>PR.any fun _=>PR.any fun _=>PR.any fun _=>PR.pure (SQ.mk trivial trivial trivial))
   (PR.any fun _=>PR.ite
    ((ai6 hT n).bind fun x hx=>hb.bind fun b h1=>PR.any fun _=>PR.ite (hb.bind fun e h2=>PR.pure (SQ.mk ⟨hx,trivial⟩ h1 h2)) (PR.pure (SQ.mk ⟨hx,trivial⟩ h1 trivial)))
    (PR.any fun _=>PR.ite
     (PR.any fun _=>PR.any fun _=>(ai6 hT n).bind fun x hx=>PR.any fun _=>PR.any fun _=>hb.bind fun b h1=>PR.pure (SQ.mk ⟨hx,trivial⟩ h1 trivial))
     (PR.any fun _=>PR.ite ((Zn hT n).bind fun l hl=>PR.pure (SQ.mk hl trivial trivial)) (asJ hT n _)))))
omit hT in
theorem Zq {stmt:PM XS}(hs:PR stmt SQ):∀(m:Nat) (l:List XS),SQs l→PR (vZ L stmt m l) SQs
 | 0,_,_=>PR.fail
 | m+1,l,hl=>PR.any fun _=>PR.ite (PR.pure hl) (hs.bind fun x hx=>Zq hs m _ (hl.snoc hx))
theorem Ss:∀n,PR (sE L n) SQs
 | 0=>PR.fail
 | n+1=>PR.any fun _=>(Zq (aBE hT (Ss n) n) _ [] trivial).bind fun l hl=>PR.any fun _=>PR.pure hl
theorem aBC:PR (wL L) (fun f=>nqF f.o8) :=
 PR.any fun _=>(ai8 hT).bind fun t ht=>PR.any fun _=>PR.any fun _=>PR.any fun _=>PR.any fun _=>PR.ite
  (PR.any fun _=>PR.any fun _=>(Ss hT 65).bind fun b hb=>PR.pure ⟨ht,hb⟩)
  ((Ss hT 65).bind fun b hb=>PR.pure ⟨ht,hb⟩)
theorem Zo:∀(m:Nat) (l:List XF),(∀f∈l,nqF f.o8)→PR (o7 L m l) (fun l'=>∀f∈l',nqF f.o8)
 | 0,l,hl=>PR.fail
 | m+1,l,hl=>PR.any fun _=>PR.ite (PR.pure hl) ((aBC hT).bind fun f hf=>Zo m _ (by
   intro g hg
   rcases List.mem_append.1 hg with h | h
   ·exact hl g h
   ·simp at h; subst h; exact hf))
end
end
section
open Go Hk
section
variable (k:Int)
mutual
def GE.sh:GE→GE
 | .mk kd p n name args=>.mk kd (p+k) n name (GE.CN args)
def GE.CN:List GE→List GE
 | []=>[]
 | x::r=>x.sh::GE.CN r
end
mutual
def GS.sh:GS→GS
 | .mk kd p m name ty args body els has=>.mk kd (p+k) m name ty (GE.CN k args) (GS.CN body) (GS.CN els) has
def GS.CN:List GS→List GS
 | []=>[]
 | x::r=>x.sh::GS.CN r
end
def GP.sh (q:GP):GP:={ q with pos:=q.pos+k }
def GF.sh (f:GF):GF:=⟨f.pos+k,f.name,f.params.map (GP.sh k),f.has,f.result,GS.CN k f.body⟩
end
section
variable {k:Int}
def PW (k p:Int):Prop:=IntKind.i64.wrap (p+k)=p+k
def Fr (k:Int) {α β:Type}(R:α→β→Prop) (x:TR α) (y:TR β):Prop:=match x with
 | .ok v=>∃w,y=.ok w∧R v w
 | .bad e p=>∃q,y=.bad e q∧(p=0∨q=p+k∧PW k p)
variable {α β γ δ:Type}{R:α→β→Prop}{S:γ→δ→Prop}
theorem Fr.ok {v:α}{w:β}(h:R v w):Fr k R (.ok v) (.ok w):=⟨w,rfl,h⟩
theorem Fr.bad {e p:Int}(hp:PW k p):Fr k R (.bad e p) (.bad e (p+k)):=⟨_,rfl,.inr ⟨rfl,hp⟩⟩
theorem Fr.ayF {e:Int}:Fr k R (.bad e 0) (.bad e 0):=⟨_,rfl,.inl rfl⟩
theorem Fr.bind {x:TR α}{y:TR β}{f:α→TR γ}{g:β→TR δ}(h:Fr k R x y) (hf:∀v w,R v w→Fr k S (f v) (g w)):Fr k S (x.bind f) (y.bind g):=by
 cases x with
 | ok v=>obtain⟨w,rfl,h2⟩:=h; exact hf v w h2
 | bad e p=>obtain⟨q,rfl,h2⟩:=h; exact⟨q,rfl,h2⟩
theorem Fr.test {b:Bool}{e p:Int}(hp:PW k p):Fr k Eq (rG b e p) (rG b e (p+k)):=by
 unfold rG
 cases b
 ·exact Fr.bad hp
 ·exact Fr.ok rfl
theorem Fr.aGX {b:Bool}{e:Int}:Fr k Eq (rG b e 0) (rG b e 0):=by
 unfold rG
 cases b
 ·exact Fr.ayF
 ·exact Fr.ok rfl
end
mutual
def okE (k:Int):GE→Prop
 | .mk _ p _ name args=>name≠qS∧PW k p∧Eg k args
def Eg (k:Int):List GE→Prop
 | []=>True
 | x::r=>okE k x∧Eg k r
end
mutual
def okS (k:Int):GS→Prop
 | .mk _ p _ _ _ args body els _=>PW k p∧Eg k args∧La k body∧La k els
def La (k:Int):List GS→Prop
 | []=>True
 | x::r=>okS k x∧La k r
end
structure okF (k:Int) (f:GF):Prop where
 nm:f.name≠qS
 pos:PW k f.pos
 ps:∀q∈f.params,PW k q.pos
 bd:La k f.body
def FrK (k:Int) (F F':Kn):Prop:=∀s,s≠qS→look F' s=(look F s).map fun p=>(p.1.sh k,p.2)
theorem SP {k:Int}:∀l:List GE,(GE.CN k l).length=l.length
 | []=>rfl
 | _::r=>by simp only [GE.CN,List.length_cons,SP r]
section
variable {k:Int}{F F':Kn}{N:Nm mS}(hF:FrK k F F')
theorem Hx {s:List UInt8}{p:Int}(hp:PW k p):Fr k Eq (vX N s p) (vX N s (p+k)):=by
 unfold vX
 cases look N s with
 | none=>exact(Fr.bad hp)
 | some t=>exact Fr.ok rfl
theorem azP {q:GP}{kd p:Int}{name:List UInt8}(hp:PW k p):Fr k Eq (MB N q kd p name) (MB N (q.sh k) kd (p+k) name):=by
 unfold MB
 exact(Fr.test hp).bind fun _ _ _=>(Hx hp).bind fun t t' ht=>by
  subst ht
  exact(Fr.test hp).bind fun _ _ _=>(Fr.test hp)
include hF
mutual
theorem RM:∀x:GE,okE k x→Fr k Eq (xD F N x) (xD F' N (x.sh k))
 | .mk kd p n name args,hq=>by
  rw [okE] at hq
  obtain⟨hq1,hp,hq2⟩:=hq
  rw [GE.sh,xD,xD]
  by_cases h1:kd=1
  ·rw [if_pos h1,if_pos h1]; exact Fr.ok rfl
  rw [if_neg h1,if_neg h1]
  by_cases h2:kd=2
  ·rw [if_pos h2,if_pos h2]; exact(Hx hp).bind fun t t' ht=>by subst ht; exact(Fr.test hp).bind fun _ _ _=>Fr.ok rfl
  rw [if_neg h2,if_neg h2]
  by_cases h3:kd=3
  ·rw [if_pos h3,if_pos h3]; exact(RL 0 args hq2).bind fun _ _ _=>(Hx hp).bind fun t t' ht=>by subst ht; exact(Fr.test hp).bind fun _ _ _=>Fr.ok rfl
  rw [if_neg h3,if_neg h3]
  by_cases h4:kd=4
  ·rw [if_pos h4,if_pos h4,hF _ hq1]
   cases look F name with
   | none=>exact(Fr.bad hp)
   | some a =>
    obtain⟨f,c⟩:=a
    have e:((f.sh k).params.length == (GE.CN k args).length)=(f.params.length == args.length):=by simp [GF.sh,SP]
    simp only [Option.map_some,e]
    exact(Fr.test hp).bind fun _ _ _=>(MY f.params args hq2).bind fun _ _ _=>(Fr.test hp).bind fun _ _ _=>Fr.ok rfl
  rw [if_neg h4,if_neg h4]
  exact(YJ args hq2).bind fun l l' hl=>by subst hl; exact(Fr.test hp).bind fun _ _ _=>(Fr.test hp).bind fun _ _ _=>Fr.ok rfl
theorem YJ:∀l:List GE,Eg k l→Fr k Eq (wO F N l) (wO F' N (GE.CN k l))
 | [],_=>by rw [GE.CN,wO,wO]; exact Fr.ok rfl
 | x::r,hq=>by
  rw [Eg] at hq
  rw [GE.CN,wO,wO]
  exact(RM x hq.1).bind fun t t' ht=>(YJ r hq.2).bind fun l l' hl=>Fr.ok (by rw [ht,hl])
theorem RL (elem:Int):∀l:List GE,Eg k l→Fr k Eq (CM F N elem l) (CM F' N elem (GE.CN k l))
 | [],_=>by rw [GE.CN,CM,CM]; exact Fr.ok rfl
 | .mk kd p n name args::r,hq=>by
  rw [Eg] at hq
  rw [GE.CN,CM,CM]
  have h:=RM (.mk kd p n name args) hq.1
  have hp:=hq.1
  rw [okE] at hp
  replace hp:=hp.2.1
  rw [GE.sh] at h ⊢
  exact h.bind fun t t' ht=>by subst ht; exact(Fr.test hp).bind fun _ _ _=>(Fr.test hp)
theorem MY:∀(ps:List GP) (l:List GE),Eg k l→Fr k Eq (rU F N ps l) (rU F' N (ps.map (GP.sh k)) (GE.CN k l))
 | [],_,_=>by rw [al1,rU,rU]; exact Fr.ok rfl
 | q::ps,[],_=>by rw [aj2,GE.CN,rU,rU]; exact Fr.ok rfl
 | q::ps,.mk kd p n name args::r,hq=>by
  rw [Eg] at hq
  have h:=RM (.mk kd p n name args) hq.1
  have hp:=hq.1
  rw [okE] at hp
  replace hp:=hp.2.1
  rw [aj2,GE.CN,rU,rU]
  rw [GE.sh] at h ⊢
  refine Fr.bind (R:=Eq) ?_ fun _ _ _=>MY ps r hq.2
  have e:(q.sh k).ty.len=q.ty.len:=rfl
  rw [e]
  by_cases h0:q.ty.len=0
  ·rw [if_pos h0,if_pos h0]
   exact h.bind fun t t' ht=>by subst ht; exact(Fr.test hp).bind fun _ _ _=>(Fr.test hp)
  ·rw [if_neg h0,if_neg h0]; exact(azP hp)
end
theorem YH:∀l:List GE,Eg k l→Fr k Eq (Gk F N l) (Gk F' N (GE.CN k l))
 | [],_=>Fr.ok rfl
 | x::_,hq=>by rw [Eg] at hq; exact RM hF x hq.1
theorem ao5:∀x:GE,okE k x→Fr k (fun _ _=>True) (Ci F N x) (Ci F' N (x.sh k))
 | .mk kd p n name args,hq=>by
  rw [okE] at hq
  obtain⟨hq1,hp,hq2⟩:=hq
  unfold Ci
  rw [GE.sh]
  show Fr k _ (match look F name with | none=>_ | some (f,_)=>_) (match look F' name with | none=>_ | some (f,_)=>_)
  rw [hF _ hq1]
  cases look F name with
  | none=>exact(Fr.bad hp)
  | some a =>
   obtain⟨f,c⟩:=a
   have e:((f.sh k).params.length == (GE.CN k args).length)=(f.params.length == args.length):=by simp [GF.sh,SP]
   simp only [Option.map_some]
   show Fr k _ ((rG (f.params.length == args.length) 16 p).bind _) ((rG ((f.sh k).params.length == (GE.CN k args).length) 16 (p+k)).bind _)
   rw [e]
   exact(Fr.test hp).bind fun _ _ _=>(MY hF f.params args hq2).bind fun _ _ _=>Fr.ok trivial
omit hF in
theorem Lj {s:List UInt8}{t:mS}{p:Int}(hp:PW k p):Fr k Eq (As N s t p) (As N s t (p+k)):=by
 unfold As
 cases look N s with
 | none=>exact Fr.ok rfl
 | some _=>exact(Fr.bad hp)
end
theorem Lh {k:Int}:∀(l:List GS) (N:Nm mS),zP (GS.CN k l) N=zP l N
 | [],_=>rfl
 | .mk kd p m name ty args body els has::r,N=>by rw [GS.CN,GS.sh,zP,zP]; exact Lh r _
theorem akK {k:Int}(l:List GE):(GE.CN k l).tail=GE.CN k l.tail:=by cases l <;> rfl
theorem acV {k:Int}{l:List GE}(h:Eg k l):Eg k l.tail:=by
 cases l with
 | nil=>exact trivial
 | cons x r=>rw [Eg] at h; exact h.2
section
variable {k:Int}{F F':Kn}{f:GF}(hF:FrK k F F')
include hF
mutual
theorem YI:∀(x:GS) (last:Bool) (N:Nm mS),okS k x→Fr k Eq (y6 F f last N x) (y6 F' (f.sh k) last N (x.sh k))
 | .mk kd p m name ty args body els has,last,N,hq=>by
  rw [okS] at hq
  obtain⟨hp,q1,q2,q3⟩:=hq
  have hh:=YH (N:=N) hF args q1
  simp only [GS.sh,y6]
  by_cases h1:kd=1
  ·rw [if_pos h1,if_pos h1]; exact hh.bind fun t t' ht=>by subst ht; exact(Lj hp)
  rw [if_neg h1,if_neg h1]
  by_cases h2:kd=2
  ·rw [if_pos h2,if_pos h2]; exact(Lj hp).bind fun N1 N1' hN=>by subst hN; exact(Fr.test hp).bind fun _ _ _=>Fr.ok rfl
  rw [if_neg h2,if_neg h2]
  by_cases h3:kd=3
  ·rw [if_pos h3,if_pos h3]
   exact hh.bind fun v v' hv=>by subst hv; exact(Hx hp).bind fun t t' ht=>by subst ht; exact(Fr.test hp).bind fun _ _ _=>(Fr.test hp).bind fun _ _ _=>Fr.ok rfl
  rw [if_neg h3,if_neg h3]
  by_cases h4:kd=4
  ·rw [if_pos h4,if_pos h4,akK]
   exact(RL hF 0 args q1).bind fun _ _ _=>(YH hF args.tail (acV q1)).bind fun v v' hv=>by subst hv; exact(Hx hp).bind fun t t' ht=>by subst ht; exact(Fr.test hp).bind fun _ _ _=>(Fr.test hp).bind fun _ _ _=>Fr.ok rfl
  rw [if_neg h4,if_neg h4]
  by_cases h5:kd=5
  ·rw [if_pos h5,if_pos h5]
   exact(RL hF 1 args q1).bind fun _ _ _=>(Hy body N q2).bind fun N1 N1' hN=>by
    subst hN
    rw [Lh]
    exact(Hy els _ q3).bind fun N2 N2' hN=>by subst hN; rw [Lh]; exact Fr.ok rfl
  rw [if_neg h5,if_neg h5]
  by_cases h6:kd=6
  ·rw [if_pos h6,if_pos h6]
   exact(RL hF 0 args q1).bind fun _ _ _=>(Lj hp).bind fun N1 N1' hN=>by
    subst hN
    exact(Fr.test hp).bind fun _ _ _=>(Hy body N1 q2).bind fun N2 N2' hN=>by subst hN; rw [Lh]; exact Fr.ok rfl
  rw [if_neg h6,if_neg h6]
  by_cases h7:kd=7
  ·rw [if_pos h7,if_pos h7]
   cases args with
   | nil=>exact Fr.ok rfl
   | cons x r=>rw [Eg] at q1; exact(ao5 hF x q1.1).bind fun _ _ _=>Fr.ok rfl
  rw [if_neg h7,if_neg h7]
  by_cases h8:kd=8
  ·rw [if_pos h8,if_pos h8]
   exact hh.bind fun v v' hv=>by subst hv; exact Fr.bind (R:=Eq) (Fr.test hp) fun _ _ _=>Fr.bind (R:=Eq) (Fr.test hp) fun _ _ _=>Fr.ok rfl
  rw [if_neg h8,if_neg h8]; exact Fr.ok rfl
theorem Hy:∀(l:List GS) (N:Nm mS),La k l→Fr k Eq (tH F f N l) (tH F' (f.sh k) N (GS.CN k l))
 | [],N,_=>by rw [GS.CN,tH,tH]; exact Fr.ok rfl
 | x::r,N,hq=>by
  rw [La] at hq
  rw [GS.CN,tH,tH]
  exact(YI x false N hq.1).bind fun N1 N1' hN=>by subst hN; exact Hy r _ hq.2
end
theorem YG:∀(l:List GS) (N:Nm mS),La k l→Fr k Eq (yL F f N l) (yL F' (f.sh k) N (GS.CN k l))
 | [],N,_=>by rw [GS.CN,yL,yL]; exact Fr.ok rfl
 | x::r,N,hq=>by
  rw [La] at hq
  rw [GS.CN,yL,yL]
  have e:(GS.CN k r).isEmpty=r.isEmpty:=by cases r <;> rfl
  rw [e]
  exact(YI hF x _ N hq.1).bind fun N1 N1' hN=>by subst hN; exact YG r _ hq.2
mutual
theorem agQ:∀x:GE,okE k x→Al F' (x.sh k)=Al F x
 | .mk kd p n name args,hq=>by
  rw [okE] at hq
  obtain⟨hq1,hp,hq2⟩:=hq
  rw [GE.sh,Al,Al,I6 args 0 hq2,hF _ hq1]
  cases look F name <;> rfl
theorem I6:∀(l:List GE) (n:Int),Eg k l→oX F' (GE.CN k l) n=oX F l n
 | [],_,_=>rfl
 | x::r,n,hq=>by rw [Eg] at hq; rw [GE.CN,oX,oX,agQ x hq.1,I6 r _ hq.2]
end
mutual
theorem akW:∀x:GS,okS k x→Bm F' (x.sh k)=Bm F x
 | .mk kd p m name ty args body els has,hq=>by
  rw [okS] at hq
  rw [GS.sh,Bm,Bm,I6 hF args 0 hq.2.1,FZ body 0 hq.2.2.1,FZ els 0 hq.2.2.2]
theorem FZ:∀(l:List GS) (n:Int),La k l→oY F' (GS.CN k l) n=oY F l n
 | [],_,_=>rfl
 | x::r,n,hq=>by rw [La] at hq; rw [GS.CN,oY,oY,akW x hq.1,FZ r _ hq.2]
end
end
theorem Qc {k:Int}:∀(l:List GP) (N:Nm mS),(∀q∈l,PW k q.pos)→Fr k Eq (vE N l) (vE N (l.map (GP.sh k)))
 | [],N,_=>Fr.ok rfl
 | q::r,N,hq=>by
  have hp:=hq q (by simp)
  rw [aj2,vE,vE]
  exact(Lj hp).bind fun N1 N1' hN=>by subst hN; exact Fr.bind (R:=Eq) (Fr.test hp) fun _ _ _=>Fr.bind (R:=Eq) (Fr.test hp) fun _ _ _=>Qc r _ fun x hx=>hq x (by simp [hx])
theorem Np {k:Int}:∀(l:List GS) (b:Bool),tV (GS.CN k l) b=tV l b
 | [],_=>rfl
 | .mk kd p m name ty args body els has::r,b=>by rw [GS.CN,GS.sh,tV,tV]; exact Np r _
theorem UN {α:Type}{N M:Nm α}{s:List UInt8}:look (N++M) s=match look N s with
  | some t=>some t
  | none=>look M s:=by
 induction N with
 | nil=>rfl
 | cons a r ih =>
  obtain⟨n,t⟩:=a
  show(if n=s then some t else look (r++M) s)=match (if n=s then some t else look r s) with
   | some t=>some t
   | none=>look M s
  split
  ·rfl
  ·exact ih
theorem FrK.snoc {k:Int}{F F':Kn}(hF:FrK k F F') {s:List UInt8}{f:GF}{c:Int}:FrK k (F++[(s,(f,c))]) (F'++[(s,(f.sh k,c))]):=fun t ht=>by
 rw [UN,UN,hF t ht]
 cases look F t with
 | some a=>rfl
 | none =>
  show(if s=t then some (f.sh k,c) else none)=(if s=t then some (f,c) else none).map _
  split <;> rfl
theorem ao6 {k:Int}{F F':Kn}(hF:FrK k F F') {f:GF}(hq:okF k f):Fr k (FrK k) (AH F f) (AH F' (f.sh k)):=by
 unfold AH
 have e1:(f.sh k).name=f.name:=rfl
 rw [e1,hF _ hq.nm]
 cases look F f.name with
 | some _=>exact(Fr.bad hq.pos)
 | none =>
  have hp:=hq.pos
  simp only [Option.map_none]
  refine(Qc f.params [] hq.ps).bind fun N N' hN=>?_
  subst hN
  refine(YG hF f.body N hq.bd).bind fun _ _ _=>?_
  have e2:(!(f.sh k).has || tV (f.sh k).body false)=(!f.has || tV f.body false):=by show(!f.has || tV (GS.CN k f.body) false)=_; rw [Np]
  have e3:oY F' (f.sh k).body 0=oY F f.body 0:=FZ hF f.body 0 hq.bd
  rw [e2,e3]
  exact Fr.bind (R:=Eq) (Fr.test hp) fun _ _ _=>Fr.ok hF.snoc
theorem Ul {k:Int}:∀(l:List GF) (F F':Kn),FrK k F F'→(∀f∈l,okF k f)→Fr k (FrK k) (uG F l) (uG F' (l.map (GF.sh k)))
 | [],F,F',hF,_=>Fr.ok hF
 | f::r,F,F',hF,hq=>by
  rw [aj2,uG,uG]
  exact(ao6 hF (hq f (by simp))).bind fun G G' hG=>Ul r G G' hG fun g hg=>hq g (by simp [hg])
theorem WB {k:Int}:∀(l:List GP) (i o:Int),(∀q∈l,PW k q.pos)→Fr k Eq (EZ l i o) (EZ (l.map (GP.sh k)) i o)
 | [],i,o,_=>Fr.ok rfl
 | q::r,i,o,hq=>by
  have hp:=hq q (by simp)
  rw [aj2,EZ,EZ]
  refine Fr.bind (R:=Eq) (Fr.test hp) fun _ _ _=>?_
  have e:(q.sh k).out=q.out:=rfl
  have e2:Br (q.sh k).ty=Br q.ty:=rfl
  rw [e,e2]
  split
  ·exact WB r _ _ fun x hx=>hq x (by simp [hx])
  ·exact WB r _ _ fun x hx=>hq x (by simp [hx])
theorem ao8 {k:Int}{g:GF}(hg:g.name=qS) (l:List GF) (hq:∀f∈l,okF k f):Fr k Eq (DJ l) (DJ (g::l.map (GF.sh k))):=by
 unfold DJ
 rcases List.eq_nil_or_concat l with rfl | ⟨r,f,rfl⟩
 ·have e:(g.name == Bi)=false:=by rw [hg]; decide
  simp only [al1,List.getLast?_nil,List.getLast?_singleton,e,rG,TR.bind]
  exact Fr.ayF
 ·have e:(g::((r.concat f).map (GF.sh k))).getLast?=some (f.sh k):=by rw [List.concat_eq_append,List.map_append,←af2]; exact List.getLast?_concat
  have e':(r.concat f).getLast?=some f:=by simp [List.concat_eq_append]
  rw [e,e']
  have hf:=hq f (by simp [List.concat_eq_append])
  have hp:=hf.pos
  exact Fr.bind (R:=Eq) Fr.aGX fun _ _ _=>Fr.bind (R:=Eq) (Fr.test hp) fun _ _ _=>(WB f.params 0 0 hf.ps).bind fun io io' h=>by subst h; exact(Fr.test hp)
theorem ao7 {k c:Int}{g:GF}{l:List GF}(hg:uG [] [g]=.ok [(qS,(g,c))]) (hn:g.name=qS) (hq:∀f∈l,okF k f) (h1:(qE l).2=0) (h2:(qE (g::l.map (GF.sh k))).2=0) :
  Fr k (fun v w=>v.1=w.1∧w.2=v.2+k∧PW k v.2) (Bh l) (Bh (g::l.map (GF.sh k))):=by
 have e:uG [] (g::l.map (GF.sh k))=uG [(qS,(g,c))] (l.map (GF.sh k)):=by
  rw [uG] at hg ⊢
  cases hf:AH [] g with
  | bad e p=>rw [hf] at hg; cases hg
  | ok F =>
   rw [hf] at hg
   have:F=[(qS,(g,c))]:=by simpa [TR.bind,uG] using hg
   rw [this]; rfl
 unfold Bh
 rw [if_neg (by simp [h1]),if_neg (by simp [h2]),e]
 have h0:FrK k [] [(qS,(g,c))]:=fun s hs=>by
  show(if qS=s then _ else none)=none
  rw [if_neg (fun h=>hs h.symm)]
 refine(Ul l [] _ h0 hq).bind fun G G' hG=>?_
 have hm:=ao8 (k:=k) hn l hq
 rcases List.eq_nil_or_concat l with rfl | ⟨r,f,rfl⟩
 ·unfold DJ at hm ⊢
  have e:(g.name == Bi)=false:=by rw [hn]; decide
  simp only [al1,List.getLast?_nil,List.getLast?_singleton,e,rG,TR.bind]
  exact Fr.ayF
 ·refine hm.bind fun _ _ _=>?_
  have e:(g::((r.concat f).map (GF.sh k))).getLast?=some (f.sh k):=by rw [List.concat_eq_append,List.map_append,←af2]; exact List.getLast?_concat
  have e':(r.concat f).getLast?=some f:=by simp [List.concat_eq_append]
  rw [hG Bi (by decide),e,e']
  have hf:=hq f (by simp [List.concat_eq_append])
  refine Fr.ok ⟨?_,rfl,hf.pos⟩
  cases look G Bi <;> rfl
theorem VK {k c:Int}{g:GF}{l:List GF}(hg:uG [] [g]=.ok [(qS,(g,c))]) (hn:g.name=qS) (hq:∀f∈l,okF k f) (h1:(qE l).2=0) (h2:(qE (g::l.map (GF.sh k))).2=0) :
  (rD l).1=(rD (g::l.map (GF.sh k))).1∧Bx l=Bx (g::l.map (GF.sh k))∧((rD l).1=0∨(rD l).2=0∨(rD (g::l.map (GF.sh k))).2=(rD l).2+k∧PW k (rD l).2):=by
 have h:=ao7 hg hn hq h1 h2
 unfold rD Bx
 cases hl:Bh l with
 | bad e p =>
  rw [hl] at h
  obtain⟨q,hr,hp⟩:=h
  rw [hr]
  exact⟨rfl,rfl,.inr hp⟩
 | ok v =>
  rw [hl] at h
  obtain⟨⟨w1,w2⟩,hr,hp⟩:=h
  obtain⟨v1,v2⟩:=v
  simp only at hp
  obtain⟨rfl,rfl,hw⟩:=hp
  rw [hr]
  simp only
  refine⟨?_,trivial,?_⟩
  ·split <;> rfl
  ·split
   ·exact .inr (.inr ⟨rfl,hw⟩)
   ·exact .inl rfl
end
end Go.Proofs.YtlddmnojanpdoaaGreatDoor
