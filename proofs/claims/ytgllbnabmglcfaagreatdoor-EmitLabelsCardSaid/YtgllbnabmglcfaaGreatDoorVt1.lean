/-
  The texts Vk.Ty, one behind another. No conditions.
-/
import Derived.Test.YtgllbnabmglcfaaGreatDoorVk3
set_option linter.unusedVariables false
set_option linter.unusedSimpArgs false
set_option linter.all false
open List renaming drop_eq_getElem_cons → ar7, eq_nil_of_length_eq_zero → as8, getElem?_eq_some_iff → ag0, length_nil → ay5, map_cons → as6, nil_append → av6
open Nat renaming le_refl → ak5, mul_le_mul_right → as0, zero_add → av7
open Option renaming bind_some → ak6
open Option.some renaming injEq → ah5
namespace Hk
noncomputable section
open Go
def Rw {α:Type}(enc:α→List lS) (xs:List α):List (List lS):=xs.map enc
def tb {α β:Type}(x:Option α) (f:α→Option β):Option β:=x.bind f
def tm {α β:Type}(x:Option α) (f:α→β):Option β:=x.map f
def tc {α:Type}(c:Bool) (x y:Option α):Option α:=bif c then x else y
section
variable {α β γ:Type}
@[simp] theorem ax1 {x:Option α}{f:α→β}{k:β→Option γ}:(tm x f).bind k=tb x fun a=>k (f a):=by cases x <;> rfl
@[simp] theorem axZ {x:Option α}{f:α→Option β}{k:β→Option γ}:(tb x f).bind k=tb x fun a=>(f a).bind k:=by cases x <;> rfl
@[simp] theorem ax0 {c:Bool}{x y:Option β}{k:β→Option γ}:(tc c x y).bind k=tc c (x.bind k) (y.bind k):=by cases c <;> rfl
@[simp] theorem aDq {x:Option α}{f:α→Option β}{g:β→γ}:tm (tb x f) g=tb x fun a=>tm (f a) g:=by cases x <;> rfl
@[simp] theorem aDr {c:Bool}{x y:Option β}{g:β→γ}:tm (tc c x y) g=tc c (tm x g) (tm y g):=by cases c <;> rfl
@[simp] theorem pH {x:α}{g:α→β}:tm (some x) g=some (g x):=(rfl)
@[simp] theorem ay7 {g:α→β}:tm none g=none:=(rfl)
@[simp] theorem mN {x:α}{f:α→Option β}:tb (some x) f=f x:=(rfl)
@[simp] theorem nV {x y:Option α}:tc true x y=x:=(rfl)
@[simp] theorem oJ {x y:Option α}:tc false x y=y:=(rfl)
@[simp] theorem aj6 {x:Option α}{f:α→lS}{h:α→lT}{kv kp:lS→lT→Option R}:mR (tm x fun a=>(.ret (f a),h a)) kv kp=tb x fun a=>kv (f a) (h a):=by cases x <;> rfl
@[congr] theorem ay6 {c c':Bool}{x x' y y':Option α}(h:c=c') (hx:c'=true→x=x') (hy:c'=false→y=y'):tc c x y=tc c' x' y':=by
 subst h;cases c <;> simp [tc,hx,hy]
@[simp] theorem axV {c:Bool}{t e:Option R}:mH (.bool c) t e=tc c t e:=(rfl)
end
def o8 {α:Type}(xs:List α) (i:Int):Option α:=if 0≤i then xs[i.toNat]? else none
@[simp] theorem ajW {α:Type}{enc:α→List lS}{sz:Nat}{xs:List α}{t:Tok}{k:IntKind}{i:Int}(h:∀x,(enc x).length=sz):mI sz (.slice (Rw enc xs) t) (.int k i)=tm (o8 xs i) fun x=>.pptr (enc x):=by
 unfold mI Rw o8
 by_cases h0:0≤i
 ·simp only [h0,if_true,List.getElem?_map]
  cases xs[i.toNat]? <;> simp [tm,h]
 ·simp [h0,tm]
@[simp] theorem atQ {α:Type}{enc:α→List lS}{xs:List α}{t:Tok}:nK (.slice (Rw enc xs) t)=some (.int .i64 (xs.length:Int)):=by simp [Rw]
inductive Ey where
 | n | r | x (id:Nat)
 deriving Inhabited
def Ey.ex:Ey→Ex
 | .n=>.normal
 | .r=>.ret
 | .x i=>.exit i
@[simp] theorem Ey.aEa:Ey.ex .n=.normal:=(rfl)
@[simp] theorem Ey.aEb:Ey.ex .r=.ret:=(rfl)
@[simp] theorem Ey.aEc {i:Nat}:Ey.ex (.x i)=.exit i:=(rfl)
@[simp] theorem Ey.aAY {e:Ey}{m:Nat}{h:lT}:Ex.qJ m h e.ex=e.ex:=by cases e <;> rfl
def uW {α:Type}(e:Ey) (kn:Option α) (ke:Ey→Option α):Option α:=match e with
 | .n=>kn
 | e=>ke e
def sS {σ:Type}:Nat→(σ→Option (Ey×σ))→σ→Option (Ey×σ)
 | 0,_,_=>none
 | n+1,F,s=>(F s).bind fun r=>uW r.1 (sS n F r.2) fun e=>some (e,r.2)
theorem Gm {σ:Type}{F:σ→Option (Ey×σ)}:∀{n:Nat}{s:σ}{r:Ey×σ},sS n F s=some r→sS (n+1) F s=some r
 | 0,_,_,h=>by simp [sS] at h
 | n+1,s,r,h=>by
  rw [sS] at h ⊢
  cases hF:F s with
  | none=>rw [hF] at h;simp at h
  | some x =>
   rw [hF] at h
   obtain⟨e,s'⟩:=x
   cases e <;> simp only [ak6,uW] at h ⊢ <;> first | exact h | exact Gm h
theorem D_ {σ:Type}{F:σ→Option (Ey×σ)}{n m:Nat}{s:σ}{r:Ey×σ}(hnm:n≤m) (h:sS n F s=some r):sS m F s=some r:=by
 induction hnm with
 | refl=>exact h
 | step _ ih=>exact Gm ih
open Classical in
def sG {σ:Type}(F:σ→Option (Ey×σ)) (s:σ):Option (Ey×σ) :=
 if h:∃n r,sS n F s=some r then some (Classical.choose (Classical.choose_spec h)) else none
theorem Ea {σ:Type}{F:σ→Option (Ey×σ)}{s:σ}{r:Ey×σ}:sG F s=some r↔∃n,sS n F s=some r:=by
 unfold sG
 constructor
 ·intro h
  split at h
  ·rename_i hx
   cases h
   exact⟨_,Classical.choose_spec (Classical.choose_spec hx)⟩
  ·cases h
 ·rintro⟨n,hn⟩
  have hx:∃n r,sS n F s=some r:=⟨n,r,hn⟩
  rw [dif_pos hx]
  have h1:=Classical.choose_spec (Classical.choose_spec hx)
  have h2:=D_ (Nat.le_max_left _ n) h1
  have h3:=D_ (Nat.le_max_right (Classical.choose hx) n) hn
  rw [h2] at h3
  exact h3
theorem O9 {σ:Type}(F:σ→Option (Ey×σ)) (s:σ):sG F s=(F s).bind fun r=>uW r.1 (sG F r.2) fun e=>some (e,r.2):=by
 apply Option.ext
 intro r
 rw [Ea]
 cases hF:F s with
 | none =>
  simp only [Option.bind_none]
  constructor
  ·rintro⟨n,hn⟩
   cases n <;> simp [sS,hF] at hn
  ·intro h;simp at h
 | some x =>
  obtain⟨e,s'⟩:=x
  have hn1:∀n,sS (n+1) F s=uW e (sS n F s') fun e=>some (e,s'):=by
   intro n;rw [sS,hF];rfl
  simp only [ak6]
  constructor
  ·rintro⟨n,hn⟩
   cases n with
   | zero=>simp [sS] at hn
   | succ n =>
    rw [hn1] at hn
    cases e <;> simp only [uW] at hn ⊢ <;> first | exact hn | exact Ea.2 ⟨n,hn⟩
  ·intro h
   cases e <;> simp only [uW] at h
   case n=>obtain⟨n,hn⟩:=Ea.1 h;exact⟨n+1,by rw [hn1];exact hn⟩
   all_goals exact⟨1,by rw [hn1];exact h⟩
theorem p5 {σ:Type}{F:σ→Option (Ey×σ)}{s s':σ}(h:F s=some (.n,s')):sG F s=sG F s':=by rw [O9,h];rfl
theorem pM {σ:Type}{F:σ→Option (Ey×σ)}{s s':σ}{e:Ey}(h:F s=some (e,s')) (hn:e≠.n):sG F s=some (e,s'):=by
 rw [O9,h];cases e <;> first | exact absurd rfl hn | rfl
theorem s7 {σ:Type}{F:List lS×lT→Option R}{G:σ→Option (Ey×σ)}{enc:σ→List lS×lT}(h:∀s,F (enc s)=tm (G s) fun r=>(r.1.ex,enc r.2)) (s:σ):nL F (enc s)=tm (sG G s) fun r=>(r.1.ex,enc r.2):=by
 have key:∀n s,qT n F (enc s)=tm (sS n G s) fun r=>(r.1.ex,enc r.2):=by
  intro n
  induction n with
  | zero=>intro s;rfl
  | succ n ih =>
   intro s
   rw [qT,sS,h s]
   cases hG:G s with
   | none=>rfl
   | some x =>
    obtain⟨e,s'⟩:=x
    cases e <;> simp only [pH,ak6,Ex.nC,uW,Ey.ex] <;> first | exact ih s' | rfl
 apply Option.ext
 intro r
 rw [yM]
 constructor
 ·rintro⟨n,hn⟩
  rw [key] at hn
  cases hG:sS n G s with
  | none=>rw [hG] at hn;simp [tm] at hn
  | some x=>rw [hG] at hn;rw [Ea.2 ⟨n,hG⟩];exact hn
 ·intro hr
  cases hG:sG G s with
  | none=>rw [hG] at hr;simp [tm] at hr
  | some x =>
   rw [hG] at hr
   obtain⟨n,hn⟩:=Ea.1 hG
   exact⟨n,by rw [key,hn];exact hr⟩
def vA {α:Type}(id:Nat) (e:Ey) (kn:Option α) (ke:Ey→Option α):Option α:=match e with
 | .n=>kn
 | .x j=>bif j == id then kn else ke (.x j)
 | e=>ke e
def nrT {α:Type}(e:Ey) (kn:Option α):Option α:=match e with
 | .n=>kn
 | _=>none
def Ga {α:Type}(e:Ey) (x:Option α):Option α:=match e with
 | .n=>x
 | .r=>x
 | _=>none
section
variable {α β:Type}{e:Ey}{i j:Nat}
@[simp] theorem axD {kn:Option R}{ke:Ex→Option R}:Ex.nC e.ex kn ke=uW e kn fun e=>ke e.ex:=by cases e <;> rfl
@[simp] theorem arZ {kn:Option R}{ke:Ex→Option R}:Ex.inBlock i e.ex kn ke=vA i e kn fun e=>ke e.ex:=by cases e <;> rfl
@[simp] theorem aC3 {kn:Option R}:Ex.rQ e.ex kn=nrT e kn:=by cases e <;> rfl
@[simp] theorem aAW {x:Option (nT×lT)}:Ex.oA e.ex x=Ga e x:=by cases e <;> rfl
@[simp] theorem atZ {kn:Option α}{ke:Ey→Option α}{k:α→Option β}:(uW e kn ke).bind k=uW e (kn.bind k) fun e=>(ke e).bind k:=by cases e <;> rfl
@[simp] theorem at0 {kn:Option α}{ke:Ey→Option α}{k:α→Option β}:(vA i e kn ke).bind k=vA i e (kn.bind k) fun e=>(ke e).bind k:=by
 cases e <;> first | rfl | (simp only [vA];cases (_ == i) <;> rfl)
@[simp] theorem at1 {kn:Option α}{k:α→Option β}:(nrT e kn).bind k=nrT e (kn.bind k):=by cases e <;> rfl
@[simp] theorem atY {kn:Option α}{k:α→Option β}:(Ga e kn).bind k=Ga e (kn.bind k):=by cases e <;> rfl
@[simp] theorem aBX {kn:Option α}{ke:Ey→Option α}{k:α→β}:tm (uW e kn ke) k=uW e (tm kn k) fun e=>tm (ke e) k:=by cases e <;> rfl
@[simp] theorem aBY {kn:Option α}{ke:Ey→Option α}{k:α→β}:tm (vA i e kn ke) k=vA i e (tm kn k) fun e=>tm (ke e) k:=by
 cases e <;> first | rfl | (simp only [vA];cases (_ == i) <;> rfl)
@[simp] theorem aBZ {kn:Option α}{k:α→β}:tm (nrT e kn) k=nrT e (tm kn k):=by cases e <;> rfl
@[simp] theorem aBW {kn:Option α}{k:α→β}:tm (Ga e kn) k=Ga e (tm kn k):=by cases e <;> rfl
@[simp] theorem ak1 {kn:Option α}{ke:Ey→Option α}:uW .n kn ke=kn:=(rfl)
@[simp] theorem ayB {kn:Option α}{ke:Ey→Option α}:uW .r kn ke=ke .r:=(rfl)
@[simp] theorem auW {kn:Option α}{ke:Ey→Option α}:uW (.x i) kn ke=ke (.x i):=(rfl)
@[simp] theorem Dh {kn:Option α}{ke:Ey→Option α}:vA i .n kn ke=kn:=(rfl)
@[simp] theorem ayE {kn:Option α}{ke:Ey→Option α}:vA i .r kn ke=ke .r:=(rfl)
@[simp] theorem au8 {kn:Option α}{ke:Ey→Option α}:vA i (.x j) kn ke=bif j == i then kn else ke (.x j):=(rfl)
@[simp] theorem aoG {kn:Option α}:nrT .n kn=kn:=(rfl)
@[simp] theorem akX {x:Option α}:Ga .n x=x:=(rfl)
@[simp] theorem ayA {x:Option α}:Ga .r x=x:=(rfl)
end
def gd (l:List lS) (i:Nat):lS:=l.getD i .junk
def ld (g:Bool) (n:Nat) (h:lT) (a:lS) (k:lS→Option R):Option R:=(mF g n h a).bind k
def fa (o:Nat) (a:lS) (k:lS→Option R):Option R:=(mG o a).bind k
def ix (sz:Nat) (s i:lS) (k:lS→Option R):Option R:=(mI sz s i).bind k
def bo (op:BinOp) (a b:lS) (k:lS→Option R):Option R:=(mP op a b).bind k
def ln (s:lS) (k:lS→Option R):Option R:=(nK s).bind k
def gS (w:Bool) (g:lS) (x:Option R) (h:lT) (k:lS→lT→Option R):Option R:=(mE w g x (mM (.tuple []) h)).bind (mY k fun _ _=>none)
def ca (x:Option (nT×lT)) (k:lS→lT→Option R):Option R:=mR x k fun _ _=>none
def cg (x:Option (nT×lT)) (k:lS→lT→Option R):Option R:=mR x k Gk
section
variable {g:Bool}{n o sz:Nat}{h:lT}{a b s i:lS}{k:lS→Option R}{kh:lS→lT→Option R}{w:Bool}{l:List lS}{m:Nat}{op:BinOp}{x:Option R}{y:Option (nT×lT)}
@[simp] theorem aEf:gd l n=l.getD n .junk:=(rfl)
@[simp] theorem aEn:ld g n h a k=(mF g n h a).bind k:=(rfl)
@[simp] theorem aEd:fa o a k=(mG o a).bind k:=(rfl)
@[simp] theorem aEi:ix sz s i k=(mI sz s i).bind k:=(rfl)
@[simp] theorem aDK:bo op a b k=(mP op a b).bind k:=(rfl)
@[simp] theorem aEo:ln s k=(nK s).bind k:=(rfl)
@[simp] theorem aEe:gS w a x h kh=(mE w a x (mM (.tuple []) h)).bind (mY kh fun _ _=>none):=(rfl)
@[simp] theorem aD6:ca y kh=mR y kh fun _ _=>none:=(rfl)
@[simp] theorem aD7:cg y kh=mR y kh Gk:=(rfl)
@[congr] theorem ax7 {y':Option (nT×lT)}(e:y=y'):cg y kh=cg y' kh:=by rw [e]
@[congr] theorem ayH {a':lS}{h':lT}(e:a=a') (e2:h=h'):ld g n h a k=ld g n h' a' k:=by rw [e,e2]
@[congr] theorem ayC {a':lS}(e:a=a'):fa o a k=fa o a' k:=by rw [e]
@[congr] theorem ayF {s' i':lS}(e:s=s') (e2:i=i'):ix sz s i k=ix sz s' i' k:=by rw [e,e2]
@[congr] theorem ax2 {a' b':lS}(e:a=a') (e2:b=b'):bo op a b k=bo op a' b' k:=by rw [e,e2]
@[congr] theorem ayI {s':lS}(e:s=s'):ln s k=ln s' k:=by rw [e]
@[congr] theorem ayD {a':lS}{h':lT}(e:a=a') (e2:h=h'):gS w a x h kh=gS w a' x h' kh:=by rw [e,e2]
@[congr] theorem ax6 {y':Option (nT×lT)}(e:y=y'):ca y kh=ca y' kh:=by rw [e]
end
def agA (k:IntKind) (a b:Int):Option Int:=if b<0 then none else some (k.wrap (a*2^(min b.toNat k.bits)))
def Tb (k:IntKind) (a b:Int):Option Int:=if b<0 then none else some (a.fdiv (2^(min b.toNat k.bits)))
def N3 (k:IntKind) (a b:Int):Option Int:=if b=0 then none else some (k.wrap (a.tdiv b))
def axF (a b:Int):Option Int:=if b=0 then none else some (a.tmod b)
def GS (k:IntKind) (a b:Int):Int:=k.wrap (BitVec.ofInt k.bits a &&& BitVec.ofInt k.bits b).toNat
def tor (k:IntKind) (a b:Int):Int:=k.wrap (BitVec.ofInt k.bits a ||| BitVec.ofInt k.bits b).toNat
def aqM (k:IntKind) (a b:Int):Int:=k.wrap (BitVec.ofInt k.bits a ^^^ BitVec.ofInt k.bits b).toNat
def ai5 (k:IntKind) (a b:Int):Int:=k.wrap (BitVec.ofInt k.bits a &&& ~~~ BitVec.ofInt k.bits b).toNat
def aB0 (k:IntKind) (a:Int):Int:=k.wrap (BitVec.ofInt k.bits (if k.signed then -1 else k.max) ^^^ BitVec.ofInt k.bits a).toNat
def axG (s:List UInt8) (i:Int):Option Int:=if 0≤i then(s[i.toNat]?).map fun b=>((b.toNat:Nat):Int) else none
def axB (s t:List UInt8):Option (List UInt8):=if s.length+t.length≤4611686018427387904 then some (s++t) else none
def SZ (x:Option Int) (d:Nat):Option Nat:=match x with
 | none=>some d
 | some n=>if 0≤n then some n.toNat else none
def Ku {α:Type}(xs:List α) (lo hi:Option Int):Option (List α):=match SZ lo 0,SZ hi xs.length with
 | some l,some u=>if l≤u∧u≤xs.length then some ((xs.drop l).take (u-l)) else none
 | _,_=>none
def pD {α:Type}(by_:Nat) (xs ys:List α):Option (List α):=if (xs.length+ys.length)*by_≤140737488355328∧xs.length+ys.length≤140737488355328 then some (xs++ys) else none
def oR (sz n:Nat):mT:=.front n (if n=0 then 0 else sz)
section
variable {k k':IntKind}{a b:Int}{s t:List UInt8}{α:Type}{enc:α→List lS}{xs ys:List α}{sz:Nat}{T T':Tok}{x y:Bool}
@[simp] theorem ajR:mP .shl (.int k a) (.int k' b)=tm (agA k a b) (lS.int k):=by
 simp only [mP,agA];split <;> rfl
@[simp] theorem ajS:mP .shr (.int k a) (.int k' b)=tm (Tb k a b) (lS.int k):=by
 simp only [mP,Tb];split <;> rfl
@[simp] theorem ajP:mP .quo (.int k a) (.int k b)=tm (N3 k a b) (lS.int k):=by
 simp only [mP,N3,ne_eq,not_true_eq_false,if_false];split <;> rfl
@[simp] theorem ajQ:mP .rem (.int k a) (.int k b)=tm (axF a b) (lS.int k):=by
 simp only [mP,axF,ne_eq,not_true_eq_false,if_false];split <;> rfl
@[simp] theorem ajO:mP .and (.int k a) (.int k b)=some (.int k (GS k a b)):=by simp [mP,GS]
@[simp] theorem arB:mP .or (.int k a) (.int k b)=some (.int k (tor k a b)):=by simp [mP,tor]
@[simp] theorem ajT:mP .xor (.int k a) (.int k b)=some (.int k (aqM k a b)):=by simp [mP,aqM]
@[simp] theorem Z0:mP .andNot (.int k a) (.int k b)=some (.int k (ai5 k a b)):=by simp [mP,ai5]
@[simp] theorem arH:yD .xor (.int k a)=some (.int k (aB0 k a)):=(rfl)
@[simp] theorem agV:mP .add (.str s) (.str t)=tm (axB s t) lS.str:=by simp only [mP,axB];split <;> rfl
@[simp] theorem agZ:mP .lss (.str s) (.str t)=some (.bool (Op.bytesLess s t)):=(rfl)
@[simp] theorem agY:mP .leq (.str s) (.str t)=some (.bool (Op.bytesLess s t || s == t)):=(rfl)
@[simp] theorem agX:mP .gtr (.str s) (.str t)=some (.bool (!(Op.bytesLess s t || s == t))):=(rfl)
@[simp] theorem agW:mP .geq (.str s) (.str t)=some (.bool (!(Op.bytesLess s t))):=(rfl)
@[simp] theorem ag3:tC (.str s) (.int k a)=tm (axG s a) (lS.int .u8):=by
 unfold tC axG tm;by_cases h:0≤a
 ·simp only [h,if_true];cases s[a.toNat]? <;> rfl
 ·simp [h]
@[simp] theorem arF:nA (.bool x) (.int k a) (.int k b)=some (.int k (bif x then a else b)):=by cases x <;> rfl
@[simp] theorem ag7 {u v:Bool}:nA (.bool x) (.bool u) (.bool v)=some (.bool (bif x then u else v)):=by cases x <;> rfl
@[simp] theorem arG:nA (.bool x) (.str s) (.str t)=some (.str (bif x then s else t)):=by cases x <;> rfl
theorem Ox {o:Option Int}{d:Nat}:pZ (o.map (lS.int k)) d=SZ o d:=by
 cases o <;> rfl
theorem Db {lo hi:Option Int}(h:∀x,(enc x).length=sz):pF sz (.slice (Rw enc xs) T) (lo.map (lS.int k)) (hi.map (lS.int k'))=tm (Ku xs lo hi) fun zs=>.slice (Rw enc zs) .no:=by
 have hall:((Rw enc xs).all fun r=>r.length == sz)=true:=by simp [Rw,h]
 have hlen:(Rw enc xs).length=xs.length:=by simp [Rw]
 unfold pF Ku
 simp only [Ox,hall,hlen,and_true]
 cases SZ lo 0 with
 | none=>rfl
 | some l =>
  cases SZ hi xs.length with
  | none=>rfl
  | some u =>
   simp only
   split
   ·simp [tm,Rw,List.map_drop,List.map_take]
   ·rfl
@[simp] theorem ag9 {u:Int}(h:∀x,(enc x).length=sz):pF sz (.slice (Rw enc xs) T) none (some (.int k u))=tm (Ku xs none (some u)) fun zs=>.slice (Rw enc zs) .no:=Db (k:=.i64) (k':=k) (lo:=none) (hi:=some u) h
@[simp] theorem ahA {l:Int}(h:∀x,(enc x).length=sz):pF sz (.slice (Rw enc xs) T) (some (.int k l)) none=tm (Ku xs (some l) none) fun zs=>.slice (Rw enc zs) .no:=Db (k:=k) (k':=.i64) (lo:=some l) (hi:=none) h
@[simp] theorem ahB {l u:Int}(h:∀x,(enc x).length=sz):pF sz (.slice (Rw enc xs) T) (some (.int k l)) (some (.int k' u))=tm (Ku xs (some l) (some u)) fun zs=>.slice (Rw enc zs) .no:=Db (lo:=some l) (hi:=some u) h
theorem Bs {lo hi:Option Int}:sO (.str s) (lo.map (lS.int k)) (hi.map (lS.int k'))=tm (Ku s lo hi) lS.str:=by
 unfold sO Ku
 simp only [Ox]
 cases SZ lo 0 with
 | none=>rfl
 | some l =>
  cases SZ hi s.length with
  | none=>rfl
  | some u =>
   simp only
   split <;> rfl
@[simp] theorem aa6 {u:Int}:sO (.str s) none (some (.int k u))=tm (Ku s none (some u)) lS.str:=Bs (k:=.i64) (lo:=none) (hi:=some u)
@[simp] theorem aa7 {l:Int}:sO (.str s) (some (.int k l)) none=tm (Ku s (some l) none) lS.str:=Bs (k':=.i64) (lo:=some l) (hi:=none)
@[simp] theorem aa8 {l u:Int}:sO (.str s) (some (.int k l)) (some (.int k' u))=tm (Ku s (some l) (some u)) lS.str:=Bs (lo:=some l) (hi:=some u)
@[simp] theorem UD {by_ id:Nat}{h:lT}(he:∀x,(enc x).length=sz) (hb:h[id]?=some (oR sz xs.length)) :
  nD sz by_ h (.slice (Rw enc xs) (.own id)) (.slice (Rw enc ys) T)=tm (pD by_ xs ys) fun zs=>(.slice (Rw enc zs) (.own id),h.set id (oR sz zs.length)):=by
 have hr:sR sz h (.slice (Rw enc ys) T)=some (Rw enc ys):=by simp [Rw,he]
 have hl:(Rw enc xs).length=xs.length:=by simp [Rw]
 have hl2:(Rw enc ys).length=ys.length:=by simp [Rw]
 have e2:Rw enc (xs++ys)=Rw enc xs++Rw enc ys:=by simp [Rw]
 have hlt:=(ag0.1 hb).1
 have hself:h.set id (oR sz xs.length)=h:=by
  rw [←(ag0.1 hb).2];exact List.set_getElem_self hlt
 unfold nD pD
 simp only [hr,hb]
 by_cases h0:xs.length=0
 ·have e0:oR sz xs.length=.front 0 0:=by simp [oR,h0]
  have x0:xs=[]:=as8 h0
  simp only [e0,hl,hl2]
  by_cases hc:(xs.length+ys.length)*by_≤140737488355328∧xs.length+ys.length≤140737488355328
  ·rw [if_pos hc,if_pos ⟨h0,.inr ⟨trivial,trivial⟩,by rw [h0] at hc;exact hc.1,by rw [h0] at hc;exact hc.2⟩]
   simp only [tm,Option.map_some,ah5]
   by_cases h1:ys.length=0
   ·have y0:ys=[]:=as8 h1
    subst y0;subst x0
    simp only [ay5,if_true,List.append_nil] at hself ⊢
    rw [hself]
   ·rw [if_neg h1]
    simp [oR,x0,Rw,h1]
  ·rw [if_neg hc,if_neg (fun q=>hc ⟨by rw [h0];exact q.2.2.1,by rw [h0];exact q.2.2.2⟩)]
   rfl
 ·have e0:oR sz xs.length=.front xs.length sz:=by simp [oR,h0]
  simp only [e0,hl,hl2]
  by_cases hc:(xs.length+ys.length)*by_≤140737488355328∧xs.length+ys.length≤140737488355328
  ·rw [if_pos hc,if_pos ⟨trivial,.inl trivial,hc.1,hc.2⟩]
   simp only [tm,Option.map_some,ah5]
   by_cases h1:ys.length=0
   ·have y0:ys=[]:=as8 h1
    subst y0
    simp only [ay5,if_true,List.append_nil]
    rw [hself]
   ·rw [if_neg h1,e2]
    have:oR sz (xs++ys).length=.front (xs.length+ys.length) sz:=by simp [oR,h0]
    rw [this]
  ·rw [if_neg hc,if_neg (fun q=>hc ⟨q.2.2.1,q.2.2.2⟩)]
   rfl
@[simp] theorem ajN {by_ id:Nat}{h:lT}(he:∀x,(enc x).length=sz) (hb:h[id]?=some (.front 0 0)) :
  nD sz by_ h (.slice (Rw enc []) (.own id)) (.slice (Rw enc ys) T)=tm (pD by_ [] ys) fun zs=>(.slice (Rw enc zs) (.own id),h.set id (oR sz zs.length)):=UD he hb
@[simp] theorem as9:oR sz 0=.front 0 0:=(rfl)
@[simp] theorem arI {x:Option α}{f:α→lS×lT}{kv:lS→lT→Option R}:mC (tm x f) kv=tb x fun a=>kv (f a).1 (f a).2:=by cases x <;> rfl
@[simp] theorem asQ {m:Nat}{h:lT}{cs:List lS}:lS.oL m h (.pptr cs)=.pptr cs:=(rfl)
@[simp] theorem aw5 {m:Nat}{h:lT}{cs:List lS}:lS.qJ m h (.pptr cs)=.pptr cs:=(rfl)
@[simp] theorem aqT {cs:List lS}:lS.l_ (.pptr cs)=.pptr cs:=(rfl)
@[simp] theorem apX {m n:Nat}{h:lT}:pX m h (oR sz n)=some (oR sz n):=by unfold oR;split <;> rfl
@[simp] theorem ak9 {n i:Nat}{r:lT}:oX (oR sz n::r) (i+1)=oX r i:=(rfl)
@[simp] theorem acT {r:lT}:sW (oR sz 0::r) 0=true:=(rfl)
@[simp] theorem ag5 {id:Nat}{r:List lS}:nX id (.slice (Rw enc []) .nil::r)=((.slice (Rw enc []) (.own id))::(nX (id+1) r).1,.front 0 0::(nX (id+1) r).2):=(rfl)
@[simp] theorem aj0 {id:Nat}{rows:List (List lS)}{r:List lS}:nX id (.slice rows .no::r)=(.slice rows .no::(nX id r).1,(nX id r).2):=by cases rows <;> rfl
@[simp] theorem ag6 {id j:Nat}{rows:List (List lS)}{r:List lS}:nX id (.slice rows (.own j)::r)=(.slice rows (.own j)::(nX id r).1,(nX id r).2):=by cases rows <;> rfl
@[simp] theorem alJ {h:lT}{id:Nat}:tL h (.slice (Rw enc []) (.own id)) (.slice (Rw enc []) .nil)=bif sW h id then .slice (Rw enc []) (.own id) else .slice (Rw enc []) .nil:=U7
@[simp] theorem asO {m:Nat}{h:lT}:lS.oL m h (.slice (Rw enc []) .nil)=.slice (Rw enc []) .nil:=(rfl)
@[simp] theorem aw2 {m:Nat}{h:lT}:lS.qJ m h (.slice (Rw enc []) .nil)=.slice (Rw enc []) .nil:=(rfl)
end
def ci (k:IntKind) (n:Int):List lS:=[.int k n]
def cb (x:Bool):List lS:=[.bool x]
def aAV (s:List UInt8):List lS:=[.str s]
def vE {α:Type}(enc:α→List lS) (xs:List α):List lS:=[.slice (Rw enc xs) .no]
@[simp] theorem aCG {k:IntKind}{n:Int}:ci k n=[.int k n]:=(rfl)
@[simp] theorem aCE {x:Bool}:cb x=[.bool x]:=(rfl)
@[simp] theorem ax8 {s:List UInt8}:aAV s=[.str s]:=(rfl)
@[simp] theorem aAU {α:Type}{enc:α→List lS}{xs:List α}:vE enc xs=[.slice (Rw enc xs) .no]:=(rfl)
@[simp] theorem alC {w c:Bool}{x y:Option R}:mE w (.bool c) x y=bif w then tc c x y else tc c y x:=by cases w <;> rfl
attribute [simp] nP nX putCells mV Bp apart
@[simp] theorem ZW {i:Nat}{vs:List lS}:nO i (.tuple vs)=vs[i]?:=(rfl)
@[simp] theorem Ca {α:Type}{enc:α→List lS}{xs:List α}:(Rw enc xs).length=xs.length:=by simp [Rw]
@[simp] theorem aAX {m:Nat}{e:Ex}{vs:List lS}{h:lT}:mK m e vs h=(o_ m h).map fun h'=>(e.qJ m h,vs.map (·.qJ m h),h'):=(rfl)
@[simp] theorem Hp {m:Nat}{h:lT}:o_ m h=pC m h (h.take m):=(rfl)
attribute [simp] qG nE
theorem akZ {P:Program}{A:xO}:∀n,Be (Od P A nL n) fun k=>Od P A nL k:=by
 intro n
 induction n with
 | zero=>intro f args h r hb;cases hb
 | succ n ih =>
  intro f args h r hb
  obtain⟨N,hN⟩:=GY (lp:=nL) (fun _ _ _ h=>h) ih f args h r hb
  refine⟨N+1,fun k hk=>?_⟩
  cases k with
  | zero=>omega
  | succ k=>exact hN k (by omega)
theorem Mk {P:Program}{A:xO}{f:Nat}{args:List lS}{h:lT}:Iq P A f args h=p9 P A nL (Iq P A) f args h:=by
 apply Option.ext
 intro r
 refine⟨fun hb=>?_,fun hb=>Xa hb⟩
 obtain⟨N,hN⟩:=Cd.1 hb
 have h1:=hN (N+1) (by omega)
 obtain⟨M,hM⟩:=GY (lp:=nL) (K:=Od P A nL N) (Kn:=fun _=>Iq P A) (fun _ _ _ h=>h) (fun f args h r hb=>Ev.of fun _=>Cd.2 (akZ N f args h r hb)) f args h r h1
 exact hM M (ak5 _)
theorem oE {α:Type}{P:Program}{A:xO}{f:Nat}{args:List lS}{h:lT}{x:Option α}{v:α→lS}{m:Option (nT×lT)}(hp:A.pure f=true) (hs:args.all (lS.sM 0)=true)
  (he:p9 P A nL (Iq P A) f args []=m) (hk:m=tm x fun r=>(.ret (v r),[])):mW A (Iq P A) f args h=tm x fun r=>(.ret (v r),h):=by
 simp only [mW,hp,cond_true,hs,Mk,he,hk]
 cases x <;> rfl
theorem w9 {α:Type}{P:Program}{A:xO}{f:Nat}{args:List lS}{h:lT}{x:Option α}{v v':α→lS}{g g':α→lT}{m:Option (nT×lT)}(hp:A.pure f=true) (hs:args.all (lS.sM 0)=true)
  (he:p9 P A nL (Iq P A) f args []=m) (hk:m=tm x fun r=>(.ret (v r),g r)) (hb:∀r,tW (A.out f) h (.ret (v r),g r)=some (.ret (v' r),h++g' r)):mW A (Iq P A) f args h=tm x fun r=>(.ret (v' r),h++g' r):=by
 simp only [mW,hp,cond_true,hs,Mk,he,hk]
 cases x with
 | none=>rfl
 | some r=>exact hb r
def Vc {α:Type}(enc:α→List lS) (sz:Nat) (xs:List α):mT:=.vec xs.length sz (Rw enc xs).flatten
def ZD {α:Type}(by_:Nat) (z:α) (n:Int):Option (List α):=if 0≤n∧n.toNat*by_≤140737488355328∧n≤140737488355328 then some (List.replicate n.toNat z) else none
def DF (n:Nat) (i:Int):Option Nat:=if 0≤i∧i<(n:Int) then some i.toNat else none
def vC {α:Type}(n:Nat) (xs:List α) (j:Nat):Option α:=if xs.length=n then xs[j]? else none
def DG {α:Type}(n:Nat) (xs:List α) (j:Nat) (x:α):Option (List α):=if xs.length=n∧j<xs.length then some (xs.set j x) else none
def tva {α:Type}(by_ tot n:Nat) (xs ys:List α):Option (List α) :=
 if xs.length=tot∧n≤tot∧(n+ys.length)*by_≤140737488355328∧n+ys.length≤140737488355328 then some (xs.take n++ys++xs.drop (n+ys.length)) else none
section
variable {α:Type}{enc:α→List lS}{sz:Nat}{xs ys:List α}{h:lT}{id n tot len off j:Nat}{k:IntKind}{i:Int}
theorem wC (he:∀x,(enc x).length=sz):∀xs:List α,(Rw enc xs).flatten.length=xs.length*sz
 | []=>by simp [Rw]
 | x::r=>by
  have:=wC he r
  simp only [Rw,as6,List.flatten_cons,List.length_append,List.length_cons] at this ⊢
  rw [he,this,Nat.succ_mul,Nat.add_comm]
theorem Ff (he:∀x,(enc x).length=sz):∀(xs:List α) (j:Nat),(Rw enc xs).flatten.drop (j*sz)=(Rw enc (xs.drop j)).flatten
 | xs,0=>by simp
 | [],j+1=>by simp [Rw]
 | x::r,j+1=>by
  have:=Ff he r j
  simp only [Rw,as6,List.flatten_cons,List.drop_succ_cons] at this ⊢
  rw [Nat.succ_mul,Nat.add_comm,←List.drop_drop,←this]
  congr 1
  have e:(enc x).length=sz:=he x
  rw [←e,List.drop_left]
theorem Fg (he:∀x,(enc x).length=sz):∀(xs:List α) (j:Nat),(Rw enc xs).flatten.take (j*sz)=(Rw enc (xs.take j)).flatten
 | xs,0=>by simp [Rw]
 | [],j+1=>by simp [Rw]
 | x::r,j+1=>by
  have:=Fg he r j
  simp only [Rw,as6,List.flatten_cons,List.take_succ_cons] at this ⊢
  have e:(enc x).length=sz:=he x
  rw [Nat.succ_mul,Nat.add_comm,←this,←e,List.take_append]
  congr 1
  ·exact List.take_of_length_le (by omega)
  ·congr 1;omega
theorem Xj (he:∀x,(enc x).length=sz) (ho:off<sz):(Rw enc xs).flatten[j*sz+off]?=(xs[j]?).bind fun x=>(enc x)[off]?:=by
 rw [←List.getElem?_drop,Ff he]
 cases hx:xs[j]? with
 | none =>
  have:xs.length≤j:=by simpa using hx
  rw [List.drop_eq_nil_of_le this];simp [Rw]
 | some x =>
  have hl:=(ag0.1 hx).1
  rw [ar7 hl,(ag0.1 hx).2]
  simp only [Rw,as6,List.flatten_cons,ak6]
  rw [List.getElem?_append_left (by rw [he];exact ho)]
theorem DN (he:∀x,(enc x).length=sz) (hb:h[id]?=some (Vc enc sz xs)) (ho:off<sz):mF false 1 h (.vptr id tot (j*sz+off))=(vC tot xs j).bind fun x=>(enc x)[off]?:=by
 simp only [mF,oQ,hb,Vc,vC]
 by_cases e:xs.length=tot
 ·simp only [e,if_true,apart,cond_false]
  exact Xj he ho
 ·simp [e]
theorem Df (he:∀x,(enc x).length=sz) {x:α}(hx:xs[j]?=some x):(Rw enc xs).flatten=(Rw enc (xs.take j)).flatten++(enc x++(Rw enc (xs.drop (j+1))).flatten):=by
 have hl:=(ag0.1 hx).1
 have e:xs=xs.take j++x::xs.drop (j+1):=by
  have:=(List.take_append_drop j xs).symm
  rw [ar7 hl,(ag0.1 hx).2] at this
  exact this
 have e2:Rw enc xs=Rw enc (xs.take j)++(enc x::Rw enc (xs.drop (j+1))):=by
  have:=congrArg (Rw enc) e
  rw [this];simp only [Rw,List.map_append,as6]
 rw [e2,List.flatten_append,List.flatten_cons]
theorem Qc (he:∀x,(enc x).length=sz) (hl:j<xs.length):(Rw enc (xs.take j)).flatten.length=j*sz:=by
 rw [wC he,List.length_take,Nat.min_eq_left (by omega)]
theorem UI (he:∀x,(enc x).length=sz) (hb:h[id]?=some (Vc enc sz xs)) (hz:0<sz):mF true sz h (.vptr id tot (j*sz))=tm (vC tot xs j) fun x=>.agg (enc x):=by
 simp only [mF,oQ,hb,Vc,vC]
 by_cases e:xs.length=tot
 ·simp only [e,if_true,apart,cond_true]
  have hl:=wC he xs
  cases hx:xs[j]? with
  | none =>
   have h1:xs.length≤j:=by simpa using hx
   have h2:xs.length*sz≤j*sz:=as0 sz h1
   rw [if_neg (by omega)];rfl
  | some x =>
   have hj:=(ag0.1 hx).1
   have h2:(j+1)*sz≤xs.length*sz:=as0 sz hj
   rw [Nat.succ_mul] at h2
   rw [if_pos (by omega),Df he hx,←Qc he hj,List.drop_left,←he x,List.take_left]
   rfl
 ·simp [e,tm]
theorem Pv {A B o v:List lS}{off:Nat}(ho:off+v.length≤o.length):putCells (A++(o++B)) (A.length+off) v=A++(putCells o off v++B):=by
 unfold putCells
 rw [List.take_append,List.take_of_length_le (by omega:A.length≤A.length+off),Nat.add_sub_cancel_left,List.take_append_of_le_length (by omega)]
 rw [Nat.add_assoc,←List.drop_drop,List.drop_left,List.drop_append_of_le_length (by omega)]
 simp
theorem Ie {m:Nat}{v:lS}(CM:α→α) (he:∀x,(enc x).length=sz) (hb:h[id]?=some (Vc enc sz xs)) (hv:v.cells.length=m) (hm:off+m≤sz) (hz:0<m) (hok:v.cells.all lS.mZ=true) (hu:∀x,enc (CM x)=putCells (enc x) off v.cells) :
  mL m h (.vptr id tot (j*sz+off)) v=tb (vC tot xs j) fun x=>tm (DG tot xs j (CM x)) fun zs=>h.set id (Vc enc sz zs):=by
 simp only [mL,oQ,hb,Vc,vC]
 by_cases e:xs.length=tot
 ·simp only [e,if_true]
  have hl:=wC he xs
  cases hx:xs[j]? with
  | none =>
   have h1:xs.length≤j:=by simpa using hx
   have h2:xs.length*sz≤j*sz:=as0 sz h1
   rw [if_neg (by omega)];rfl
  | some x =>
   have hj:=(ag0.1 hx).1
   have h2:(j+1)*sz≤xs.length*sz:=as0 sz hj
   rw [Nat.succ_mul] at h2
   rw [if_pos ⟨hv,by omega,hok⟩]
   simp only [mN,DG,e,true_and]
   rw [if_pos (by omega)]
   simp only [pH,List.length_set,e,ah5]
   congr 2
   have hx2:(xs.set j (CM x))[j]?=some (CM x):=by simp [hj]
   have t1:(xs.set j (CM x)).take j=xs.take j:=by rw [List.take_set_of_le (ak5 _)]
   have t2:(xs.set j (CM x)).drop (j+1)=xs.drop (j+1):=by rw [List.drop_set_of_lt (by omega)]
   rw [Df he hx,Df he hx2,t1,t2,hu x,←Qc he hj,Pv (by rw [hv,he];omega)]
 ·simp [e,tb]
theorem Ic {v:lS}(x:α) (he:∀x,(enc x).length=sz) (hb:h[id]?=some (Vc enc sz xs)) (hz:0<sz) (hok:v.cells.all lS.mZ=true) (hu:v.cells=enc x) :
  mL sz h (.vptr id tot (j*sz)) v=tb (vC tot xs j) fun _=>tm (DG tot xs j x) fun zs=>h.set id (Vc enc sz zs):=by
 have:=Ie (tot:=tot) (j:=j) (off:=0) (m:=sz) (v:=v) (fun _=>x) he hb (by rw [hu,he]) (by omega) hz hok (fun y=>by
  unfold putCells
  rw [hu,List.take_zero,av6,av7,List.drop_eq_nil_of_le (by rw [he,he];exact ak5 _),List.append_nil])
 simpa using this
theorem OB:mI sz (.vslice id tot 0 len sz) (.int k i)=tm (DF len i) fun j=>.vptr id tot (j*sz):=by
 simp only [mI,DF]
 by_cases hc:0≤i∧i<(len:Int)
 ·rw [if_pos ⟨hc.1,hc.2,trivial⟩,if_pos hc];simp [tm]
 ·rw [if_neg (fun q=>hc ⟨q.1,q.2.1⟩),if_neg hc];rfl
theorem vS {by_:Nat}{z:α}{zero:List lS}(hz:enc z=zero):p_ sz by_ zero (.int k i) h=tm (ZD by_ z i) fun l=>(.vslice h.length l.length 0 l.length sz,h++[Vc enc sz l]):=by
 subst hz
 simp only [p_,ZD]
 split
 ·simp [tm,Vc,Rw]
 ·rfl
theorem HD {by_:Nat}{T:Tok}(he:∀x,(enc x).length=sz) (hz:0<sz) (hb:h[id]?=some (Vc enc sz xs)) (hn:n≤tot) (hy:ys≠[]) :
  oY sz by_ h (.vslice id tot 0 n sz) (.slice (Rw enc ys) T)=tm (tva by_ tot n xs ys) fun zs=>(.vslice id zs.length 0 (n+ys.length) sz,h.set id (Vc enc sz zs)):=by
 have hr:xU sz h (.slice (Rw enc ys) T)=some (Rw enc ys):=by simp [Rw,he]
 have hyl:ys.length≠0:=fun e=>hy (as8 e)
 unfold oY tva
 simp only [hr,oQ,hb,Vc,Ca]
 by_cases e:xs.length=tot
 ·simp only [e,if_true,true_and,hn,true_and]
  by_cases hc:(n+ys.length)*by_≤140737488355328∧n+ys.length≤140737488355328
  ·rw [if_pos hc,if_pos hc,if_neg hyl]
   have hl:=wC he xs
   have hly:=wC he ys
   by_cases ht:n+ys.length≤tot
   ·rw [if_pos ht]
    have hlen:(xs.take n++ys++xs.drop (n+ys.length)).length=tot:=by simp;omega
    simp only [pH,hlen,ah5,Prod.mk.injEq,true_and]
    congr 2
    unfold putCells
    rw [hly,←Nat.add_mul,Fg he,Ff he]
    simp [Rw,List.map_append,List.flatten_append]
   ·rw [if_neg ht]
    have hd:xs.drop (n+ys.length)=[]:=List.drop_eq_nil_of_le (by omega)
    have hlen:(xs.take n++ys++xs.drop (n+ys.length)).length=n+ys.length:=by rw [hd];simp;omega
    simp only [pH,hlen,ah5,Prod.mk.injEq,true_and]
    congr 2
    rw [Fg he,hd]
    simp [Rw,List.map_append,List.flatten_append]
  ·rw [if_neg hc,if_neg hc];rfl
 ·simp [e,tm]
attribute [simp] OB
@[simp] theorem ayX {m:Nat}(hi:id<m):lS.oL m h (.vslice id tot off len sz)=.vslice id tot off len sz:=yT hi
@[simp] theorem Kq {m:Nat}(hs:∀x,nQ m h (enc x)=some (enc x)):nQ m h (Rw enc xs).flatten=some (Rw enc xs).flatten:=by
 have app:∀(a b a' b':List lS),nQ m h a=some a'→nQ m h b=some b'→nQ m h (a++b)=some (a'++b'):=by
  intro a
  induction a with
  | nil=>intro b a' b' h1 h2;simp only [NI,ah5] at h1;subst h1;exact h2
  | cons v a ih =>
   intro b a' b' h1 h2
   rw [pY] at h1
   rw [List.cons_append,pY]
   cases hc:(lS.oL m h v).mZ with
   | false=>rw [hc] at h1;cases h1
   | true =>
    rw [hc] at h1
    simp only [cond_true,Option.map_eq_some_iff] at h1 ⊢
    obtain⟨a2,h3,rfl⟩:=h1
    exact⟨_,ih b a2 b' h3 h2,rfl⟩
 induction xs with
 | nil=>simp [Rw]
 | cons x r ih =>
  simp only [Rw,as6,List.flatten_cons] at ih ⊢
  exact app _ _ _ _ (hs x) ih
@[simp] theorem FF {m:Nat}(hs:∀x,nQ m h (enc x)=some (enc x)):pX m h (Vc enc sz xs)=some (Vc enc sz xs):=by
 simp only [Vc,SO,Kq hs,Option.map_some]
theorem NF (hs:∀x,(enc x).flatMap lS.yQ=[]):(Vc enc sz xs).refs=[]:=by
 simp only [Vc,mT.refs]
 induction xs with
 | nil=>simp [Rw]
 | cons x r ih =>
  simp only [Rw,as6,List.flatten_cons,List.flatMap_append] at ih ⊢
  rw [hs x,ih];rfl
theorem SM {f:Nat→Nat}(hs:∀x,(enc x).map (lS.Ak f)=enc x):(Vc enc sz xs).vH f=Vc enc sz xs:=by
 simp only [Vc,mT.vH]
 congr 1
 induction xs with
 | nil=>simp [Rw]
 | cons x r ih =>
  simp only [Rw,as6,List.flatten_cons,List.map_append] at ih ⊢
  rw [hs x,ih]
theorem YU {p:Nat→Bool}(hs:∀x,(enc x).all (lS.JV p)=true):(Vc enc sz xs).ok p=true:=by
 simp only [Vc,mT.ok]
 induction xs with
 | nil=>simp [Rw]
 | cons x r ih =>
  simp only [Rw,as6,List.flatten_cons,List.all_append] at ih ⊢
  rw [hs x,ih];rfl
end
def vld (g:Bool) (n:Nat) (b:Option mT) (tot a:Nat):Option lS:=match b with
 | some (.vec tot' _ cs)=>if tot'=tot then apart g n cs a else none
 | _=>none
def Tg (n id:Nat) (h:lT) (b:Option mT) (tot a:Nat) (v:lS):Option lT:=match b with
 | some (.vec tot' sz cs)=>if tot'=tot then(if v.cells.length=n∧a+n≤cs.length∧v.cells.all lS.mZ then some (h.set id (.vec tot sz (putCells cs a v.cells))) else none) else none
 | _=>none
section
variable {α:Type}{enc:α→List lS}{sz:Nat}{xs ys:List α}{h:lT}{id n tot len off j a:Nat}{k:IntKind}{i:Int}{g:Bool}{v:lS}
@[simp] theorem v_:mF g n h (.vptr id tot a)=vld g n (h[id]?) tot a:=by
 simp only [mF,oQ,vld]
 cases h[id]? with
 | none=>rfl
 | some b=>cases b with
  | vec t s cs=>by_cases e:t=tot <;> simp [e]
  | _=>rfl
@[simp] theorem UO:mL n h (.vptr id tot a) v=Tg n id h (h[id]?) tot a v:=by
 simp only [mL,oQ,Tg]
 cases h[id]? with
 | none=>rfl
 | some b=>cases b with
  | vec t s cs=>by_cases e:t=tot <;> simp [e]
  | _=>rfl
theorem T6 (b:mT):([b]:lT)[0]?=some b:=rfl
@[simp] theorem axJ (he:∀x,(enc x).length=sz) (ho:off<sz):vld false 1 (some (Vc enc sz xs)) tot (j*sz+off)=(vC tot xs j).bind fun x=>(enc x)[off]?:=by
 rw [←T6,←v_];exact DN he rfl ho
@[simp] theorem aqV (he:∀x,(enc x).length=sz) (ho:0<sz):vld false 1 (some (Vc enc sz xs)) tot (j*sz)=(vC tot xs j).bind fun x=>(enc x)[0]?:=axJ (off:=0) he ho
@[simp] theorem aqW (he:∀x,(enc x).length=1):vld false 1 (some (Vc enc 1 xs)) tot j=(vC tot xs j).bind fun x=>(enc x)[0]?:=by
 have:=aqV (xs:=xs) (tot:=tot) (j:=j) he (by omega);rwa [Nat.mul_one] at this
@[simp] theorem aqX (he:∀x,(enc x).length=sz) (hz:0<sz):vld true sz (some (Vc enc sz xs)) tot (j*sz)=tm (vC tot xs j) fun x=>.agg (enc x):=by
 rw [←T6,←v_];exact UI he rfl hz
@[simp] theorem at2 {β:Type}{f:α→Option β}:(vC n xs j).bind f=tb (vC n xs j) f:=rfl
theorem axK {m:Nat}(CM:α→α) (hb:h[id]?=some (Vc enc sz xs)) (he:∀x,(enc x).length=sz) (hv:v.cells.length=m) (hm:off+m≤sz) (hz:0<m) (hok:v.cells.all lS.mZ=true) (hu:∀x,enc (CM x)=putCells (enc x) off v.cells) :
  Tg m id h (some (Vc enc sz xs)) tot (j*sz+off) v=tb (vC tot xs j) fun x=>tm (DG tot xs j (CM x)) fun zs=>h.set id (Vc enc sz zs):=by
 rw [←hb,←UO];exact Ie CM he hb hv hm hz hok hu
theorem Th {m:Nat}(CM:α→α) (he:∀x,(enc x).length=sz) (hv:v.cells.length=m) (hm:off+m≤sz) (hz:0<m) (hok:v.cells.all lS.mZ=true) (hu:∀x,enc (CM x)=putCells (enc x) off v.cells) :
  Tg m id h (some (Vc enc sz xs)) tot (j*sz+off) v=tb (vC tot xs j) fun x=>tm (DG tot xs j (CM x)) fun zs=>h.set id (Vc enc sz zs):=by
 have key:=axK (h:=[Vc enc sz xs]) (id:=0) (tot:=tot) (j:=j) CM rfl he hv hm hz hok hu
 unfold Tg Vc at key ⊢
 simp only at key ⊢
 by_cases e:xs.length=tot
 ·simp only [e,if_true] at key ⊢
  by_cases c:v.cells.length=m∧j*sz+off+m≤(Rw enc xs).flatten.length∧v.cells.all lS.mZ=true
  ·rw [if_pos c] at key ⊢
   cases ht:vC tot xs j with
   | none=>rw [ht] at key;cases key
   | some x =>
    rw [ht] at key
    simp only [mN] at key ⊢
    cases hs:DG tot xs j (CM x) with
    | none=>rw [hs] at key;cases key
    | some zs =>
     rw [hs] at key
     simp only [pH,List.set_cons_zero,ah5,List.cons.injEq,and_true] at key ⊢
     rw [key]
  ·rw [if_neg c] at key ⊢
   cases ht:vC tot xs j with
   | none=>rfl
   | some x =>
    rw [ht] at key
    simp only [mN] at key ⊢
    cases hs:DG tot xs j (CM x) with
    | none=>rfl
    | some zs=>rw [hs] at key;cases key
 ·simp [e,vC,tb]
theorem ZQ (x:α) (he:∀x,(enc x).length=sz) (hz:0<sz) (hok:v.cells.all lS.mZ=true) (hu:v.cells=enc x) :
  Tg sz id h (some (Vc enc sz xs)) tot (j*sz) v=tb (vC tot xs j) fun _=>tm (DG tot xs j x) fun zs=>h.set id (Vc enc sz zs):=by
 have:=Th (h:=h) (id:=id) (tot:=tot) (j:=j) (off:=0) (m:=sz) (v:=v) (xs:=xs) (fun _=>x) he (by rw [hu,he]) (by omega) hz hok (fun y=>by
  unfold putCells
  rw [hu,List.take_zero,av6,av7,List.drop_eq_nil_of_le (by rw [he,he];exact ak5 _),List.append_nil])
 simpa using this
theorem N7 (x:α) (he:∀x,(enc x).length=1) (hok:v.cells.all lS.mZ=true) (hu:v.cells=enc x) :
  Tg 1 id h (some (Vc enc 1 xs)) tot j v=tb (vC tot xs j) fun _=>tm (DG tot xs j x) fun zs=>h.set id (Vc enc 1 zs):=by
 have:=ZQ (h:=h) (id:=id) (tot:=tot) (j:=j) (xs:=xs) x he (by omega) hok hu
 rwa [Nat.mul_one] at this
def tvp {α:Type}(by_ n:Nat) (xs ys:List α):Option (List α):=if xs.length=n∧(n+ys.length)*by_≤140737488355328∧n+ys.length≤140737488355328 then some (xs++ys) else none
def vap (sz by_ id:Nat) (h:lT) (b:Option mT) (tot n:Nat) (new:List (List lS)):Option (lS×lT):=match b with
 | some (.vec tot' sz1 cs)=>if tot'=tot then(if sz1=sz∧(n+new.length)*by_≤140737488355328∧n+new.length≤140737488355328
   then(if new.length=0 then some (.vslice id tot 0 n sz,h)
    else if n+new.length≤tot then some (.vslice id tot 0 (n+new.length) sz,h.set id (.vec tot sz (putCells cs (n*sz) new.flatten)))
    else some (.vslice id (n+new.length) 0 (n+new.length) sz,h.set id (.vec (n+new.length) sz (cs.take (n*sz)++new.flatten)))) else none) else none
 | _=>none
@[simp] theorem Qw {by_:Nat}{T:Tok}(he:∀x,(enc x).length=sz):oY sz by_ h (.vslice id tot 0 n sz) (.slice (Rw enc ys) T)=vap sz by_ id h (h[id]?) tot n (Rw enc ys):=by
 have hr:xU sz h (.slice (Rw enc ys) T)=some (Rw enc ys):=by simp [Rw,he]
 unfold oY vap
 simp only [hr,oQ]
 cases h[id]? with
 | none=>rfl
 | some b=>cases b with
  | vec t s cs=>by_cases e:t=tot <;> simp [e]
  | _=>rfl
@[simp] theorem axI {by_:Nat}(he:∀x,(enc x).length=sz) (hy:ys≠[]):vap sz by_ id h (some (Vc enc sz xs)) n n (Rw enc ys)=tm (tvp by_ n xs ys) fun zs=>(.vslice id zs.length 0 zs.length sz,h.set id (Vc enc sz zs)):=by
 have hyl:ys.length≠0:=fun e=>hy (as8 e)
 simp only [vap,Vc,tvp,Ca]
 by_cases e:xs.length=n
 ·simp only [e,if_true,true_and]
  by_cases hc:(n+ys.length)*by_≤140737488355328∧n+ys.length≤140737488355328
  ·rw [if_pos hc,if_pos hc,if_neg hyl,if_neg (by omega)]
   have ht:(Rw enc xs).flatten.take (n*sz)=(Rw enc xs).flatten:=List.take_of_length_le (by rw [wC he,e];exact ak5 _)
   rw [ht]
   simp [tm,e,Rw]
  ·rw [if_neg hc,if_neg hc];rfl
 ·simp [e,tm]
end
theorem yA {α:Type}{P:Program}{A:xO}{f:Nat}{args args':List lS}{h hs:lT}{ids:List Nat}{x:Option α}{v v':α→lS}{h1 h2:α→lT}{m:Option (nT×lT)}(hp:A.pure f=false) (hsub:A.sub f=true)
  (hr:reach h args=ids) (ho:Lh ids args h=true) (ha:args.map (lS.vH (AF ids))=args') (hh:yI ids h=hs)
  (he:p9 P A nL (Iq P A) f args' hs=m) (hk:m=tm x fun r=>(.ret (v r),h1 r)) (hb:∀r,Hi ids h (.ret (v r),h1 r)=some (.ret (v' r),h2 r)) :
  mW A (Iq P A) f args h=tm x fun r=>(.ret (v' r),h2 r):=by
 simp only [mW,hp,hsub,cond_true,cond_false,ap2,hr,Zr,ho,ha,hh,Mk,he,hk]
 cases x with
 | none=>rfl
 | some r=>exact hb r
@[simp] theorem aA0 {m:Nat}{v:lS}{h:lT}:nZ m v h=(o_ m h).map fun h'=>(.ret (v.qJ m h).l_,h'):=(rfl)
attribute [simp] Dw
attribute [simp] reach Mh LW lS.refs lS.yQ uS Lh yI Hi lS.vH lS.Ak lS.ok lS.JV nT.vH nT.ok AF tG yO NF SM YU
section
variable {cs:List lS}{t z:Nat}{es:List (lS×lS)}{f:Nat→Nat}{p:Nat→Bool}
@[simp] theorem apO:(mT.cells cs).refs=cs.flatMap lS.yQ:=(rfl)
@[simp] theorem awO:(mT.vec t z cs).refs=cs.flatMap lS.yQ:=(rfl)
@[simp] theorem awN:(mT.map es).refs=es.flatMap fun e=>e.2.yQ:=(rfl)
@[simp] theorem apP:(mT.front t z).refs=[]:=(rfl)
@[simp] theorem asE:mT.free.refs=[]:=(rfl)
@[simp] theorem asF:mT.gone.refs=[]:=(rfl)
@[simp] theorem asG:(mT.cells cs).vH f=.cells (cs.map (lS.Ak f)):=(rfl)
@[simp] theorem ayW:(mT.vec t z cs).vH f=.vec t z (cs.map (lS.Ak f)):=(rfl)
@[simp] theorem ayV:(mT.map es).vH f=.map (es.map fun e=>(e.1,e.2.Ak f)):=(rfl)
@[simp] theorem asH:(mT.front t z).vH f=.front t z:=(rfl)
@[simp] theorem awP:mT.free.vH f=.free:=(rfl)
@[simp] theorem awQ:mT.gone.vH f=.gone:=(rfl)
@[simp] theorem avL:(mT.cells cs).ok p=cs.all (lS.JV p):=(rfl)
@[simp] theorem aBC:(mT.vec t z cs).ok p=cs.all (lS.JV p):=(rfl)
@[simp] theorem aBB:(mT.map es).ok p=es.all fun e=>e.2.JV p:=(rfl)
@[simp] theorem avM:(mT.front t z).ok p=true:=(rfl)
@[simp] theorem ayR:mT.free.ok p=true:=(rfl)
@[simp] theorem ayS:mT.gone.ok p=true:=(rfl)
end
@[simp] theorem awM {sz n:Nat}:(oR sz n).refs=[]:=(rfl)
@[simp] theorem ayU {sz n:Nat}{f:Nat→Nat}:(oR sz n).vH f=oR sz n:=(rfl)
@[simp] theorem aBA {sz n:Nat}{p:Nat→Bool}:(oR sz n).ok p=true:=(rfl)
@[simp] theorem ZZ {α:Type}{enc:α→List lS}{sz by_:Nat}{h:lT}{ys:List α}{T:Tok}{k:lS→lT→Option R}(he:∀x,(enc x).length=sz) :
  mC (nD sz by_ h (.slice (Rw enc []) .nil) (.slice (Rw enc ys) T)) k=tc ys.isEmpty (k (.slice (Rw enc []) .nil) h) (tb (pD by_ [] ys) fun zs=>k (.slice (Rw enc zs) (.own h.length)) (h++[oR sz zs.length])):=by
 have hr:sR sz h (.slice (Rw enc ys) T)=some (Rw enc ys):=by simp [Rw,he]
 have e0:Rw enc ([]:List α)=[]:=rfl
 unfold nD
 rw [e0]
 simp only [hr,Ca]
 cases ys with
 | nil=>rfl
 | cons y r =>
  simp only [List.isEmpty_cons,oJ,pD,ay5,av7,av6]
  rw [if_neg (by simp)]
  split
  ·simp [oR,mC,tb]
  ·rfl
@[simp] theorem ah1 {α:Type}{enc:α→List lS}{h:lT}{rows:List (List lS)}:tL h (.slice rows .no) (.slice (Rw enc []) .nil)=.slice (Rw enc []) .nil:=QY
@[simp] theorem ah0 {α:Type}{enc:α→List lS}{h:lT}:tL h (.slice (Rw enc []) .nil) (.slice (Rw enc []) .nil)=.slice (Rw enc []) .nil:=(rfl)
def Vs (id sz n:Nat):lS:=if n=0 then .slice [] (.own id) else .vslice id n 0 n sz
def Vb {α:Type}(enc:α→List lS) (sz:Nat) (xs:List α):mT:=if xs.length=0 then .front 0 0 else .vec xs.length sz (Rw enc xs).flatten
@[simp] theorem Qx {α:Type}{enc:α→List lS}{sz by_ id:Nat}{h:lT}{xs ys:List α}{T:Tok}(he:∀x,(enc x).length=sz) (hy:ys≠[]) (hb:h[id]?=some (Vb enc sz xs)) :
  oY sz by_ h (Vs id sz xs.length) (.slice (Rw enc ys) T)=tm (pD by_ xs ys) fun zs=>(.vslice id zs.length 0 zs.length sz,h.set id (Vc enc sz zs)):=by
 have hyl:ys.length≠0:=fun e=>hy (as8 e)
 by_cases h0:xs.length=0
 ·have x0:xs=[]:=as8 h0
  subst x0
  have hr:xU sz h (.slice (Rw enc ys) T)=some (Rw enc ys):=by simp [Rw,he]
  have hb':h[id]?=some (.front 0 0):=hb
  have hv:Vs id sz ([]:List α).length=.slice [] (.own id):=rfl
  rw [hv]
  unfold oY pD
  simp only [hr,hb',Ca,ay5,av7,av6]
  split
  ·simp [tm,Vc]
  ·rfl
 ·have hv:Vs id sz xs.length=.vslice id xs.length 0 xs.length sz:=if_neg h0
  have hb':h[id]?=some (Vc enc sz xs):=by rw [hb];unfold Vb;rw [if_neg h0];rfl
  rw [hv,Qw he,hb',axI he hy]
  simp [tvp,pD]
theorem OC {id sz n:Nat}:nK (Vs id sz n)=some (.int .i64 (n:Int)):=by
 unfold Vs;split
 ·rename_i h;subst h;rfl
 ·rfl
attribute [simp] OC
end
end Hk
