/-
  The texts Vk.Ty, one behind another. No conditions.
-/
import Derived.Test.YtaaccaifoddaiaaGreatVk3
set_option linter.unusedVariables false
set_option linter.unusedSimpArgs false
set_option linter.all false
open List renaming getElem?_eq_some_iff → ad0
open Option renaming bind_some → aq5
open Option.some renaming injEq → aa9
namespace Hk
noncomputable section
open Go
def Rw {α:Type}(enc:α→List kN) (xs:List α):List (List kN):=xs.map enc
def tb {α β:Type}(x:Option α) (f:α→Option β):Option β:=x.bind f
def tm {α β:Type}(x:Option α) (f:α→β):Option β:=x.map f
def tc {α:Type}(c:Bool) (x y:Option α):Option α:=bif c then x else y
section
variable {α β γ:Type}
@[simp] theorem aAz {x:Option α}{f:α→β}{k:β→Option γ}:(tm x f).bind k=tb x fun a=>k (f a):=by cases x <;> rfl
@[simp] theorem aAx {x:Option α}{f:α→Option β}{k:β→Option γ}:(tb x f).bind k=tb x fun a=>(f a).bind k:=by cases x <;> rfl
@[simp] theorem aAy {c:Bool}{x y:Option β}{k:β→Option γ}:(tc c x y).bind k=tc c (x.bind k) (y.bind k):=by cases c <;> rfl
@[simp] theorem aHi {x:Option α}{f:α→Option β}{g:β→γ}:tm (tb x f) g=tb x fun a=>tm (f a) g:=by cases x <;> rfl
@[simp] theorem aHj {c:Bool}{x y:Option β}{g:β→γ}:tm (tc c x y) g=tc c (tm x g) (tm y g):=by cases c <;> rfl
@[simp] theorem AK {x:α}{g:α→β}:tm (some x) g=some (g x):=(rfl)
@[simp] theorem aBu {g:α→β}:tm none g=none:=(rfl)
@[simp] theorem kS {x:α}{f:α→Option β}:tb (some x) f=f x:=(rfl)
@[simp] theorem lD {x y:Option α}:tc true x y=x:=(rfl)
@[simp] theorem kX {x y:Option α}:tc false x y=y:=(rfl)
@[simp] theorem ahO {x:Option α}{f:α→kN}{h:α→kO}{kv kp:kN→kO→Option R}:lW (tm x fun a=>(.ret (f a),h a)) kv kp=tb x fun a=>kv (f a) (h a):=by cases x <;> rfl
@[congr] theorem aBs {c c':Bool}{x x' y y':Option α}(h:c=c') (hx:c'=true→x=x') (hy:c'=false→y=y'):tc c x y=tc c' x' y':=by
 subst h;cases c <;> simp [tc,hx,hy]
@[simp] theorem aAs {c:Bool}{t e:Option R}:kV (.bool c) t e=tc c t e:=(rfl)
end
def sF {α:Type}(xs:List α) (i:Int):Option α:=if 0≤i then xs[i.toNat]? else none
@[simp] theorem agM {α:Type}{enc:α→List kN}{sz:Nat}{xs:List α}{t:Tok}{k:IntKind}{i:Int}(h:∀x,(enc x).length=sz):mD sz (.slice (Rw enc xs) t) (.int k i)=tm (sF xs i) fun x=>.pptr (enc x):=by
 unfold mD Rw sF
 by_cases h0:0≤i
 ·simp only [h0,if_true,List.getElem?_map]
  cases xs[i.toNat]? <;> simp [tm,h]
 ·simp [h0,tm]
inductive Ey where
 | n | r | x (id:Nat)
 deriving Inhabited
def Ey.ex:Ey→Ex
 | .n=>.normal
 | .r=>.ret
 | .x i=>.exit i
@[simp] theorem Ey.aIq:Ey.ex .n=.normal:=(rfl)
@[simp] theorem Ey.aIr:Ey.ex .r=.ret:=(rfl)
@[simp] theorem Ey.aIs {i:Nat}:Ey.ex (.x i)=.exit i:=(rfl)
@[simp] theorem Ey.aCl {e:Ey}{m:Nat}{h:kO}:Ex.vS m h e.ex=e.ex:=by cases e <;> rfl
def uL {α:Type}(e:Ey) (kn:Option α) (ke:Ey→Option α):Option α:=match e with
 | .n=>kn
 | e=>ke e
def tI {σ:Type}:Nat→(σ→Option (Ey×σ))→σ→Option (Ey×σ)
 | 0,_,_=>none
 | n+1,F,s=>(F s).bind fun r=>uL r.1 (tI n F r.2) fun e=>some (e,r.2)
theorem FV {σ:Type}{F:σ→Option (Ey×σ)}:∀{n:Nat}{s:σ}{r:Ey×σ},tI n F s=some r→tI (n+1) F s=some r
 | 0,_,_,h=>by simp [tI] at h
 | n+1,s,r,h=>by
  rw [tI] at h ⊢
  cases hF:F s with
  | none=>rw [hF] at h;simp at h
  | some x =>
   rw [hF] at h
   obtain⟨e,s'⟩:=x
   cases e <;> simp only [aq5,uL] at h ⊢ <;> first | exact h | exact FV h
theorem Dw {σ:Type}{F:σ→Option (Ey×σ)}{n m:Nat}{s:σ}{r:Ey×σ}(hnm:n≤m) (h:tI n F s=some r):tI m F s=some r:=by
 induction hnm with
 | refl=>exact h
 | step _ ih=>exact FV ih
open Classical in
def rX {σ:Type}(F:σ→Option (Ey×σ)) (s:σ):Option (Ey×σ) :=
 if h:∃n r,tI n F s=some r then some (Classical.choose (Classical.choose_spec h)) else none
theorem Dx {σ:Type}{F:σ→Option (Ey×σ)}{s:σ}{r:Ey×σ}:rX F s=some r↔∃n,tI n F s=some r:=by
 unfold rX
 constructor
 ·intro h
  split at h
  ·rename_i hx
   cases h
   exact⟨_,Classical.choose_spec (Classical.choose_spec hx)⟩
  ·cases h
 ·rintro⟨n,hn⟩
  have hx:∃n r,tI n F s=some r:=⟨n,r,hn⟩
  rw [dif_pos hx]
  have h1:=Classical.choose_spec (Classical.choose_spec hx)
  have h2:=Dw (Nat.le_max_left _ n) h1
  have h3:=Dw (Nat.le_max_right (Classical.choose hx) n) hn
  rw [h2] at h3
  exact h3
theorem OY {σ:Type}(F:σ→Option (Ey×σ)) (s:σ):rX F s=(F s).bind fun r=>uL r.1 (rX F r.2) fun e=>some (e,r.2):=by
 apply Option.ext
 intro r
 rw [Dx]
 cases hF:F s with
 | none =>
  simp only [Option.bind_none]
  constructor
  ·rintro⟨n,hn⟩
   cases n <;> simp [tI,hF] at hn
  ·intro h;simp at h
 | some x =>
  obtain⟨e,s'⟩:=x
  have hn1:∀n,tI (n+1) F s=uL e (tI n F s') fun e=>some (e,s'):=by
   intro n;rw [tI,hF];rfl
  simp only [aq5]
  constructor
  ·rintro⟨n,hn⟩
   cases n with
   | zero=>simp [tI] at hn
   | succ n =>
    rw [hn1] at hn
    cases e <;> simp only [uL] at hn ⊢ <;> first | exact hn | exact Dx.2 ⟨n,hn⟩
  ·intro h
   cases e <;> simp only [uL] at h
   case n=>obtain⟨n,hn⟩:=Dx.1 h;exact⟨n+1,by rw [hn1];exact hn⟩
   all_goals exact⟨1,by rw [hn1];exact h⟩
theorem oB {σ:Type}{F:σ→Option (Ey×σ)}{s s':σ}(h:F s=some (.n,s')):rX F s=rX F s':=by rw [OY,h];rfl
theorem mV {σ:Type}{F:σ→Option (Ey×σ)}{s s':σ}{e:Ey}(h:F s=some (e,s')) (hn:e≠.n):rX F s=some (e,s'):=by
 rw [OY,h];cases e <;> first | exact absurd rfl hn | rfl
theorem uE {σ:Type}{F:List kN×kO→Option R}{G:σ→Option (Ey×σ)}{enc:σ→List kN×kO}(h:∀s,F (enc s)=tm (G s) fun r=>(r.1.ex,enc r.2)) (s:σ):nP F (enc s)=tm (rX G s) fun r=>(r.1.ex,enc r.2):=by
 have key:∀n s,rV n F (enc s)=tm (tI n G s) fun r=>(r.1.ex,enc r.2):=by
  intro n
  induction n with
  | zero=>intro s;rfl
  | succ n ih =>
   intro s
   rw [rV,tI,h s]
   cases hG:G s with
   | none=>rfl
   | some x =>
    obtain⟨e,s'⟩:=x
    cases e <;> simp only [AK,aq5,Ex.l_,uL,Ey.ex] <;> first | exact ih s' | rfl
 apply Option.ext
 intro r
 rw [yM]
 constructor
 ·rintro⟨n,hn⟩
  rw [key] at hn
  cases hG:tI n G s with
  | none=>rw [hG] at hn;simp [tm] at hn
  | some x=>rw [hG] at hn;rw [Dx.2 ⟨n,hG⟩];exact hn
 ·intro hr
  cases hG:rX G s with
  | none=>rw [hG] at hr;simp [tm] at hr
  | some x =>
   rw [hG] at hr
   obtain⟨n,hn⟩:=Dx.1 hG
   exact⟨n,by rw [key,hn];exact hr⟩
def vO {α:Type}(id:Nat) (e:Ey) (kn:Option α) (ke:Ey→Option α):Option α:=match e with
 | .n=>kn
 | .x j=>bif j == id then kn else ke (.x j)
 | e=>ke e
def nrT {α:Type}(e:Ey) (kn:Option α):Option α:=match e with
 | .n=>kn
 | _=>none
def Ao {α:Type}(e:Ey) (x:Option α):Option α:=match e with
 | .n=>x
 | .r=>x
 | _=>none
section
variable {α β:Type}{e:Ey}{i j:Nat}
@[simp] theorem az6 {kn:Option R}{ke:Ex→Option R}:Ex.l_ e.ex kn ke=uL e kn fun e=>ke e.ex:=by cases e <;> rfl
@[simp] theorem aqV {kn:Option R}{ke:Ex→Option R}:Ex.inBlock i e.ex kn ke=vO i e kn fun e=>ke e.ex:=by cases e <;> rfl
@[simp] theorem aGR {kn:Option R}:Ex.pR e.ex kn=nrT e kn:=by cases e <;> rfl
@[simp] theorem aCh {x:Option (mR×kO)}:Ex.oH e.ex x=Ao e x:=by cases e <;> rfl
@[simp] theorem asV {kn:Option α}{ke:Ey→Option α}{k:α→Option β}:(uL e kn ke).bind k=uL e (kn.bind k) fun e=>(ke e).bind k:=by cases e <;> rfl
@[simp] theorem asW {kn:Option α}{ke:Ey→Option α}{k:α→Option β}:(vO i e kn ke).bind k=vO i e (kn.bind k) fun e=>(ke e).bind k:=by
 cases e <;> first | rfl | (simp only [vO];cases (_ == i) <;> rfl)
@[simp] theorem asX {kn:Option α}{k:α→Option β}:(nrT e kn).bind k=nrT e (kn.bind k):=by cases e <;> rfl
@[simp] theorem asU {kn:Option α}{k:α→Option β}:(Ao e kn).bind k=Ao e (kn.bind k):=by cases e <;> rfl
@[simp] theorem aEG {kn:Option α}{ke:Ey→Option α}{k:α→β}:tm (uL e kn ke) k=uL e (tm kn k) fun e=>tm (ke e) k:=by cases e <;> rfl
@[simp] theorem aEH {kn:Option α}{ke:Ey→Option α}{k:α→β}:tm (vO i e kn ke) k=vO i e (tm kn k) fun e=>tm (ke e) k:=by
 cases e <;> first | rfl | (simp only [vO];cases (_ == i) <;> rfl)
@[simp] theorem aEI {kn:Option α}{k:α→β}:tm (nrT e kn) k=nrT e (tm kn k):=by cases e <;> rfl
@[simp] theorem aEF {kn:Option α}{k:α→β}:tm (Ao e kn) k=Ao e (tm kn k):=by cases e <;> rfl
end
def gd (l:List kN) (i:Nat):kN:=l.getD i .junk
def ld (g:Bool) (n:Nat) (h:kO) (a:kN) (k:kN→Option R):Option R:=(kY g n h a).bind k
def fa (o:Nat) (a:kN) (k:kN→Option R):Option R:=(kQ o a).bind k
def ix (sz:Nat) (s i:kN) (k:kN→Option R):Option R:=(mD sz s i).bind k
def bo (op:BinOp) (a b:kN) (k:kN→Option R):Option R:=(lF op a b).bind k
def ln (s:kN) (k:kN→Option R):Option R:=(s5 s).bind k
def gS (w:Bool) (g:kN) (x:Option R) (h:kO) (k:kN→kO→Option R):Option R:=(oU w g x (lI (.tuple []) h)).bind (sY k fun _ _=>none)
def ca (x:Option (mR×kO)) (k:kN→kO→Option R):Option R:=lW x k fun _ _=>none
def cg (x:Option (mR×kO)) (k:kN→kO→Option R):Option R:=lW x k Gg
section
variable {g:Bool}{n o sz:Nat}{h:kO}{a b s i:kN}{k:kN→Option R}{kh:kN→kO→Option R}{w:Bool}{l:List kN}{m:Nat}{op:BinOp}{x:Option R}{y:Option (mR×kO)}
@[simp] theorem aIE:gd l n=l.getD n .junk:=(rfl)
@[simp] theorem aIR:ld g n h a k=(kY g n h a).bind k:=(rfl)
@[simp] theorem aIt:fa o a k=(kQ o a).bind k:=(rfl)
@[simp] theorem aIF:ix sz s i k=(mD sz s i).bind k:=(rfl)
@[simp] theorem aHR:bo op a b k=(lF op a b).bind k:=(rfl)
@[simp] theorem aIS:ln s k=(s5 s).bind k:=(rfl)
@[simp] theorem aID:gS w a x h kh=(oU w a x (lI (.tuple []) h)).bind (sY kh fun _ _=>none):=(rfl)
@[simp] theorem aIe:ca y kh=lW y kh fun _ _=>none:=(rfl)
@[simp] theorem aIf:cg y kh=lW y kh Gg:=(rfl)
@[congr] theorem aAD {y':Option (mR×kO)}(e:y=y'):cg y kh=cg y' kh:=by rw [e]
@[congr] theorem aAU {a':kN}{h':kO}(e:a=a') (e2:h=h'):ld g n h a k=ld g n h' a' k:=by rw [e,e2]
@[congr] theorem aAI {a':kN}(e:a=a'):fa o a k=fa o a' k:=by rw [e]
@[congr] theorem aAM {s' i':kN}(e:s=s') (e2:i=i'):ix sz s i k=ix sz s' i' k:=by rw [e,e2]
@[congr] theorem aAA {a' b':kN}(e:a=a') (e2:b=b'):bo op a b k=bo op a' b' k:=by rw [e,e2]
@[congr] theorem aAV {s':kN}(e:s=s'):ln s k=ln s' k:=by rw [e]
@[congr] theorem aAJ {a':kN}{h':kO}(e:a=a') (e2:h=h'):gS w a x h kh=gS w a' x h' kh:=by rw [e,e2]
@[congr] theorem aAC {y':Option (mR×kO)}(e:y=y'):ca y kh=ca y' kh:=by rw [e]
end
def qP (k:IntKind) (a b:Int):Option Int:=if b<0 then none else some (k.wrap (a*2^(min b.toNat k.bits)))
def sX (k:IntKind) (a b:Int):Option Int:=if b<0 then none else some (a.fdiv (2^(min b.toNat k.bits)))
def A0 (k:IntKind) (a b:Int):Option Int:=if b=0 then none else some (k.wrap (a.tdiv b))
def qA (a b:Int):Option Int:=if b=0 then none else some (a.tmod b)
def rC (k:IntKind) (a b:Int):Int:=k.wrap (BitVec.ofInt k.bits a &&& BitVec.ofInt k.bits b).toNat
def sD (k:IntKind) (a b:Int):Int:=k.wrap (BitVec.ofInt k.bits a ||| BitVec.ofInt k.bits b).toNat
def C5 (k:IntKind) (a b:Int):Int:=k.wrap (BitVec.ofInt k.bits a ^^^ BitVec.ofInt k.bits b).toNat
def Jc (k:IntKind) (a b:Int):Int:=k.wrap (BitVec.ofInt k.bits a &&& ~~~ BitVec.ofInt k.bits b).toNat
def Pu (k:IntKind) (a:Int):Int:=k.wrap (BitVec.ofInt k.bits (if k.signed then -1 else k.max) ^^^ BitVec.ofInt k.bits a).toNat
def uU (s:List UInt8) (i:Int):Option Int:=if 0≤i then(s[i.toNat]?).map fun b=>((b.toNat:Nat):Int) else none
def C0 (s t:List UInt8):Option (List UInt8):=if s.length+t.length≤4611686018427387904 then some (s++t) else none
def JZ (x:Option Int) (d:Nat):Option Nat:=match x with
 | none=>some d
 | some n=>if 0≤n then some n.toNat else none
def zP {α:Type}(xs:List α) (lo hi:Option Int):Option (List α):=match JZ lo 0,JZ hi xs.length with
 | some l,some u=>if l≤u∧u≤xs.length then some ((xs.drop l).take (u-l)) else none
 | _,_=>none
def JY {α:Type}(by_:Nat) (xs ys:List α):Option (List α):=if (xs.length+ys.length)*by_≤140737488355328∧xs.length+ys.length≤140737488355328 then some (xs++ys) else none
def qL (sz n:Nat):lN:=.front n (if n=0 then 0 else sz)
section
variable {k k':IntKind}{a b:Int}{s t:List UInt8}{α:Type}{enc:α→List kN}{xs ys:List α}{sz:Nat}{T T':Tok}{x y:Bool}
@[simp] theorem PO:lF .shl (.int k a) (.int k' b)=tm (qP k a b) (kN.int k):=by
 simp only [lF,qP];split <;> rfl
@[simp] theorem PQ:lF .shr (.int k a) (.int k' b)=tm (sX k a b) (kN.int k):=by
 simp only [lF,sX];split <;> rfl
@[simp] theorem agF:lF .quo (.int k a) (.int k b)=tm (A0 k a b) (kN.int k):=by
 simp only [lF,A0,ne_eq,not_true_eq_false,if_false];split <;> rfl
@[simp] theorem agG:lF .rem (.int k a) (.int k b)=tm (qA a b) (kN.int k):=by
 simp only [lF,qA,ne_eq,not_true_eq_false,if_false];split <;> rfl
@[simp] theorem agE:lF .and (.int k a) (.int k b)=some (.int k (rC k a b)):=by simp [lF,rC]
@[simp] theorem ap0:lF .or (.int k a) (.int k b)=some (.int k (sD k a b)):=by simp [lF,sD]
@[simp] theorem agH:lF .xor (.int k a) (.int k b)=some (.int k (C5 k a b)):=by simp [lF,C5]
@[simp] theorem X7:lF .andNot (.int k a) (.int k b)=some (.int k (Jc k a b)):=by simp [lF,Jc]
@[simp] theorem ap9:vN .xor (.int k a)=some (.int k (Pu k a)):=(rfl)
@[simp] theorem Oq:lF .add (.str s) (.str t)=tm (C0 s t) kN.str:=by simp only [lF,C0];split <;> rfl
@[simp] theorem adT:mS (.str s) (.int k a)=tm (uU s a) (kN.int .u8):=by
 unfold mS uU tm;by_cases h:0≤a
 ·simp only [h,if_true];cases s[a.toNat]? <;> rfl
 ·simp [h]
@[simp] theorem ap7:lH (.bool x) (.int k a) (.int k b)=some (.int k (bif x then a else b)):=by cases x <;> rfl
@[simp] theorem adZ {u v:Bool}:lH (.bool x) (.bool u) (.bool v)=some (.bool (bif x then u else v)):=by cases x <;> rfl
@[simp] theorem ap8:lH (.bool x) (.str s) (.str t)=some (.str (bif x then s else t)):=by cases x <;> rfl
theorem Ot {o:Option Int}{d:Nat}:pU (o.map (kN.int k)) d=JZ o d:=by
 cases o <;> rfl
theorem Cw {lo hi:Option Int}(h:∀x,(enc x).length=sz):n8 sz (.slice (Rw enc xs) T) (lo.map (kN.int k)) (hi.map (kN.int k'))=tm (zP xs lo hi) fun zs=>.slice (Rw enc zs) .no:=by
 have hall:((Rw enc xs).all fun r=>r.length == sz)=true:=by simp [Rw,h]
 have hlen:(Rw enc xs).length=xs.length:=by simp [Rw]
 unfold n8 zP
 simp only [Ot,hall,hlen,and_true]
 cases JZ lo 0 with
 | none=>rfl
 | some l =>
  cases JZ hi xs.length with
  | none=>rfl
  | some u =>
   simp only
   split
   ·simp [tm,Rw,List.map_drop,List.map_take]
   ·rfl
@[simp] theorem OB {u:Int}(h:∀x,(enc x).length=sz):n8 sz (.slice (Rw enc xs) T) none (some (.int k u))=tm (zP xs none (some u)) fun zs=>.slice (Rw enc zs) .no:=Cw (k:=.i64) (k':=k) (lo:=none) (hi:=some u) h
theorem A8 {lo hi:Option Int}:nT (.str s) (lo.map (kN.int k)) (hi.map (kN.int k'))=tm (zP s lo hi) kN.str:=by
 unfold nT zP
 simp only [Ot]
 cases JZ lo 0 with
 | none=>rfl
 | some l =>
  cases JZ hi s.length with
  | none=>rfl
  | some u =>
   simp only
   split <;> rfl
@[simp] theorem YL {u:Int}:nT (.str s) none (some (.int k u))=tm (zP s none (some u)) kN.str:=A8 (k:=.i64) (lo:=none) (hi:=some u)
@[simp] theorem YM {l:Int}:nT (.str s) (some (.int k l)) none=tm (zP s (some l) none) kN.str:=A8 (k':=.i64) (lo:=some l) (hi:=none)
@[simp] theorem YN {l u:Int}:nT (.str s) (some (.int k l)) (some (.int k' u))=tm (zP s (some l) (some u)) kN.str:=A8 (lo:=some l) (hi:=some u)
@[simp] theorem Uj {by_ id:Nat}{h:kO}(he:∀x,(enc x).length=sz) (hb:h[id]?=some (qL sz xs.length)) :
  rS sz by_ h (.slice (Rw enc xs) (.own id)) (.slice (Rw enc ys) T)=tm (JY by_ xs ys) fun zs=>(.slice (Rw enc zs) (.own id),h.set id (qL sz zs.length)):=by
 have hr:tH sz h (.slice (Rw enc ys) T)=some (Rw enc ys):=by simp [Rw,he]
 have hl:(Rw enc xs).length=xs.length:=by simp [Rw]
 have hl2:(Rw enc ys).length=ys.length:=by simp [Rw]
 have e2:Rw enc (xs++ys)=Rw enc xs++Rw enc ys:=by simp [Rw]
 have hlt:=(ad0.1 hb).1
 have hself:h.set id (qL sz xs.length)=h:=by
  rw [←(ad0.1 hb).2];exact List.set_getElem_self hlt
 unfold rS JY
 simp only [hr,hb]
 by_cases h0:xs.length=0
 ·have e0:qL sz xs.length=.front 0 0:=by simp [qL,h0]
  have x0:xs=[]:=List.eq_nil_of_length_eq_zero h0
  simp only [e0,hl,hl2]
  by_cases hc:(xs.length+ys.length)*by_≤140737488355328∧xs.length+ys.length≤140737488355328
  ·rw [if_pos hc,if_pos ⟨h0,.inr ⟨trivial,trivial⟩,by rw [h0] at hc;exact hc.1,by rw [h0] at hc;exact hc.2⟩]
   simp only [tm,Option.map_some,aa9]
   by_cases h1:ys.length=0
   ·have y0:ys=[]:=List.eq_nil_of_length_eq_zero h1
    subst y0;subst x0
    simp only [List.length_nil,if_true,List.append_nil] at hself ⊢
    rw [hself]
   ·rw [if_neg h1]
    simp [qL,x0,Rw,h1]
  ·rw [if_neg hc,if_neg (fun q=>hc ⟨by rw [h0];exact q.2.2.1,by rw [h0];exact q.2.2.2⟩)]
   rfl
 ·have e0:qL sz xs.length=.front xs.length sz:=by simp [qL,h0]
  simp only [e0,hl,hl2]
  by_cases hc:(xs.length+ys.length)*by_≤140737488355328∧xs.length+ys.length≤140737488355328
  ·rw [if_pos hc,if_pos ⟨trivial,.inl trivial,hc.1,hc.2⟩]
   simp only [tm,Option.map_some,aa9]
   by_cases h1:ys.length=0
   ·have y0:ys=[]:=List.eq_nil_of_length_eq_zero h1
    subst y0
    simp only [List.length_nil,if_true,List.append_nil]
    rw [hself]
   ·rw [if_neg h1,e2]
    have:qL sz (xs++ys).length=.front (xs.length+ys.length) sz:=by simp [qL,h0]
    rw [this]
  ·rw [if_neg hc,if_neg (fun q=>hc ⟨q.2.2.1,q.2.2.2⟩)]
   rfl
@[simp] theorem Oi:qL sz 0=.front 0 0:=(rfl)
@[simp] theorem aqA {x:Option α}{f:α→kN×kO}{kv:kN→kO→Option R}:kW (tm x f) kv=tb x fun a=>kv (f a).1 (f a).2:=by cases x <;> rfl
@[simp] theorem aoX {m n:Nat}{h:kO}:pW m h (qL sz n)=some (qL sz n):=by unfold qL;split <;> rfl
@[simp] theorem agT {id:Nat}{rows:List (List kN)}{r:List kN}:mN id (.slice rows .no::r)=(.slice rows .no::(mN id r).1,(mN id r).2):=by cases rows <;> rfl
@[simp] theorem adY {id j:Nat}{rows:List (List kN)}{r:List kN}:mN id (.slice rows (.own j)::r)=(.slice rows (.own j)::(mN id r).1,(mN id r).2):=by cases rows <;> rfl
end
def ci (k:IntKind) (n:Int):List kN:=[.int k n]
@[simp] theorem aFt {k:IntKind}{n:Int}:ci k n=[.int k n]:=(rfl)
@[simp] theorem aiO {w c:Bool}{x y:Option R}:oU w (.bool c) x y=bif w then tc c x y else tc c y x:=by cases w <;> rfl
attribute [simp] lR mN kU lB Hv apart
@[simp] theorem BK {α:Type}{enc:α→List kN}{xs:List α}:(Rw enc xs).length=xs.length:=by simp [Rw]
@[simp] theorem aCk {m:Nat}{e:Ex}{vs:List kN}{h:kO}:kZ m e vs h=(vT m h).map fun h'=>(e.vS m h,vs.map (·.vS m h),h'):=(rfl)
@[simp] theorem aBv {m:Nat}{h:kO}:vT m h=sJ m h (h.take m):=(rfl)
attribute [simp] nJ
theorem aiA {P:Program}{A:xS}:∀n,AS (Uz P A nP n) fun k=>Uz P A nP k:=by
 intro n
 induction n with
 | zero=>intro f args h r hb;cases hb
 | succ n ih =>
  intro f args h r hb
  obtain⟨N,hN⟩:=Gw (lp:=nP) (fun _ _ _ h=>h) ih f args h r hb
  refine⟨N+1,fun k hk=>?_⟩
  cases k with
  | zero=>omega
  | succ k=>exact hN k (by omega)
theorem Qa {P:Program}{A:xS}{f:Nat}{args:List kN}{h:kO}:Ag P A f args h=C8 P A nP (Ag P A) f args h:=by
 apply Option.ext
 intro r
 refine⟨fun hb=>?_,fun hb=>V6 hb⟩
 obtain⟨N,hN⟩:=BS.1 hb
 have h1:=hN (N+1) (by omega)
 obtain⟨M,hM⟩:=Gw (lp:=nP) (K:=Uz P A nP N) (Kn:=fun _=>Ag P A) (fun _ _ _ h=>h) (fun f args h r hb=>Ev.of fun _=>BS.2 (aiA N f args h r hb)) f args h r h1
 exact hM M (Nat.le_refl _)
theorem lJ {α:Type}{P:Program}{A:xS}{f:Nat}{args:List kN}{h:kO}{x:Option α}{v:α→kN}{m:Option (mR×kO)}(hp:A.pure f=true) (hs:args.all (kN.rI 0)=true)
  (he:C8 P A nP (Ag P A) f args []=m) (hk:m=tm x fun r=>(.ret (v r),[])):lG A (Ag P A) f args h=tm x fun r=>(.ret (v r),h):=by
 simp only [lG,hp,cond_true,hs,Qa,he,hk]
 cases x <;> rfl
theorem Lc {α:Type}{P:Program}{A:xS}{f:Nat}{args:List kN}{h:kO}{x:Option α}{v v':α→kN}{g g':α→kO}{m:Option (mR×kO)}(hp:A.pure f=true) (hs:args.all (kN.rI 0)=true)
  (he:C8 P A nP (Ag P A) f args []=m) (hk:m=tm x fun r=>(.ret (v r),g r)) (hb:∀r,tR (A.out f) h (.ret (v r),g r)=some (.ret (v' r),h++g' r)):lG A (Ag P A) f args h=tm x fun r=>(.ret (v' r),h++g' r):=by
 simp only [lG,hp,cond_true,hs,Qa,he,hk]
 cases x with
 | none=>rfl
 | some r=>exact hb r
def tin (n:Nat) (i:Int):Option Nat:=if 0≤i∧i<(n:Int) then some i.toNat else none
def KC {α:Type}(n:Nat) (xs:List α) (j:Nat):Option α:=if xs.length=n then xs[j]? else none
section
variable {α:Type}{enc:α→List kN}{sz:Nat}{xs ys:List α}{h:kO}{id n tot len off j:Nat}{k:IntKind}{i:Int}
theorem xU (he:∀x,(enc x).length=sz):∀(xs:List α) (j:Nat),(Rw enc xs).flatten.take (j*sz)=(Rw enc (xs.take j)).flatten
 | xs,0=>by simp [Rw]
 | [],j+1=>by simp [Rw]
 | x::r,j+1=>by
  have:=xU he r j
  simp only [Rw,List.map_cons,List.flatten_cons,List.take_succ_cons] at this ⊢
  have e:(enc x).length=sz:=he x
  rw [Nat.succ_mul,Nat.add_comm,←this,←e,List.take_append]
  congr 1
  ·exact List.take_of_length_le (by omega)
  ·congr 1;omega
theorem oT:mD sz (.vslice id tot 0 len sz) (.int k i)=tm (tin len i) fun j=>.vptr id tot (j*sz):=by
 simp only [mD,tin]
 by_cases hc:0≤i∧i<(len:Int)
 ·rw [if_pos ⟨hc.1,hc.2,trivial⟩,if_pos hc];simp [tm]
 ·rw [if_neg (fun q=>hc ⟨q.1,q.2.1⟩),if_neg hc];rfl
attribute [simp] oT
@[simp] theorem aBk {m:Nat}(hi:id<m):kN.oW m h (.vslice id tot off len sz)=.vslice id tot off len sz:=lT hi
end
def vld (g:Bool) (n:Nat) (b:Option lN) (tot a:Nat):Option kN:=match b with
 | some (.vec tot' _ cs)=>if tot'=tot then apart g n cs a else none
 | _=>none
def vst (n id:Nat) (h:kO) (b:Option lN) (tot a:Nat) (v:kN):Option kO:=match b with
 | some (.vec tot' sz cs)=>if tot'=tot then(if v.cells.length=n∧a+n≤cs.length∧v.cells.all kN.lS then some (h.set id (.vec tot sz (kU cs a v.cells))) else none) else none
 | _=>none
section
variable {α:Type}{enc:α→List kN}{sz:Nat}{xs ys:List α}{h:kO}{id n tot len off j a:Nat}{k:IntKind}{i:Int}{g:Bool}{v:kN}
@[simp] theorem rU:kY g n h (.vptr id tot a)=vld g n (h[id]?) tot a:=by
 simp only [kY,n6,vld]
 cases h[id]? with
 | none=>rfl
 | some b=>cases b with
  | vec t s cs=>by_cases e:t=tot <;> simp [e]
  | _=>rfl
@[simp] theorem tZ:kR n h (.vptr id tot a) v=vst n id h (h[id]?) tot a v:=by
 simp only [kR,n6,vst]
 cases h[id]? with
 | none=>rfl
 | some b=>cases b with
  | vec t s cs=>by_cases e:t=tot <;> simp [e]
  | _=>rfl
@[simp] theorem asY {β:Type}{f:α→Option β}:(KC n xs j).bind f=tb (KC n xs j) f:=rfl
end
theorem Ky {α:Type}{P:Program}{A:xS}{f:Nat}{args args':List kN}{h hs:kO}{ids:List Nat}{x:Option α}{v v':α→kN}{h1 h2:α→kO}{m:Option (mR×kO)}(hp:A.pure f=false) (hsub:A.sub f=true)
  (hr:reach h args=ids) (ho:Kx ids args h=true) (ha:args.map (kN.pO (AU ids))=args') (hh:zK ids h=hs)
  (he:C8 P A nP (Ag P A) f args' hs=m) (hk:m=tm x fun r=>(.ret (v r),h1 r)) (hb:∀r,GJ ids h (.ret (v r),h1 r)=some (.ret (v' r),h2 r)) :
  lG A (Ag P A) f args h=tm x fun r=>(.ret (v' r),h2 r):=by
 simp only [lG,hp,hsub,cond_true,cond_false,ao5,hr,Xv,ho,ha,hh,Qa,he,hk]
 cases x with
 | none=>rfl
 | some r=>exact hb r
@[simp] theorem aCo {m:Nat}{v:kN}{h:kO}:oM m v h=(vT m h).map fun h'=>(.ret (v.vS m h).kP,h'):=(rfl)
attribute [simp] SX
attribute [simp] reach P_ Ow kN.refs kN.vR tS Kx zK GJ kN.pO kN.xC kN.ok kN.MA mR.pO mR.ok AU uV yO
section
variable {cs:List kN}{t z:Nat}{es:List (kN×kN)}{f:Nat→Nat}{p:Nat→Bool}
@[simp] theorem oD:(lN.cells cs).refs=cs.flatMap kN.vR:=(rfl)
@[simp] theorem qN:(lN.vec t z cs).refs=cs.flatMap kN.vR:=(rfl)
@[simp] theorem aoN:(lN.front t z).refs=[]:=(rfl)
@[simp] theorem pG:(lN.cells cs).pO f=.cells (cs.map (kN.xC f)):=(rfl)
@[simp] theorem sI:(lN.vec t z cs).pO f=.vec t z (cs.map (kN.xC f)):=(rfl)
@[simp] theorem arH:(lN.front t z).pO f=.front t z:=(rfl)
@[simp] theorem qM:(lN.cells cs).ok p=cs.all (kN.MA p):=(rfl)
@[simp] theorem uG:(lN.vec t z cs).ok p=cs.all (kN.MA p):=(rfl)
@[simp] theorem awO:(lN.front t z).ok p=true:=(rfl)
end
@[simp] theorem axZ {sz n:Nat}:(qL sz n).refs=[]:=(rfl)
@[simp] theorem aBg {sz n:Nat}{f:Nat→Nat}:(qL sz n).pO f=qL sz n:=(rfl)
@[simp] theorem aDH {sz n:Nat}{p:Nat→Bool}:(qL sz n).ok p=true:=(rfl)
end
end Hk
