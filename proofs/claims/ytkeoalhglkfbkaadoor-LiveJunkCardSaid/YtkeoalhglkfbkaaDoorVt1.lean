/-
  The texts Vk.Ty, one behind another. No conditions.
-/
import Derived.Test.YtkeoalhglkfbkaaDoorVk3
set_option linter.unusedVariables false
set_option linter.unusedSimpArgs false
set_option linter.all false

namespace Hk
open Go
def Rw {α:Type}(enc:α→List kS) (xs:List α):List (List kS):=xs.map enc
def tb {α β:Type}(x:Option α) (f:α→Option β):Option β:=x.bind f
def tm {α β:Type}(x:Option α) (f:α→β):Option β:=x.map f
def tc {α:Type}(c:Bool) (x y:Option α):Option α:=bif c then x else y
section
variable {α β γ:Type}
@[simp] theorem azP {x:Option α}{f:α→β}{k:β→Option γ}:(tm x f).bind k=tb x fun a=>k (f a):=by cases x <;> rfl
@[simp] theorem azN {x:Option α}{f:α→Option β}{k:β→Option γ}:(tb x f).bind k=tb x fun a=>(f a).bind k:=by cases x <;> rfl
@[simp] theorem azO {c:Bool}{x y:Option β}{k:β→Option γ}:(tc c x y).bind k=tc c (x.bind k) (y.bind k):=by cases c <;> rfl
@[simp] theorem aCU {x:Option α}{f:α→Option β}{g:β→γ}:tm (tb x f) g=tb x fun a=>tm (f a) g:=by cases x <;> rfl
@[simp] theorem aCV {c:Bool}{x y:Option β}{g:β→γ}:tm (tc c x y) g=tc c (tm x g) (tm y g):=by cases c <;> rfl
@[simp] theorem yS {x:α}{g:α→β}:tm (some x) g=some (g x):=(rfl)
@[simp] theorem aAq {g:α→β}:tm none g=none:=(rfl)
@[simp] theorem mE {x:α}{f:α→Option β}:tb (some x) f=f x:=(rfl)
@[simp] theorem oE {x y:Option α}:tc true x y=x:=(rfl)
@[simp] theorem pK {x y:Option α}:tc false x y=y:=(rfl)
@[simp] theorem anJ {x:Option α}{f:α→kS}{h:α→kU}{kv kp:kS→kU→Option R}:lL (tm x fun a=>(.ret (f a),h a)) kv kp=tb x fun a=>kv (f a) (h a):=by cases x <;> rfl
@[congr] theorem aAp {c c':Bool}{x x' y y':Option α}(h:c=c') (hx:c'=true→x=x') (hy:c'=false→y=y'):tc c x y=tc c' x' y':=by
 subst h; cases c <;> simp [tc,hx,hy]
@[simp] theorem azK {c:Bool}{t e:Option R}:lP (.bool c) t e=tc c t e:=(rfl)
end
def pF {α:Type}(xs:List α) (i:Int):Option α:=if 0≤i then xs[i.toNat]? else none
@[simp] theorem am1 {α:Type}{enc:α→List kS}{sz:Nat}{xs:List α}{t:Tok}{k:IntKind}{i:Int}(h:∀x,(enc x).length=sz):kX sz (.slice (Rw enc xs) t) (.int k i)=tm (pF xs i) fun x=>.pptr (enc x):=by
 unfold kX Rw pF
 by_cases h0:0≤i
 ·simp only [h0,if_true,List.getElem?_map]
  cases xs[i.toNat]? <;> simp [tm,h]
 ·simp [h0,tm]
@[simp] theorem av5 {α:Type}{enc:α→List kS}{xs:List α}{t:Tok}:lS (.slice (Rw enc xs) t)=some (.int .i64 (xs.length:Int)):=by simp [Rw]
inductive Ey where
 | n | r | x (id:Nat)
 deriving Inhabited
def Ey.ex:Ey→Ex
 | .n=>.normal
 | .r=>.ret
 | .x i=>.exit i
@[simp] theorem Ey.aDE:Ey.ex .n=.normal:=(rfl)
@[simp] theorem Ey.aDF:Ey.ex .r=.ret:=(rfl)
@[simp] theorem Ey.aDG {i:Nat}:Ey.ex (.x i)=.exit i:=(rfl)
@[simp] theorem Ey.aBr {e:Ey}{m:Nat}{h:kU}:Ex.oL m h e.ex=e.ex:=by cases e <;> rfl
def uF {α:Type}(e:Ey) (kn:Option α) (ke:Ey→Option α):Option α:=match e with
 | .n=>kn
 | e=>ke e
def uN {σ:Type}:Nat→(σ→Option (Ey×σ))→σ→Option (Ey×σ)
 | 0,_,_=>none
 | n+1,F,s=>(F s).bind fun r=>uF r.1 (uN n F r.2) fun e=>some (e,r.2)
theorem IV {σ:Type}{F:σ→Option (Ey×σ)}:∀{n:Nat}{s:σ}{r:Ey×σ},uN n F s=some r→uN (n+1) F s=some r
 | 0,_,_,h=>by simp [uN] at h
 | n+1,s,r,h=>by
  rw [uN] at h ⊢
  cases hF:F s with
  | none=>rw [hF] at h; simp at h
  | some x =>
   rw [hF] at h
   obtain⟨e,s'⟩:=x
   cases e <;> simp only [Option.bind_some,uF] at h ⊢ <;> first | exact h | exact IV h
theorem Gw {σ:Type}{F:σ→Option (Ey×σ)}{n m:Nat}{s:σ}{r:Ey×σ}(hnm:n≤m) (h:uN n F s=some r):uN m F s=some r:=by
 induction hnm with
 | refl=>exact h
 | step _ ih=>exact IV ih
open Classical in
noncomputable def vB {σ:Type}(F:σ→Option (Ey×σ)) (s:σ):Option (Ey×σ) :=
 if h:∃n r,uN n F s=some r then some (Classical.choose (Classical.choose_spec h)) else none
theorem Gx {σ:Type}{F:σ→Option (Ey×σ)}{s:σ}{r:Ey×σ}:vB F s=some r↔∃n,uN n F s=some r:=by
 unfold vB
 constructor
 ·intro h
  split at h
  ·rename_i hx
   cases h
   exact⟨_,Classical.choose_spec (Classical.choose_spec hx)⟩
  ·cases h
 ·rintro⟨n,hn⟩
  have hx:∃n r,uN n F s=some r:=⟨n,r,hn⟩
  rw [dif_pos hx]
  have h1:=Classical.choose_spec (Classical.choose_spec hx)
  have h2:=Gw (Nat.le_max_left _ n) h1
  have h3:=Gw (Nat.le_max_right (Classical.choose hx) n) hn
  rw [h2] at h3
  exact h3
theorem QU {σ:Type}(F:σ→Option (Ey×σ)) (s:σ):vB F s=(F s).bind fun r=>uF r.1 (vB F r.2) fun e=>some (e,r.2):=by
 apply Option.ext
 intro r
 rw [Gx]
 cases hF:F s with
 | none =>
  simp only [Option.bind_none]
  constructor
  ·rintro⟨n,hn⟩
   cases n <;> simp [uN,hF] at hn
  ·intro h; simp at h
 | some x =>
  obtain⟨e,s'⟩:=x
  have hn1:∀n,uN (n+1) F s=uF e (uN n F s') fun e=>some (e,s'):=by
   intro n; rw [uN,hF]; rfl
  simp only [Option.bind_some]
  constructor
  ·rintro⟨n,hn⟩
   cases n with
   | zero=>simp [uN] at hn
   | succ n =>
    rw [hn1] at hn
    cases e <;> simp only [uF] at hn ⊢ <;> first | exact hn | exact Gx.2 ⟨n,hn⟩
  ·intro h
   cases e <;> simp only [uF] at h
   case n=>obtain⟨n,hn⟩:=Gx.1 h; exact⟨n+1,by rw [hn1]; exact hn⟩
   all_goals exact⟨1,by rw [hn1]; exact h⟩
theorem rJ {σ:Type}{F:σ→Option (Ey×σ)}{s s':σ}(h:F s=some (.n,s')):vB F s=vB F s':=by rw [QU,h]; rfl
theorem qQ {σ:Type}{F:σ→Option (Ey×σ)}{s s':σ}{e:Ey}(h:F s=some (e,s')) (hn:e≠.n):vB F s=some (e,s'):=by
 rw [QU,h]; cases e <;> first | exact absurd rfl hn | rfl
theorem w_ {σ:Type}{F:List kS×kU→Option R}{G:σ→Option (Ey×σ)}{enc:σ→List kS×kU}(h:∀s,F (enc s)=tm (G s) fun r=>(r.1.ex,enc r.2)) (s:σ):mQ F (enc s)=tm (vB G s) fun r=>(r.1.ex,enc r.2):=by
 have key:∀n s,sI n F (enc s)=tm (uN n G s) fun r=>(r.1.ex,enc r.2):=by
  intro n
  induction n with
  | zero=>intro s; rfl
  | succ n ih =>
   intro s
   rw [sI,uN,h s]
   cases hG:G s with
   | none=>rfl
   | some x =>
    obtain⟨e,s'⟩:=x
    cases e <;> simp only [yS,Option.bind_some,Ex.mC,uF,Ey.ex] <;> first | exact ih s' | rfl
 apply Option.ext
 intro r
 rw [A7]
 constructor
 ·rintro⟨n,hn⟩
  rw [key] at hn
  cases hG:uN n G s with
  | none=>rw [hG] at hn; simp [tm] at hn
  | some x=>rw [hG] at hn; rw [Gx.2 ⟨n,hG⟩]; exact hn
 ·intro hr
  cases hG:vB G s with
  | none=>rw [hG] at hr; simp [tm] at hr
  | some x =>
   rw [hG] at hr
   obtain⟨n,hn⟩:=Gx.1 hG
   exact⟨n,by rw [key,hn]; exact hr⟩
def wR {α:Type}(id:Nat) (e:Ey) (kn:Option α) (ke:Ey→Option α):Option α:=match e with
 | .n=>kn
 | .x j=>bif j == id then kn else ke (.x j)
 | e=>ke e
def nrT {α:Type}(e:Ey) (kn:Option α):Option α:=match e with
 | .n=>kn
 | _=>none
def Qz {α:Type}(e:Ey) (x:Option α):Option α:=match e with
 | .n=>x
 | .r=>x
 | _=>none
section
variable {α β:Type}{e:Ey}{i j:Nat}
@[simp] theorem azA {kn:Option R}{ke:Ex→Option R}:Ex.mC e.ex kn ke=uF e kn fun e=>ke e.ex:=by cases e <;> rfl
@[simp] theorem auP {kn:Option R}{ke:Ex→Option R}:Ex.inBlock i e.ex kn ke=wR i e kn fun e=>ke e.ex:=by cases e <;> rfl
@[simp] theorem aCN {kn:Option R}:Ex.uO e.ex kn=nrT e kn:=by cases e <;> rfl
@[simp] theorem aBp {x:Option (nZ×kU)}:Ex.nK e.ex x=Qz e x:=by cases e <;> rfl
@[simp] theorem awB {kn:Option α}{ke:Ey→Option α}{k:α→Option β}:(uF e kn ke).bind k=uF e (kn.bind k) fun e=>(ke e).bind k:=by cases e <;> rfl
@[simp] theorem awC {kn:Option α}{ke:Ey→Option α}{k:α→Option β}:(wR i e kn ke).bind k=wR i e (kn.bind k) fun e=>(ke e).bind k:=by
 cases e <;> first | rfl | (simp only [wR]; cases (_ == i) <;> rfl)
@[simp] theorem awD {kn:Option α}{k:α→Option β}:(nrT e kn).bind k=nrT e (kn.bind k):=by cases e <;> rfl
@[simp] theorem awA {kn:Option α}{k:α→Option β}:(Qz e kn).bind k=Qz e (kn.bind k):=by cases e <;> rfl
@[simp] theorem aCf {kn:Option α}{ke:Ey→Option α}{k:α→β}:tm (uF e kn ke) k=uF e (tm kn k) fun e=>tm (ke e) k:=by cases e <;> rfl
@[simp] theorem aCg {kn:Option α}{ke:Ey→Option α}{k:α→β}:tm (wR i e kn ke) k=wR i e (tm kn k) fun e=>tm (ke e) k:=by
 cases e <;> first | rfl | (simp only [wR]; cases (_ == i) <;> rfl)
@[simp] theorem aCh {kn:Option α}{k:α→β}:tm (nrT e kn) k=nrT e (tm kn k):=by cases e <;> rfl
@[simp] theorem aCe {kn:Option α}{k:α→β}:tm (Qz e kn) k=Qz e (tm kn k):=by cases e <;> rfl
@[simp] theorem x7 {kn:Option α}{ke:Ey→Option α}:uF .n kn ke=kn:=(rfl)
@[simp] theorem Ad {kn:Option α}{ke:Ey→Option α}:uF .r kn ke=ke .r:=(rfl)
@[simp] theorem KD {kn:Option α}{ke:Ey→Option α}:uF (.x i) kn ke=ke (.x i):=(rfl)
@[simp] theorem AI {kn:Option α}{ke:Ey→Option α}:wR i .n kn ke=kn:=(rfl)
@[simp] theorem Cy {kn:Option α}{ke:Ey→Option α}:wR i .r kn ke=ke .r:=(rfl)
@[simp] theorem KL {kn:Option α}{ke:Ey→Option α}:wR i (.x j) kn ke=bif j == i then kn else ke (.x j):=(rfl)
@[simp] theorem arJ {kn:Option α}:nrT .n kn=kn:=(rfl)
@[simp] theorem an8 {x:Option α}:Qz .n x=x:=(rfl)
@[simp] theorem afM {x:Option α}:Qz .r x=x:=(rfl)
end
def gd (l:List kS) (i:Nat):kS:=l.getD i .junk
def ld (g:Bool) (n:Nat) (h:kU) (a:kS) (k:kS→Option R):Option R:=(kW g n h a).bind k
def fa (o:Nat) (a:kS) (k:kS→Option R):Option R:=(kV o a).bind k
def ix (sz:Nat) (s i:kS) (k:kS→Option R):Option R:=(kX sz s i).bind k
def bo (op:BinOp) (a b:kS) (k:kS→Option R):Option R:=(lE op a b).bind k
def ln (s:kS) (k:kS→Option R):Option R:=(lS s).bind k
def gS (w:Bool) (g:kS) (x:Option R) (h:kU) (k:kS→kU→Option R):Option R:=(kT w g x (kY (.tuple []) h)).bind (kZ k fun _ _=>none)
def ca (x:Option (nZ×kU)) (k:kS→kU→Option R):Option R:=lL x k fun _ _=>none
section
variable {g:Bool}{n o sz:Nat}{h:kU}{a b s i:kS}{k:kS→Option R}{kh:kS→kU→Option R}{w:Bool}{l:List kS}{m:Nat}{op:BinOp}{x:Option R}{y:Option (nZ×kU)}
@[simp] theorem aDJ:gd l n=l.getD n .junk:=(rfl)
@[simp] theorem aDL:ld g n h a k=(kW g n h a).bind k:=(rfl)
@[simp] theorem aDH:fa o a k=(kV o a).bind k:=(rfl)
@[simp] theorem aDK:ix sz s i k=(kX sz s i).bind k:=(rfl)
@[simp] theorem aC9:bo op a b k=(lE op a b).bind k:=(rfl)
@[simp] theorem aDM:ln s k=(lS s).bind k:=(rfl)
@[simp] theorem aDI:gS w a x h kh=(kT w a x (kY (.tuple []) h)).bind (kZ kh fun _ _=>none):=(rfl)
@[simp] theorem aDC:ca y kh=lL y kh fun _ _=>none:=(rfl)
@[congr] theorem az1 {a':kS}{h':kU}(e:a=a') (e2:h=h'):ld g n h a k=ld g n h' a' k:=by rw [e,e2]
@[congr] theorem azX {a':kS}(e:a=a'):fa o a k=fa o a' k:=by rw [e]
@[congr] theorem azZ {s' i':kS}(e:s=s') (e2:i=i'):ix sz s i k=ix sz s' i' k:=by rw [e,e2]
@[congr] theorem azQ {a' b':kS}(e:a=a') (e2:b=b'):bo op a b k=bo op a' b' k:=by rw [e,e2]
@[congr] theorem az2 {s':kS}(e:s=s'):ln s k=ln s' k:=by rw [e]
@[congr] theorem azY {a':kS}{h':kU}(e:a=a') (e2:h=h'):gS w a x h kh=gS w a' x h' kh:=by rw [e,e2]
@[congr] theorem azU {y':Option (nZ×kU)}(e:y=y'):ca y kh=ca y' kh:=by rw [e]
end
def RF (k:IntKind) (a b:Int):Option Int:=if b < 0 then none else some (k.wrap (a * 2 ^ (min b.toNat k.bits)))
def Iw (k:IntKind) (a b:Int):Option Int:=if b < 0 then none else some (a.fdiv (2 ^ (min b.toNat k.bits)))
def XY (k:IntKind) (a b:Int):Option Int:=if b=0 then none else some (k.wrap (a.tdiv b))
def azC (a b:Int):Option Int:=if b=0 then none else some (a.tmod b)
def DU (k:IntKind) (a b:Int):Int:=k.wrap (BitVec.ofInt k.bits a &&& BitVec.ofInt k.bits b).toNat
def tor (k:IntKind) (a b:Int):Int:=k.wrap (BitVec.ofInt k.bits a ||| BitVec.ofInt k.bits b).toNat
def atG (k:IntKind) (a b:Int):Int:=k.wrap (BitVec.ofInt k.bits a ^^^ BitVec.ofInt k.bits b).toNat
def adA (k:IntKind) (a b:Int):Int:=k.wrap (BitVec.ofInt k.bits a &&& ~~~ BitVec.ofInt k.bits b).toNat
def azB (k:IntKind) (a:Int):Int:=k.wrap (BitVec.ofInt k.bits (if k.signed then -1 else k.max) ^^^ BitVec.ofInt k.bits a).toNat
def Ur (s:List UInt8) (i:Int):Option Int:=if 0≤i then(s[i.toNat]?).map fun b=>((b.toNat:Nat):Int) else none
def ay9 (s t:List UInt8):Option (List UInt8):=if s.length+t.length≤4611686018427387904 then some (s++t) else none
def L5 (x:Option Int) (d:Nat):Option Nat:=match x with
 | none=>some d
 | some n=>if 0≤n then some n.toNat else none
def Jo {α:Type}(xs:List α) (lo hi:Option Int):Option (List α):=match L5 lo 0,L5 hi xs.length with
 | some l,some u=>if l≤u∧u≤xs.length then some ((xs.drop l).take (u - l)) else none
 | _,_=>none
def yF {α:Type}(by_:Nat) (xs ys:List α):Option (List α):=if (xs.length+ys.length) * by_≤140737488355328∧xs.length+ys.length≤140737488355328 then some (xs++ys) else none
def pR (sz n:Nat):mI:=.front n (if n=0 then 0 else sz)
section
variable {k k':IntKind}{a b:Int}{s t:List UInt8}{α:Type}{enc:α→List kS}{xs ys:List α}{sz:Nat}{T T':Tok}{x y:Bool}
@[simp] theorem amW:lE .shl (.int k a) (.int k' b)=tm (RF k a b) (kS.int k):=by
 simp only [lE,RF]; split <;> rfl
@[simp] theorem amX:lE .shr (.int k a) (.int k' b)=tm (Iw k a b) (kS.int k):=by
 simp only [lE,Iw]; split <;> rfl
@[simp] theorem amU:lE .quo (.int k a) (.int k b)=tm (XY k a b) (kS.int k):=by
 simp only [lE,XY,ne_eq,not_true_eq_false,if_false]; split <;> rfl
@[simp] theorem amV:lE .rem (.int k a) (.int k b)=tm (azC a b) (kS.int k):=by
 simp only [lE,azC,ne_eq,not_true_eq_false,if_false]; split <;> rfl
@[simp] theorem J9:lE .and (.int k a) (.int k b)=some (.int k (DU k a b)):=by simp [lE,DU]
@[simp] theorem atY:lE .or (.int k a) (.int k b)=some (.int k (tor k a b)):=by simp [lE,tor]
@[simp] theorem amY:lE .xor (.int k a) (.int k b)=some (.int k (atG k a b)):=by simp [lE,atG]
@[simp] theorem ad5:lE .andNot (.int k a) (.int k b)=some (.int k (adA k a b)):=by simp [lE,adA]
@[simp] theorem at7:xZ .xor (.int k a)=some (.int k (azB k a)):=(rfl)
@[simp] theorem aj5:lE .add (.str s) (.str t)=tm (ay9 s t) kS.str:=by simp only [lE,ay9]; split <;> rfl
@[simp] theorem aj9:lE .lss (.str s) (.str t)=some (.bool (Op.bytesLess s t)):=(rfl)
@[simp] theorem aj8:lE .leq (.str s) (.str t)=some (.bool (Op.bytesLess s t || s == t)):=(rfl)
@[simp] theorem aj7:lE .gtr (.str s) (.str t)=some (.bool (!(Op.bytesLess s t || s == t))):=(rfl)
@[simp] theorem aj6:lE .geq (.str s) (.str t)=some (.bool (!(Op.bytesLess s t))):=(rfl)
@[simp] theorem akB:sW (.str s) (.int k a)=tm (Ur s a) (kS.int .u8):=by
 unfold sW Ur tm; by_cases h:0≤a
 ·simp only [h,if_true]; cases s[a.toNat]? <;> rfl
 ·simp [h]
@[simp] theorem at5:mA (.bool x) (.int k a) (.int k b)=some (.int k (bif x then a else b)):=by cases x <;> rfl
@[simp] theorem akF {u v:Bool}:mA (.bool x) (.bool u) (.bool v)=some (.bool (bif x then u else v)):=by cases x <;> rfl
@[simp] theorem at6:mA (.bool x) (.str s) (.str t)=some (.str (bif x then s else t)):=by cases x <;> rfl
theorem Qk {o:Option Int}{d:Nat}:pG (o.map (kS.int k)) d=L5 o d:=by
 cases o <;> rfl
theorem Fj {lo hi:Option Int}(h:∀x,(enc x).length=sz):nX sz (.slice (Rw enc xs) T) (lo.map (kS.int k)) (hi.map (kS.int k'))=tm (Jo xs lo hi) fun zs=>.slice (Rw enc zs) .no:=by
 have hall:((Rw enc xs).all fun r=>r.length == sz)=true:=by simp [Rw,h]
 have hlen:(Rw enc xs).length=xs.length:=by simp [Rw]
 unfold nX Jo
 simp only [Qk,hall,hlen,and_true]
 cases L5 lo 0 with
 | none=>rfl
 | some l =>
  cases L5 hi xs.length with
  | none=>rfl
  | some u =>
   simp only
   split
   ·simp [tm,Rw,List.map_drop,List.map_take]
   ·rfl
@[simp] theorem akG {u:Int}(h:∀x,(enc x).length=sz):nX sz (.slice (Rw enc xs) T) none (some (.int k u))=tm (Jo xs none (some u)) fun zs=>.slice (Rw enc zs) .no:=Fj (k:=.i64) (k':=k) (lo:=none) (hi:=some u) h
@[simp] theorem akH {l:Int}(h:∀x,(enc x).length=sz):nX sz (.slice (Rw enc xs) T) (some (.int k l)) none=tm (Jo xs (some l) none) fun zs=>.slice (Rw enc zs) .no:=Fj (k:=k) (k':=.i64) (lo:=some l) (hi:=none) h
@[simp] theorem akI {l u:Int}(h:∀x,(enc x).length=sz):nX sz (.slice (Rw enc xs) T) (some (.int k l)) (some (.int k' u))=tm (Jo xs (some l) (some u)) fun zs=>.slice (Rw enc zs) .no:=Fj (lo:=some l) (hi:=some u) h
theorem Dq {lo hi:Option Int}:tK (.str s) (lo.map (kS.int k)) (hi.map (kS.int k'))=tm (Jo s lo hi) kS.str:=by
 unfold tK Jo
 simp only [Qk]
 cases L5 lo 0 with
 | none=>rfl
 | some l =>
  cases L5 hi s.length with
  | none=>rfl
  | some u =>
   simp only
   split <;> rfl
@[simp] theorem ae5 {u:Int}:tK (.str s) none (some (.int k u))=tm (Jo s none (some u)) kS.str:=Dq (k:=.i64) (lo:=none) (hi:=some u)
@[simp] theorem ae6 {l:Int}:tK (.str s) (some (.int k l)) none=tm (Jo s (some l) none) kS.str:=Dq (k':=.i64) (lo:=some l) (hi:=none)
@[simp] theorem ae7 {l u:Int}:tK (.str s) (some (.int k l)) (some (.int k' u))=tm (Jo s (some l) (some u)) kS.str:=Dq (lo:=some l) (hi:=some u)
@[simp] theorem MQ {by_ id:Nat}{h:kU}(he:∀x,(enc x).length=sz) (hb:h[id]?=some (pR sz xs.length)) :
  nG sz by_ h (.slice (Rw enc xs) (.own id)) (.slice (Rw enc ys) T)=tm (yF by_ xs ys) fun zs=>(.slice (Rw enc zs) (.own id),h.set id (pR sz zs.length)):=by
 have hr:sR sz h (.slice (Rw enc ys) T)=some (Rw enc ys):=by simp [Rw,he]
 have hl:(Rw enc xs).length=xs.length:=by simp [Rw]
 have hl2:(Rw enc ys).length=ys.length:=by simp [Rw]
 have e2:Rw enc (xs++ys)=Rw enc xs++Rw enc ys:=by simp [Rw]
 have hlt:=(List.getElem?_eq_some_iff.1 hb).1
 have hself:h.set id (pR sz xs.length)=h:=by
  rw [←(List.getElem?_eq_some_iff.1 hb).2]; exact List.set_getElem_self hlt
 unfold nG yF
 simp only [hr,hb]
 by_cases h0:xs.length=0
 ·have e0:pR sz xs.length=.front 0 0:=by simp [pR,h0]
  have x0:xs=[]:=List.eq_nil_of_length_eq_zero h0
  simp only [e0,hl,hl2]
  by_cases hc:(xs.length+ys.length) * by_≤140737488355328∧xs.length+ys.length≤140737488355328
  ·rw [if_pos hc,if_pos ⟨h0,.inr ⟨trivial,trivial⟩,by rw [h0] at hc; exact hc.1,by rw [h0] at hc; exact hc.2⟩]
   simp only [tm,Option.map_some,Option.some.injEq]
   by_cases h1:ys.length=0
   ·have y0:ys=[]:=List.eq_nil_of_length_eq_zero h1
    subst y0; subst x0
    simp only [List.length_nil,if_true,List.append_nil] at hself ⊢
    rw [hself]
   ·rw [if_neg h1]
    simp [pR,x0,Rw,h1]
  ·rw [if_neg hc,if_neg (fun q=>hc ⟨by rw [h0]; exact q.2.2.1,by rw [h0]; exact q.2.2.2⟩)]
   rfl
 ·have e0:pR sz xs.length=.front xs.length sz:=by simp [pR,h0]
  simp only [e0,hl,hl2]
  by_cases hc:(xs.length+ys.length) * by_≤140737488355328∧xs.length+ys.length≤140737488355328
  ·rw [if_pos hc,if_pos ⟨trivial,.inl trivial,hc.1,hc.2⟩]
   simp only [tm,Option.map_some,Option.some.injEq]
   by_cases h1:ys.length=0
   ·have y0:ys=[]:=List.eq_nil_of_length_eq_zero h1
    subst y0
    simp only [List.length_nil,if_true,List.append_nil]
    rw [hself]
   ·rw [if_neg h1,e2]
    have:pR sz (xs++ys).length=.front (xs.length+ys.length) sz:=by simp [pR,h0]
    rw [this]
  ·rw [if_neg hc,if_neg (fun q=>hc ⟨q.2.2.1,q.2.2.2⟩)]
   rfl
@[simp] theorem amT {by_ id:Nat}{h:kU}(he:∀x,(enc x).length=sz) (hb:h[id]?=some (.front 0 0)) :
  nG sz by_ h (.slice (Rw enc []) (.own id)) (.slice (Rw enc ys) T)=tm (yF by_ [] ys) fun zs=>(.slice (Rw enc zs) (.own id),h.set id (pR sz zs.length)):=MQ he hb
@[simp] theorem avP:pR sz 0=.front 0 0:=(rfl)
@[simp] theorem auA {x:Option α}{f:α→kS×kU}{kv:kS→kU→Option R}:lK (tm x f) kv=tb x fun a=>kv (f a).1 (f a).2:=by cases x <;> rfl
@[simp] theorem au8 {m:Nat}{h:kU}{cs:List kS}:kS.oH m h (.pptr cs)=.pptr cs:=(rfl)
@[simp] theorem ay3 {m:Nat}{h:kU}{cs:List kS}:kS.oL m h (.pptr cs)=.pptr cs:=(rfl)
@[simp] theorem atK {cs:List kS}:kS.k8 (.pptr cs)=.pptr cs:=(rfl)
@[simp] theorem asZ {m n:Nat}{h:kU}:oQ m h (pR sz n)=some (pR sz n):=by unfold pR; split <;> rfl
@[simp] theorem aoF {n i:Nat}{r:kU}:nC (pR sz n::r) (i+1)=nC r i:=(rfl)
@[simp] theorem afV {r:kU}:rP (pR sz 0::r) 0=true:=(rfl)
@[simp] theorem akD {id:Nat}{r:List kS}:nT id (.slice (Rw enc []) .nil::r)=((.slice (Rw enc []) (.own id))::(nT (id+1) r).1,.front 0 0::(nT (id+1) r).2):=(rfl)
@[simp] theorem am3 {id:Nat}{rows:List (List kS)}{r:List kS}:nT id (.slice rows .no::r)=(.slice rows .no::(nT id r).1,(nT id r).2):=by cases rows <;> rfl
@[simp] theorem akE {id j:Nat}{rows:List (List kS)}{r:List kS}:nT id (.slice rows (.own j)::r)=(.slice rows (.own j)::(nT id r).1,(nT id r).2):=by cases rows <;> rfl
@[simp] theorem aoO {h:kU}{id:Nat}:qI h (.slice (Rw enc []) (.own id)) (.slice (Rw enc []) .nil)=bif rP h id then .slice (Rw enc []) (.own id) else .slice (Rw enc []) .nil:=Wi
@[simp] theorem au6 {m:Nat}{h:kU}:kS.oH m h (.slice (Rw enc []) .nil)=.slice (Rw enc []) .nil:=(rfl)
@[simp] theorem ay0 {m:Nat}{h:kU}:kS.oL m h (.slice (Rw enc []) .nil)=.slice (Rw enc []) .nil:=(rfl)
end
def ci (k:IntKind) (n:Int):List kS:=[.int k n]
def cb (x:Bool):List kS:=[.bool x]
def aBn (s:List UInt8):List kS:=[.str s]
def AB {α:Type}(enc:α→List kS) (xs:List α):List kS:=[.slice (Rw enc xs) .no]
@[simp] theorem aCr {k:IntKind}{n:Int}:ci k n=[.int k n]:=(rfl)
@[simp] theorem aCq {x:Bool}:cb x=[.bool x]:=(rfl)
@[simp] theorem azW {s:List UInt8}:aBn s=[.str s]:=(rfl)
@[simp] theorem aBm {α:Type}{enc:α→List kS}{xs:List α}:AB enc xs=[.slice (Rw enc xs) .no]:=(rfl)
@[simp] theorem aoH {w c:Bool}{x y:Option R}:kT w (.bool c) x y=bif w then tc c x y else tc c y x:=by cases w <;> rfl
attribute [simp] mH nT putCells nE Dk apart
@[simp] theorem ad3 {i:Nat}{vs:List kS}:lZ i (.tuple vs)=vs[i]?:=(rfl)
@[simp] theorem Ea {α:Type}{enc:α→List kS}{xs:List α}:(Rw enc xs).length=xs.length:=by simp [Rw]
@[simp] theorem aBq {m:Nat}{e:Ex}{vs:List kS}{h:kU}:lJ m e vs h=(mS m h).map fun h'=>(e.oL m h,vs.map (·.oL m h),h'):=(rfl)
@[simp] theorem JO {m:Nat}{h:kU}:mS m h=nW m h (h.take m):=(rfl)
attribute [simp] lW lM
theorem an9 {P:Program}{A:Cj}:∀n,C9 (SD P A mQ n) fun k=>SD P A mQ k:=by
 intro n
 induction n with
 | zero=>intro f args h r hb; cases hb
 | succ n ih =>
  intro f args h r hb
  obtain⟨N,hN⟩:=Js (lp:=mQ) (fun _ _ _ h=>h) ih f args h r hb
  refine⟨N+1,fun k hk=>?_⟩
  cases k with
  | zero=>omega
  | succ k=>exact hN k (by omega)
theorem Ol {P:Program}{A:Cj}{f:Nat}{args:List kS}{h:kU}:Ji P A f args h=qA P A mQ (Ji P A) f args h:=by
 apply Option.ext
 intro r
 refine⟨fun hb=>?_,fun hb=>Zk hb⟩
 obtain⟨N,hN⟩:=Ee.1 hb
 have h1:=hN (N+1) (by omega)
 obtain⟨M,hM⟩:=Js (lp:=mQ) (K:=SD P A mQ N) (Kn:=fun _=>Ji P A) (fun _ _ _ h=>h) (fun f args h r hb=>Ev.of fun _=>Ee.2 (an9 N f args h r hb)) f args h r h1
 exact hM M (Nat.le_refl _)
theorem rY {α:Type}{P:Program}{A:Cj}{f:Nat}{args:List kS}{h:kU}{x:Option α}{v:α→kS}{m:Option (nZ×kU)}(hp:A.pure f=true) (hs:args.all (kS.uY 0)=true)
  (he:qA P A mQ (Ji P A) f args []=m) (hk:m=tm x fun r=>(.ret (v r),[])):mP A (Ji P A) f args h=tm x fun r=>(.ret (v r),h):=by
 simp only [mP,hp,cond_true,hs,Ol,he,hk]
 cases x <;> rfl
theorem azV {α:Type}{P:Program}{A:Cj}{f:Nat}{args:List kS}{h:kU}{x:Option α}{v v':α→kS}{g g':α→kU}{m:Option (nZ×kU)}(hp:A.pure f=true) (hs:args.all (kS.uY 0)=true)
  (he:qA P A mQ (Ji P A) f args []=m) (hk:m=tm x fun r=>(.ret (v r),g r)) (hb:∀r,y8 (A.out f) h (.ret (v r),g r)=some (.ret (v' r),h++g' r)):mP A (Ji P A) f args h=tm x fun r=>(.ret (v' r),h++g' r):=by
 simp only [mP,hp,cond_true,hs,Ol,he,hk]
 cases x with
 | none=>rfl
 | some r=>exact hb r
def Vc {α:Type}(enc:α→List kS) (sz:Nat) (xs:List α):mI:=.vec xs.length sz (Rw enc xs).flatten
def tmk {α:Type}(by_:Nat) (z:α) (n:Int):Option (List α):=if 0≤n∧n.toNat * by_≤140737488355328∧n≤140737488355328 then some (List.replicate n.toNat z) else none
def zQ (n:Nat) (i:Int):Option Nat:=if 0≤i∧i < (n:Int) then some i.toNat else none
def sN {α:Type}(n:Nat) (xs:List α) (j:Nat):Option α:=if xs.length=n then xs[j]? else none
def AY {α:Type}(n:Nat) (xs:List α) (j:Nat) (x:α):Option (List α):=if xs.length=n∧j < xs.length then some (xs.set j x) else none
def tva {α:Type}(by_ tot n:Nat) (xs ys:List α):Option (List α) :=
 if xs.length=tot∧n≤tot∧(n+ys.length) * by_≤140737488355328∧n+ys.length≤140737488355328 then some (xs.take n++ys++xs.drop (n+ys.length)) else none
section
variable {α:Type}{enc:α→List kS}{sz:Nat}{xs ys:List α}{h:kU}{id n tot len off j:Nat}{k:IntKind}{i:Int}
theorem w7 (he:∀x,(enc x).length=sz):∀xs:List α,(Rw enc xs).flatten.length=xs.length * sz
 | []=>by simp [Rw]
 | x::r=>by
  have:=w7 he r
  simp only [Rw,List.map_cons,List.flatten_cons,List.length_append,List.length_cons] at this ⊢
  rw [he,this,Nat.succ_mul,Nat.add_comm]
theorem Hj (he:∀x,(enc x).length=sz):∀(xs:List α) (j:Nat),(Rw enc xs).flatten.drop (j * sz)=(Rw enc (xs.drop j)).flatten
 | xs,0=>by simp
 | [],j+1=>by simp [Rw]
 | x::r,j+1=>by
  have:=Hj he r j
  simp only [Rw,List.map_cons,List.flatten_cons,List.drop_succ_cons] at this ⊢
  rw [Nat.succ_mul,Nat.add_comm,←List.drop_drop,←this]
  congr 1
  have e:(enc x).length=sz:=he x
  rw [←e,List.drop_left]
theorem Hl (he:∀x,(enc x).length=sz):∀(xs:List α) (j:Nat),(Rw enc xs).flatten.take (j * sz)=(Rw enc (xs.take j)).flatten
 | xs,0=>by simp [Rw]
 | [],j+1=>by simp [Rw]
 | x::r,j+1=>by
  have:=Hl he r j
  simp only [Rw,List.map_cons,List.flatten_cons,List.take_succ_cons] at this ⊢
  have e:(enc x).length=sz:=he x
  rw [Nat.succ_mul,Nat.add_comm,←this,←e,List.take_append]
  congr 1
  ·exact List.take_of_length_le (by omega)
  ·congr 1; omega
theorem Zs (he:∀x,(enc x).length=sz) (ho:off < sz):(Rw enc xs).flatten[j * sz+off]?=(xs[j]?).bind fun x=>(enc x)[off]?:=by
 rw [←List.getElem?_drop,Hj he]
 cases hx:xs[j]? with
 | none =>
  have:xs.length≤j:=by simpa using hx
  rw [List.drop_eq_nil_of_le this]; simp [Rw]
 | some x =>
  have hl:=(List.getElem?_eq_some_iff.1 hx).1
  rw [List.drop_eq_getElem_cons hl,(List.getElem?_eq_some_iff.1 hx).2]
  simp only [Rw,List.map_cons,List.flatten_cons,Option.bind_some]
  rw [List.getElem?_append_left (by rw [he]; exact ho)]
theorem Dp (he:∀x,(enc x).length=sz) (hb:h[id]?=some (Vc enc sz xs)) (ho:off < sz):kW false 1 h (.vptr id tot (j * sz+off))=(sN tot xs j).bind fun x=>(enc x)[off]?:=by
 simp only [kW,mZ,hb,Vc,sN]
 by_cases e:xs.length=tot
 ·simp only [e,if_true,apart,cond_false]
  exact Zs he ho
 ·simp [e]
theorem Fs (he:∀x,(enc x).length=sz) {x:α}(hx:xs[j]?=some x):(Rw enc xs).flatten=(Rw enc (xs.take j)).flatten++(enc x++(Rw enc (xs.drop (j+1))).flatten):=by
 have hl:=(List.getElem?_eq_some_iff.1 hx).1
 have e:xs=xs.take j++x::xs.drop (j+1):=by
  have:=(List.take_append_drop j xs).symm
  rw [List.drop_eq_getElem_cons hl,(List.getElem?_eq_some_iff.1 hx).2] at this
  exact this
 have e2:Rw enc xs=Rw enc (xs.take j)++(enc x::Rw enc (xs.drop (j+1))):=by
  have:=congrArg (Rw enc) e
  rw [this]; simp only [Rw,List.map_append,List.map_cons]
 rw [e2,List.flatten_append,List.flatten_cons]
theorem avF {x:α}(hl:j < xs.length):xs.set j x=xs.take j++x::xs.drop (j+1):=by
 rw [List.set_eq_take_append_cons_drop,if_pos hl]
theorem RA (he:∀x,(enc x).length=sz) (hl:j < xs.length):(Rw enc (xs.take j)).flatten.length=j * sz:=by
 rw [w7 he,List.length_take,Nat.min_eq_left (by omega)]
theorem VR (he:∀x,(enc x).length=sz) (hb:h[id]?=some (Vc enc sz xs)) (hz:0 < sz):kW true sz h (.vptr id tot (j * sz))=tm (sN tot xs j) fun x=>.agg (enc x):=by
 simp only [kW,mZ,hb,Vc,sN]
 by_cases e:xs.length=tot
 ·simp only [e,if_true,apart,cond_true]
  have hl:=w7 he xs
  cases hx:xs[j]? with
  | none =>
   have h1:xs.length≤j:=by simpa using hx
   have h2:xs.length * sz≤j * sz:=Nat.mul_le_mul_right sz h1
   rw [if_neg (by omega)]; rfl
  | some x =>
   have hj:=(List.getElem?_eq_some_iff.1 hx).1
   have h2:(j+1) * sz≤xs.length * sz:=Nat.mul_le_mul_right sz hj
   rw [Nat.succ_mul] at h2
   rw [if_pos (by omega),Fs he hx,←RA he hj,List.drop_left,←he x,List.take_left]
   rfl
 ·simp [e,tm]
theorem Rh {A B o v:List kS}{off:Nat}(ho:off+v.length≤o.length):putCells (A++(o++B)) (A.length+off) v=A++(putCells o off v++B):=by
 unfold putCells
 rw [List.take_append,List.take_of_length_le (by omega:A.length≤A.length+off),Nat.add_sub_cancel_left,List.take_append_of_le_length (by omega)]
 rw [Nat.add_assoc,←List.drop_drop,List.drop_left,List.drop_append_of_le_length (by omega)]
 simp
theorem Kq {m:Nat}{v:kS}(EX:α→α) (he:∀x,(enc x).length=sz) (hb:h[id]?=some (Vc enc sz xs)) (hv:v.cells.length=m) (hm:off+m≤sz) (hz:0 < m) (hok:v.cells.all kS.mV=true) (hu:∀x,enc (EX x)=putCells (enc x) off v.cells) :
  lT m h (.vptr id tot (j * sz+off)) v=tb (sN tot xs j) fun x=>tm (AY tot xs j (EX x)) fun zs=>h.set id (Vc enc sz zs):=by
 simp only [lT,mZ,hb,Vc,sN]
 by_cases e:xs.length=tot
 ·simp only [e,if_true]
  have hl:=w7 he xs
  cases hx:xs[j]? with
  | none =>
   have h1:xs.length≤j:=by simpa using hx
   have h2:xs.length * sz≤j * sz:=Nat.mul_le_mul_right sz h1
   rw [if_neg (by omega)]; rfl
  | some x =>
   have hj:=(List.getElem?_eq_some_iff.1 hx).1
   have h2:(j+1) * sz≤xs.length * sz:=Nat.mul_le_mul_right sz hj
   rw [Nat.succ_mul] at h2
   rw [if_pos ⟨hv,by omega,hok⟩]
   simp only [mE,AY,e,true_and]
   rw [if_pos (by omega)]
   simp only [yS,List.length_set,e,Option.some.injEq]
   congr 2
   have hx2:(xs.set j (EX x))[j]?=some (EX x):=by simp [hj]
   have t1:(xs.set j (EX x)).take j=xs.take j:=by rw [List.take_set_of_le (Nat.le_refl _)]
   have t2:(xs.set j (EX x)).drop (j+1)=xs.drop (j+1):=by rw [List.drop_set_of_lt (by omega)]
   rw [Fs he hx,Fs he hx2,t1,t2,hu x,←RA he hj,Rh (by rw [hv,he]; omega)]
 ·simp [e,tb]
theorem Fk {v:kS}(x:α) (he:∀x,(enc x).length=sz) (hb:h[id]?=some (Vc enc sz xs)) (hz:0 < sz) (hok:v.cells.all kS.mV=true) (hu:v.cells=enc x) :
  lT sz h (.vptr id tot (j * sz)) v=tb (sN tot xs j) fun _=>tm (AY tot xs j x) fun zs=>h.set id (Vc enc sz zs):=by
 have:=Kq (tot:=tot) (j:=j) (off:=0) (m:=sz) (v:=v) (fun _=>x) he hb (by rw [hu,he]) (by omega) hz hok (fun y=>by
  unfold putCells
  rw [hu,List.take_zero,List.nil_append,Nat.zero_add,List.drop_eq_nil_of_le (by rw [he,he]; exact Nat.le_refl _),List.append_nil])
 simpa using this
theorem aCt:ix sz (.vslice id tot 0 len sz) (.int k i)=fun f=>tb (zQ len i) fun j=>f (.vptr id tot (0+j * sz)):=by
 funext f
 simp only [ix,kX,zQ]
 by_cases hc:0≤i∧i < (len:Int)
 ·rw [if_pos ⟨hc.1,hc.2,trivial⟩,if_pos hc]; rfl
 ·rw [if_neg (fun q=>hc ⟨q.1,q.2.1⟩),if_neg hc]; rfl
theorem nR:kX sz (.vslice id tot 0 len sz) (.int k i)=tm (zQ len i) fun j=>.vptr id tot (j * sz):=by
 simp only [kX,zQ]
 by_cases hc:0≤i∧i < (len:Int)
 ·rw [if_pos ⟨hc.1,hc.2,trivial⟩,if_pos hc]; simp [tm]
 ·rw [if_neg (fun q=>hc ⟨q.1,q.2.1⟩),if_neg hc]; rfl
theorem Bn {by_:Nat}{z:α}{zero:List kS}(hz:enc z=zero):nM sz by_ zero (.int k i) h=tm (tmk by_ z i) fun l=>(.vslice h.length l.length 0 l.length sz,h++[Vc enc sz l]):=by
 subst hz
 simp only [nM,tmk]
 split
 ·simp [tm,Vc,Rw]
 ·rfl
theorem J6 {by_:Nat}{T:Tok}(he:∀x,(enc x).length=sz) (hz:0 < sz) (hb:h[id]?=some (Vc enc sz xs)) (hn:n≤tot) (hy:ys≠[]) :
  nJ sz by_ h (.vslice id tot 0 n sz) (.slice (Rw enc ys) T)=tm (tva by_ tot n xs ys) fun zs=>(.vslice id zs.length 0 (n+ys.length) sz,h.set id (Vc enc sz zs)):=by
 have hr:xY sz h (.slice (Rw enc ys) T)=some (Rw enc ys):=by simp [Rw,he]
 have hyl:ys.length≠0:=fun e=>hy (List.eq_nil_of_length_eq_zero e)
 unfold nJ tva
 simp only [hr,mZ,hb,Vc,Ea]
 by_cases e:xs.length=tot
 ·simp only [e,if_true,true_and,hn,true_and]
  by_cases hc:(n+ys.length) * by_≤140737488355328∧n+ys.length≤140737488355328
  ·rw [if_pos hc,if_pos hc,if_neg hyl]
   have hl:=w7 he xs
   have hly:=w7 he ys
   by_cases ht:n+ys.length≤tot
   ·rw [if_pos ht]
    have hlen:(xs.take n++ys++xs.drop (n+ys.length)).length=tot:=by simp; omega
    simp only [yS,hlen,Option.some.injEq,Prod.mk.injEq,true_and]
    congr 2
    unfold putCells
    rw [hly,←Nat.add_mul,Hl he,Hj he]
    simp [Rw,List.map_append,List.flatten_append]
   ·rw [if_neg ht]
    have hd:xs.drop (n+ys.length)=[]:=List.drop_eq_nil_of_le (by omega)
    have hlen:(xs.take n++ys++xs.drop (n+ys.length)).length=n+ys.length:=by rw [hd]; simp; omega
    simp only [yS,hlen,Option.some.injEq,Prod.mk.injEq,true_and]
    congr 2
    rw [Hl he,hd]
    simp [Rw,List.map_append,List.flatten_append]
  ·rw [if_neg hc,if_neg hc]; rfl
 ·simp [e,tm]
attribute [simp] nR
@[simp] theorem aAg {m:Nat}(hi:id < m):kS.oH m h (.vslice id tot off len sz)=.vslice id tot off len sz:=tX hi
@[simp] theorem MB {m:Nat}(hs:∀x,m_ m h (enc x)=some (enc x)):m_ m h (Rw enc xs).flatten=some (Rw enc xs).flatten:=by
 have app:∀(a b a' b':List kS),m_ m h a=some a'→m_ m h b=some b'→m_ m h (a++b)=some (a'++b'):=by
  intro a
  induction a with
  | nil=>intro b a' b' h1 h2; simp only [Px,Option.some.injEq] at h1; subst h1; exact h2
  | cons v a ih =>
   intro b a' b' h1 h2
   rw [qM] at h1
   rw [List.cons_append,qM]
   cases hc:(kS.oH m h v).mV with
   | false=>rw [hc] at h1; cases h1
   | true =>
    rw [hc] at h1
    simp only [cond_true,Option.map_eq_some_iff] at h1 ⊢
    obtain⟨a2,h3,rfl⟩:=h1
    exact⟨_,ih b a2 b' h3 h2,rfl⟩
 induction xs with
 | nil=>simp [Rw]
 | cons x r ih =>
  simp only [Rw,List.map_cons,List.flatten_cons] at ih ⊢
  exact app _ _ _ _ (hs x) ih
@[simp] theorem Cd {m:Nat}(hs:∀x,m_ m h (enc x)=some (enc x)):oQ m h (Vc enc sz xs)=some (Vc enc sz xs):=by
 simp only [Vc,Uf,MB hs,Option.map_some]
theorem Pt (hs:∀x,(enc x).flatMap kS.E7=[]):(Vc enc sz xs).refs=[]:=by
 simp only [Vc,mI.refs]
 induction xs with
 | nil=>simp [Rw]
 | cons x r ih =>
  simp only [Rw,List.map_cons,List.flatten_cons,List.flatMap_append] at ih ⊢
  rw [hs x,ih]; rfl
theorem Ub {f:Nat→Nat}(hs:∀x,(enc x).map (kS.Dg f)=enc x):(Vc enc sz xs).y9 f=Vc enc sz xs:=by
 simp only [Vc,mI.y9]
 congr 1
 induction xs with
 | nil=>simp [Rw]
 | cons x r ih =>
  simp only [Rw,List.map_cons,List.flatten_cons,List.map_append] at ih ⊢
  rw [hs x,ih]
theorem abO {p:Nat→Bool}(hs:∀x,(enc x).all (kS.Nn p)=true):(Vc enc sz xs).ok p=true:=by
 simp only [Vc,mI.ok]
 induction xs with
 | nil=>simp [Rw]
 | cons x r ih =>
  simp only [Rw,List.map_cons,List.flatten_cons,List.all_append] at ih ⊢
  rw [hs x,ih]; rfl
end
def vld (g:Bool) (n:Nat) (b:Option mI) (tot a:Nat):Option kS:=match b with
 | some (.vec tot' _ cs)=>if tot'=tot then apart g n cs a else none
 | _=>none
def RO (n id:Nat) (h:kU) (b:Option mI) (tot a:Nat) (v:kS):Option kU:=match b with
 | some (.vec tot' sz cs)=>if tot'=tot then(if v.cells.length=n∧a+n≤cs.length∧v.cells.all kS.mV then some (h.set id (.vec tot sz (putCells cs a v.cells))) else none) else none
 | _=>none
section
variable {α:Type}{enc:α→List kS}{sz:Nat}{xs ys:List α}{h:kU}{id n tot len off j a:Nat}{k:IntKind}{i:Int}{g:Bool}{v:kS}
@[simp] theorem oC:kW g n h (.vptr id tot a)=vld g n (h[id]?) tot a:=by
 simp only [kW,mZ,vld]
 cases h[id]? with
 | none=>rfl
 | some b=>cases b with
  | vec t s cs=>by_cases e:t=tot <;> simp [e]
  | _=>rfl
@[simp] theorem tL:lT n h (.vptr id tot a) v=RO n id h (h[id]?) tot a v:=by
 simp only [lT,mZ,RO]
 cases h[id]? with
 | none=>rfl
 | some b=>cases b with
  | vec t s cs=>by_cases e:t=tot <;> simp [e]
  | _=>rfl
theorem Vh (b:mI):([b]:kU)[0]?=some b:=rfl
@[simp] theorem azE (he:∀x,(enc x).length=sz) (ho:off < sz):vld false 1 (some (Vc enc sz xs)) tot (j * sz+off)=(sN tot xs j).bind fun x=>(enc x)[off]?:=by
 rw [←Vh,←oC]; exact Dp he rfl ho
@[simp] theorem atM (he:∀x,(enc x).length=sz) (ho:0 < sz):vld false 1 (some (Vc enc sz xs)) tot (j * sz)=(sN tot xs j).bind fun x=>(enc x)[0]?:=azE (off:=0) he ho
@[simp] theorem atN (he:∀x,(enc x).length=1):vld false 1 (some (Vc enc 1 xs)) tot j=(sN tot xs j).bind fun x=>(enc x)[0]?:=by
 have:=atM (xs:=xs) (tot:=tot) (j:=j) he (by omega); rwa [Nat.mul_one] at this
@[simp] theorem atO (he:∀x,(enc x).length=sz) (hz:0 < sz):vld true sz (some (Vc enc sz xs)) tot (j * sz)=tm (sN tot xs j) fun x=>.agg (enc x):=by
 rw [←Vh,←oC]; exact VR he rfl hz
@[simp] theorem awE {β:Type}{f:α→Option β}:(sN n xs j).bind f=tb (sN n xs j) f:=rfl
theorem azF {m:Nat}(EX:α→α) (hb:h[id]?=some (Vc enc sz xs)) (he:∀x,(enc x).length=sz) (hv:v.cells.length=m) (hm:off+m≤sz) (hz:0 < m) (hok:v.cells.all kS.mV=true) (hu:∀x,enc (EX x)=putCells (enc x) off v.cells) :
  RO m id h (some (Vc enc sz xs)) tot (j * sz+off) v=tb (sN tot xs j) fun x=>tm (AY tot xs j (EX x)) fun zs=>h.set id (Vc enc sz zs):=by
 rw [←hb,←tL]; exact Kq EX he hb hv hm hz hok hu
theorem Uw {m:Nat}(EX:α→α) (he:∀x,(enc x).length=sz) (hv:v.cells.length=m) (hm:off+m≤sz) (hz:0 < m) (hok:v.cells.all kS.mV=true) (hu:∀x,enc (EX x)=putCells (enc x) off v.cells) :
  RO m id h (some (Vc enc sz xs)) tot (j * sz+off) v=tb (sN tot xs j) fun x=>tm (AY tot xs j (EX x)) fun zs=>h.set id (Vc enc sz zs):=by
 have key:=azF (h:=[Vc enc sz xs]) (id:=0) (tot:=tot) (j:=j) EX rfl he hv hm hz hok hu
 unfold RO Vc at key ⊢
 simp only at key ⊢
 by_cases e:xs.length=tot
 ·simp only [e,if_true] at key ⊢
  by_cases c:v.cells.length=m∧j * sz+off+m≤(Rw enc xs).flatten.length∧v.cells.all kS.mV=true
  ·rw [if_pos c] at key ⊢
   cases ht:sN tot xs j with
   | none=>rw [ht] at key; cases key
   | some x =>
    rw [ht] at key
    simp only [mE] at key ⊢
    cases hs:AY tot xs j (EX x) with
    | none=>rw [hs] at key; cases key
    | some zs =>
     rw [hs] at key
     simp only [yS,List.set_cons_zero,Option.some.injEq,List.cons.injEq,and_true] at key ⊢
     rw [key]
  ·rw [if_neg c] at key ⊢
   cases ht:sN tot xs j with
   | none=>rfl
   | some x =>
    rw [ht] at key
    simp only [mE] at key ⊢
    cases hs:AY tot xs j (EX x) with
    | none=>rfl
    | some zs=>rw [hs] at key; cases key
 ·simp [e,sN,tb]
theorem adV (x:α) (he:∀x,(enc x).length=sz) (hz:0 < sz) (hok:v.cells.all kS.mV=true) (hu:v.cells=enc x) :
  RO sz id h (some (Vc enc sz xs)) tot (j * sz) v=tb (sN tot xs j) fun _=>tm (AY tot xs j x) fun zs=>h.set id (Vc enc sz zs):=by
 have:=Uw (h:=h) (id:=id) (tot:=tot) (j:=j) (off:=0) (m:=sz) (v:=v) (xs:=xs) (fun _=>x) he (by rw [hu,he]) (by omega) hz hok (fun y=>by
  unfold putCells
  rw [hu,List.take_zero,List.nil_append,Nat.zero_add,List.drop_eq_nil_of_le (by rw [he,he]; exact Nat.le_refl _),List.append_nil])
 simpa using this
theorem Ma (x:α) (he:∀x,(enc x).length=1) (hok:v.cells.all kS.mV=true) (hu:v.cells=enc x) :
  RO 1 id h (some (Vc enc 1 xs)) tot j v=tb (sN tot xs j) fun _=>tm (AY tot xs j x) fun zs=>h.set id (Vc enc 1 zs):=by
 have:=adV (h:=h) (id:=id) (tot:=tot) (j:=j) (xs:=xs) x he (by omega) hok hu
 rwa [Nat.mul_one] at this
def tvp {α:Type}(by_ n:Nat) (xs ys:List α):Option (List α):=if xs.length=n∧(n+ys.length) * by_≤140737488355328∧n+ys.length≤140737488355328 then some (xs++ys) else none
def vap (sz by_ id:Nat) (h:kU) (b:Option mI) (tot n:Nat) (new:List (List kS)):Option (kS×kU):=match b with
 | some (.vec tot' sz1 cs)=>if tot'=tot then(if sz1=sz∧(n+new.length) * by_≤140737488355328∧n+new.length≤140737488355328
   then(if new.length=0 then some (.vslice id tot 0 n sz,h)
    else if n+new.length≤tot then some (.vslice id tot 0 (n+new.length) sz,h.set id (.vec tot sz (putCells cs (n * sz) new.flatten)))
    else some (.vslice id (n+new.length) 0 (n+new.length) sz,h.set id (.vec (n+new.length) sz (cs.take (n * sz)++new.flatten)))) else none) else none
 | _=>none
@[simp] theorem Fe {by_:Nat}{T:Tok}(he:∀x,(enc x).length=sz):nJ sz by_ h (.vslice id tot 0 n sz) (.slice (Rw enc ys) T)=vap sz by_ id h (h[id]?) tot n (Rw enc ys):=by
 have hr:xY sz h (.slice (Rw enc ys) T)=some (Rw enc ys):=by simp [Rw,he]
 unfold nJ vap
 simp only [hr,mZ]
 cases h[id]? with
 | none=>rfl
 | some b=>cases b with
  | vec t s cs=>by_cases e:t=tot <;> simp [e]
  | _=>rfl
@[simp] theorem amD {by_:Nat}(he:∀x,(enc x).length=sz) (hy:ys≠[]):vap sz by_ id h (some (Vc enc sz xs)) n n (Rw enc ys)=tm (tvp by_ n xs ys) fun zs=>(.vslice id zs.length 0 zs.length sz,h.set id (Vc enc sz zs)):=by
 have hyl:ys.length≠0:=fun e=>hy (List.eq_nil_of_length_eq_zero e)
 simp only [vap,Vc,tvp,Ea]
 by_cases e:xs.length=n
 ·simp only [e,if_true,true_and]
  by_cases hc:(n+ys.length) * by_≤140737488355328∧n+ys.length≤140737488355328
  ·rw [if_pos hc,if_pos hc,if_neg hyl,if_neg (by omega)]
   have ht:(Rw enc xs).flatten.take (n * sz)=(Rw enc xs).flatten:=List.take_of_length_le (by rw [w7 he,e]; exact Nat.le_refl _)
   rw [ht]
   simp [tm,e,Rw]
  ·rw [if_neg hc,if_neg hc]; rfl
 ·simp [e,tm]
end
theorem xT {α:Type}{P:Program}{A:Cj}{f:Nat}{args args':List kS}{h hs:kU}{ids:List Nat}{x:Option α}{v v':α→kS}{h1 h2:α→kU}{m:Option (nZ×kU)}(hp:A.pure f=false) (hsub:A.sub f=true)
  (hr:reach h args=ids) (ho:ND ids args h=true) (ha:args.map (kS.y9 (Db ids))=args') (hh:By ids h=hs)
  (he:qA P A mQ (Ji P A) f args' hs=m) (hk:m=tm x fun r=>(.ret (v r),h1 r)) (hb:∀r,JJ ids h (.ret (v r),h1 r)=some (.ret (v' r),h2 r)) :
  mP A (Ji P A) f args h=tm x fun r=>(.ret (v' r),h2 r):=by
 simp only [mP,hp,hsub,cond_true,cond_false,as5,hr,acO,ho,ha,hh,Ol,he,hk]
 cases x with
 | none=>rfl
 | some r=>exact hb r
@[simp] theorem Bp {m:Nat}{v:kS}{h:kU}:mX m v h=(mS m h).map fun h'=>(.ret (v.oL m h).k8,h'):=(rfl)
attribute [simp] uA
attribute [simp] reach Sv Ql kS.refs kS.E7 xR ND By JJ kS.y9 kS.Dg kS.ok kS.Nn nZ.y9 nZ.ok Db wI A_ Pt Ub abO
section
variable {cs:List kS}{t z:Nat}{es:List (kS×kS)}{f:Nat→Nat}{p:Nat→Bool}
@[simp] theorem asV:(mI.cells cs).refs=cs.flatMap kS.E7:=(rfl)
@[simp] theorem ayT:(mI.vec t z cs).refs=cs.flatMap kS.E7:=(rfl)
@[simp] theorem ayS:(mI.map es).refs=es.flatMap fun e=>e.2.E7:=(rfl)
@[simp] theorem asW:(mI.front t z).refs=[]:=(rfl)
@[simp] theorem au0:mI.free.refs=[]:=(rfl)
@[simp] theorem au1:mI.gone.refs=[]:=(rfl)
@[simp] theorem au2:(mI.cells cs).y9 f=.cells (cs.map (kS.Dg f)):=(rfl)
@[simp] theorem aAf:(mI.vec t z cs).y9 f=.vec t z (cs.map (kS.Dg f)):=(rfl)
@[simp] theorem aAe:(mI.map es).y9 f=.map (es.map fun e=>(e.1,e.2.Dg f)):=(rfl)
@[simp] theorem au3:(mI.front t z).y9 f=.front t z:=(rfl)
@[simp] theorem ayU:mI.free.y9 f=.free:=(rfl)
@[simp] theorem ayV:mI.gone.y9 f=.gone:=(rfl)
@[simp] theorem ayG:(mI.cells cs).ok p=cs.all (kS.Nn p):=(rfl)
@[simp] theorem aB0:(mI.vec t z cs).ok p=cs.all (kS.Nn p):=(rfl)
@[simp] theorem aBZ:(mI.map es).ok p=es.all fun e=>e.2.Nn p:=(rfl)
@[simp] theorem ayH:(mI.front t z).ok p=true:=(rfl)
@[simp] theorem az9:mI.free.ok p=true:=(rfl)
@[simp] theorem aAa:mI.gone.ok p=true:=(rfl)
end
@[simp] theorem ayR {sz n:Nat}:(pR sz n).refs=[]:=(rfl)
@[simp] theorem aAd {sz n:Nat}{f:Nat→Nat}:(pR sz n).y9 f=pR sz n:=(rfl)
@[simp] theorem aBY {sz n:Nat}{p:Nat→Bool}:(pR sz n).ok p=true:=(rfl)
@[simp] theorem ad4 {α:Type}{enc:α→List kS}{sz by_:Nat}{h:kU}{ys:List α}{T:Tok}{k:kS→kU→Option R}(he:∀x,(enc x).length=sz) :
  lK (nG sz by_ h (.slice (Rw enc []) .nil) (.slice (Rw enc ys) T)) k=tc ys.isEmpty (k (.slice (Rw enc []) .nil) h) (tb (yF by_ [] ys) fun zs=>k (.slice (Rw enc zs) (.own h.length)) (h++[pR sz zs.length])):=by
 have hr:sR sz h (.slice (Rw enc ys) T)=some (Rw enc ys):=by simp [Rw,he]
 have e0:Rw enc ([]:List α)=[]:=rfl
 unfold nG
 rw [e0]
 simp only [hr,Ea]
 cases ys with
 | nil=>rfl
 | cons y r =>
  simp only [List.isEmpty_cons,pK,yF,List.length_nil,Nat.zero_add,List.nil_append]
  rw [if_neg (by simp)]
  split
  ·simp [pR,lK,tb]
  ·rfl
@[simp] theorem ak9 {α:Type}{enc:α→List kS}{h:kU}{rows:List (List kS)}:qI h (.slice rows .no) (.slice (Rw enc []) .nil)=.slice (Rw enc []) .nil:=S0
@[simp] theorem ak8 {α:Type}{enc:α→List kS}{h:kU}:qI h (.slice (Rw enc []) .nil) (.slice (Rw enc []) .nil)=.slice (Rw enc []) .nil:=(rfl)
def Vs (id sz n:Nat):kS:=if n=0 then .slice [] (.own id) else .vslice id n 0 n sz
def Vb {α:Type}(enc:α→List kS) (sz:Nat) (xs:List α):mI:=if xs.length=0 then .front 0 0 else .vec xs.length sz (Rw enc xs).flatten
@[simp] theorem J0 {α:Type}{enc:α→List kS}{sz by_ id:Nat}{h:kU}{xs ys:List α}{T:Tok}(he:∀x,(enc x).length=sz) (hy:ys≠[]) (hb:h[id]?=some (Vb enc sz xs)) :
  nJ sz by_ h (Vs id sz xs.length) (.slice (Rw enc ys) T)=tm (yF by_ xs ys) fun zs=>(.vslice id zs.length 0 zs.length sz,h.set id (Vc enc sz zs)):=by
 have hyl:ys.length≠0:=fun e=>hy (List.eq_nil_of_length_eq_zero e)
 by_cases h0:xs.length=0
 ·have x0:xs=[]:=List.eq_nil_of_length_eq_zero h0
  subst x0
  have hr:xY sz h (.slice (Rw enc ys) T)=some (Rw enc ys):=by simp [Rw,he]
  have hb':h[id]?=some (.front 0 0):=hb
  have hv:Vs id sz ([]:List α).length=.slice [] (.own id):=rfl
  rw [hv]
  unfold nJ yF
  simp only [hr,hb',Ea,List.length_nil,Nat.zero_add,List.nil_append]
  split
  ·simp [tm,Vc]
  ·rfl
 ·have hv:Vs id sz xs.length=.vslice id xs.length 0 xs.length sz:=if_neg h0
  have hb':h[id]?=some (Vc enc sz xs):=by rw [hb]; unfold Vb; rw [if_neg h0]; rfl
  rw [hv,Fe he,hb',amD he hy]
  simp [tvp,yF]
theorem Km {id sz n:Nat}:lS (Vs id sz n)=some (.int .i64 (n:Int)):=by
 unfold Vs; split
 ·rename_i h; subst h; rfl
 ·rfl
attribute [simp] Km
end Hk
