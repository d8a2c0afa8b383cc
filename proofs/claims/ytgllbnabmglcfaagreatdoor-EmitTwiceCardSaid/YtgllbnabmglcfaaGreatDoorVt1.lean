/-
  The texts Vk.Ty, one behind another. No conditions.
-/
import Derived.Test.YtgllbnabmglcfaaGreatDoorVk3
set_option linter.unusedVariables false
set_option linter.unusedSimpArgs false
set_option linter.all false
open List renaming drop_eq_getElem_cons → ao4, eq_nil_of_length_eq_zero → aq9, getElem?_eq_some_iff → ac1, map_cons → aq7, nil_append → ar5
open Nat renaming le_refl → ai1, mul_le_mul_right → ao9, zero_add → ar4
open Option renaming bind_some → ai3
open Option.some renaming injEq → ad0
namespace Hk
noncomputable section
open Go
def Rw {α:Type}(enc:α→List lC) (xs:List α):List (List lC):=xs.map enc
def tb {α β:Type}(x:Option α) (f:α→Option β):Option β:=x.bind f
def tm {α β:Type}(x:Option α) (f:α→β):Option β:=x.map f
def tc {α:Type}(c:Bool) (x y:Option α):Option α:=bif c then x else y
section
variable {α β γ:Type}
@[simp] theorem arJ {x:Option α}{f:α→β}{k:β→Option γ}:(tm x f).bind k=tb x fun a=>k (f a):=by cases x <;> rfl
@[simp] theorem arH {x:Option α}{f:α→Option β}{k:β→Option γ}:(tb x f).bind k=tb x fun a=>(f a).bind k:=by cases x <;> rfl
@[simp] theorem arI {c:Bool}{x y:Option β}{k:β→Option γ}:(tc c x y).bind k=tc c (x.bind k) (y.bind k):=by cases c <;> rfl
@[simp] theorem ayK {x:Option α}{f:α→Option β}{g:β→γ}:tm (tb x f) g=tb x fun a=>tm (f a) g:=by cases x <;> rfl
@[simp] theorem ayL {c:Bool}{x y:Option β}{g:β→γ}:tm (tc c x y) g=tc c (tm x g) (tm y g):=by cases c <;> rfl
@[simp] theorem pN {x:α}{g:α→β}:tm (some x) g=some (g x):=(rfl)
@[simp] theorem asN {g:α→β}:tm none g=none:=(rfl)
@[simp] theorem mR {x:α}{f:α→Option β}:tb (some x) f=f x:=(rfl)
@[simp] theorem oM {x y:Option α}:tc true x y=x:=(rfl)
@[simp] theorem pS {x y:Option α}:tc false x y=y:=(rfl)
@[simp] theorem ae8 {x:Option α}{f:α→lC}{h:α→lD}{kv kp:lC→lD→Option R}:lY (tm x fun a=>(.ret (f a),h a)) kv kp=tb x fun a=>kv (f a) (h a):=by cases x <;> rfl
@[congr] theorem asM {c c':Bool}{x x' y y':Option α}(h:c=c') (hx:c'=true→x=x') (hy:c'=false→y=y'):tc c x y=tc c' x' y':=by
 subst h;cases c <;> simp [tc,hx,hy]
@[simp] theorem arD {c:Bool}{t e:Option R}:lS (.bool c) t e=tc c t e:=(rfl)
end
def oV {α:Type}(xs:List α) (i:Int):Option α:=if 0≤i then xs[i.toNat]? else none
@[simp] theorem aeZ {α:Type}{enc:α→List lC}{sz:Nat}{xs:List α}{t:Tok}{k:IntKind}{i:Int}(h:∀x,(enc x).length=sz):lU sz (.slice (Rw enc xs) t) (.int k i)=tm (oV xs i) fun x=>.pptr (enc x):=by
 unfold lU Rw oV
 by_cases h0:0≤i
 ·simp only [h0,if_true,List.getElem?_map]
  cases xs[i.toNat]? <;> simp [tm,h]
 ·simp [h0,tm]
@[simp] theorem anR {α:Type}{enc:α→List lC}{xs:List α}{t:Tok}:mP (.slice (Rw enc xs) t)=some (.int .i64 (xs.length:Int)):=by simp [Rw]
inductive Ey where
 | n | r | x (id:Nat)
 deriving Inhabited
def Ey.ex:Ey→Ex
 | .n=>.normal
 | .r=>.ret
 | .x i=>.exit i
@[simp] theorem Ey.azU:Ey.ex .n=.normal:=(rfl)
@[simp] theorem Ey.azV:Ey.ex .r=.ret:=(rfl)
@[simp] theorem Ey.azW {i:Nat}:Ey.ex (.x i)=.exit i:=(rfl)
@[simp] theorem Ey.auQ {e:Ey}{m:Nat}{h:lD}:Ex.pV m h e.ex=e.ex:=by cases e <;> rfl
def xD {α:Type}(e:Ey) (kn:Option α) (ke:Ey→Option α):Option α:=match e with
 | .n=>kn
 | e=>ke e
def sA {σ:Type}:Nat→(σ→Option (Ey×σ))→σ→Option (Ey×σ)
 | 0,_,_=>none
 | n+1,F,s=>(F s).bind fun r=>xD r.1 (sA n F r.2) fun e=>some (e,r.2)
theorem FD {σ:Type}{F:σ→Option (Ey×σ)}:∀{n:Nat}{s:σ}{r:Ey×σ},sA n F s=some r→sA (n+1) F s=some r
 | 0,_,_,h=>by simp [sA] at h
 | n+1,s,r,h=>by
  rw [sA] at h ⊢
  cases hF:F s with
  | none=>rw [hF] at h;simp at h
  | some x =>
   rw [hF] at h
   obtain⟨e,s'⟩:=x
   cases e <;> simp only [ai3,xD] at h ⊢ <;> first | exact h | exact FD h
theorem DA {σ:Type}{F:σ→Option (Ey×σ)}{n m:Nat}{s:σ}{r:Ey×σ}(hnm:n≤m) (h:sA n F s=some r):sA m F s=some r:=by
 induction hnm with
 | refl=>exact h
 | step _ ih=>exact FD ih
open Classical in
def tY {σ:Type}(F:σ→Option (Ey×σ)) (s:σ):Option (Ey×σ) :=
 if h:∃n r,sA n F s=some r then some (Classical.choose (Classical.choose_spec h)) else none
theorem DB {σ:Type}{F:σ→Option (Ey×σ)}{s:σ}{r:Ey×σ}:tY F s=some r↔∃n,sA n F s=some r:=by
 unfold tY
 constructor
 ·intro h
  split at h
  ·rename_i hx
   cases h
   exact⟨_,Classical.choose_spec (Classical.choose_spec hx)⟩
  ·cases h
 ·rintro⟨n,hn⟩
  have hx:∃n r,sA n F s=some r:=⟨n,r,hn⟩
  rw [dif_pos hx]
  have h1:=Classical.choose_spec (Classical.choose_spec hx)
  have h2:=DA (Nat.le_max_left _ n) h1
  have h3:=DA (Nat.le_max_right (Classical.choose hx) n) hn
  rw [h2] at h3
  exact h3
theorem NP {σ:Type}(F:σ→Option (Ey×σ)) (s:σ):tY F s=(F s).bind fun r=>xD r.1 (tY F r.2) fun e=>some (e,r.2):=by
 apply Option.ext
 intro r
 rw [DB]
 cases hF:F s with
 | none =>
  simp only [Option.bind_none]
  constructor
  ·rintro⟨n,hn⟩
   cases n <;> simp [sA,hF] at hn
  ·intro h;simp at h
 | some x =>
  obtain⟨e,s'⟩:=x
  have hn1:∀n,sA (n+1) F s=xD e (sA n F s') fun e=>some (e,s'):=by
   intro n;rw [sA,hF];rfl
  simp only [ai3]
  constructor
  ·rintro⟨n,hn⟩
   cases n with
   | zero=>simp [sA] at hn
   | succ n =>
    rw [hn1] at hn
    cases e <;> simp only [xD] at hn ⊢ <;> first | exact hn | exact DB.2 ⟨n,hn⟩
  ·intro h
   cases e <;> simp only [xD] at h
   case n=>obtain⟨n,hn⟩:=DB.1 h;exact⟨n+1,by rw [hn1];exact hn⟩
   all_goals exact⟨1,by rw [hn1];exact h⟩
theorem q_ {σ:Type}{F:σ→Option (Ey×σ)}{s s':σ}(h:F s=some (.n,s')):tY F s=tY F s':=by rw [NP,h];rfl
theorem p5 {σ:Type}{F:σ→Option (Ey×σ)}{s s':σ}{e:Ey}(h:F s=some (e,s')) (hn:e≠.n):tY F s=some (e,s'):=by
 rw [NP,h];cases e <;> first | exact absurd rfl hn | rfl
theorem uP {σ:Type}{F:List lC×lD→Option R}{G:σ→Option (Ey×σ)}{enc:σ→List lC×lD}(h:∀s,F (enc s)=tm (G s) fun r=>(r.1.ex,enc r.2)) (s:σ):mX F (enc s)=tm (tY G s) fun r=>(r.1.ex,enc r.2):=by
 have key:∀n s,qC n F (enc s)=tm (sA n G s) fun r=>(r.1.ex,enc r.2):=by
  intro n
  induction n with
  | zero=>intro s;rfl
  | succ n ih =>
   intro s
   rw [qC,sA,h s]
   cases hG:G s with
   | none=>rfl
   | some x =>
    obtain⟨e,s'⟩:=x
    cases e <;> simp only [pN,ai3,Ex.mO,xD,Ey.ex] <;> first | exact ih s' | rfl
 apply Option.ext
 intro r
 rw [x5]
 constructor
 ·rintro⟨n,hn⟩
  rw [key] at hn
  cases hG:sA n G s with
  | none=>rw [hG] at hn;simp [tm] at hn
  | some x=>rw [hG] at hn;rw [DB.2 ⟨n,hG⟩];exact hn
 ·intro hr
  cases hG:tY G s with
  | none=>rw [hG] at hr;simp [tm] at hr
  | some x =>
   rw [hG] at hr
   obtain⟨n,hn⟩:=DB.1 hG
   exact⟨n,by rw [key,hn];exact hr⟩
def xF {α:Type}(id:Nat) (e:Ey) (kn:Option α) (ke:Ey→Option α):Option α:=match e with
 | .n=>kn
 | .x j=>bif j == id then kn else ke (.x j)
 | e=>ke e
def nrT {α:Type}(e:Ey) (kn:Option α):Option α:=match e with
 | .n=>kn
 | _=>none
def JC {α:Type}(e:Ey) (x:Option α):Option α:=match e with
 | .n=>x
 | .r=>x
 | _=>none
section
variable {α β:Type}{e:Ey}{i j:Nat}
@[simp] theorem aqW {kn:Option R}{ke:Ex→Option R}:Ex.mO e.ex kn ke=xD e kn fun e=>ke e.ex:=by cases e <;> rfl
@[simp] theorem al8 {kn:Option R}{ke:Ex→Option R}:Ex.inBlock i e.ex kn ke=xF i e kn fun e=>ke e.ex:=by cases e <;> rfl
@[simp] theorem ax5 {kn:Option R}:Ex.qZ e.ex kn=nrT e kn:=by cases e <;> rfl
@[simp] theorem auO {x:Option (nB×lD)}:Ex.nR e.ex x=JC e x:=by cases e <;> rfl
@[simp] theorem anY {kn:Option α}{ke:Ey→Option α}{k:α→Option β}:(xD e kn ke).bind k=xD e (kn.bind k) fun e=>(ke e).bind k:=by cases e <;> rfl
@[simp] theorem anZ {kn:Option α}{ke:Ey→Option α}{k:α→Option β}:(xF i e kn ke).bind k=xF i e (kn.bind k) fun e=>(ke e).bind k:=by
 cases e <;> first | rfl | (simp only [xF];cases (_ == i) <;> rfl)
@[simp] theorem an0 {kn:Option α}{k:α→Option β}:(nrT e kn).bind k=nrT e (kn.bind k):=by cases e <;> rfl
@[simp] theorem anX {kn:Option α}{k:α→Option β}:(JC e kn).bind k=JC e (kn.bind k):=by cases e <;> rfl
@[simp] theorem awD {kn:Option α}{ke:Ey→Option α}{k:α→β}:tm (xD e kn ke) k=xD e (tm kn k) fun e=>tm (ke e) k:=by cases e <;> rfl
@[simp] theorem awE {kn:Option α}{ke:Ey→Option α}{k:α→β}:tm (xF i e kn ke) k=xF i e (tm kn k) fun e=>tm (ke e) k:=by
 cases e <;> first | rfl | (simp only [xF];cases (_ == i) <;> rfl)
@[simp] theorem awF {kn:Option α}{k:α→β}:tm (nrT e kn) k=nrT e (tm kn k):=by cases e <;> rfl
@[simp] theorem awC {kn:Option α}{k:α→β}:tm (JC e kn) k=JC e (tm kn k):=by cases e <;> rfl
@[simp] theorem afY {kn:Option α}{ke:Ey→Option α}:xD .n kn ke=kn:=(rfl)
@[simp] theorem arT {kn:Option α}{ke:Ey→Option α}:xD .r kn ke=ke .r:=(rfl)
@[simp] theorem aoQ {kn:Option α}{ke:Ey→Option α}:xD (.x i) kn ke=ke (.x i):=(rfl)
@[simp] theorem Hx {kn:Option α}{ke:Ey→Option α}:xF i .n kn ke=kn:=(rfl)
@[simp] theorem arW {kn:Option α}{ke:Ey→Option α}:xF i .r kn ke=ke .r:=(rfl)
@[simp] theorem aoZ {kn:Option α}{ke:Ey→Option α}:xF i (.x j) kn ke=bif j == i then kn else ke (.x j):=(rfl)
@[simp] theorem aiZ {kn:Option α}:nrT .n kn=kn:=(rfl)
@[simp] theorem afW {x:Option α}:JC .n x=x:=(rfl)
@[simp] theorem arS {x:Option α}:JC .r x=x:=(rfl)
end
def gd (l:List lC) (i:Nat):lC:=l.getD i .junk
def ld (g:Bool) (n:Nat) (h:lD) (a:lC) (k:lC→Option R):Option R:=(lP g n h a).bind k
def fa (o:Nat) (a:lC) (k:lC→Option R):Option R:=(lO o a).bind k
def ix (sz:Nat) (s i:lC) (k:lC→Option R):Option R:=(lU sz s i).bind k
def bo (op:BinOp) (a b:lC) (k:lC→Option R):Option R:=(lZ op a b).bind k
def ln (s:lC) (k:lC→Option R):Option R:=(mP s).bind k
def gS (w:Bool) (g:lC) (x:Option R) (h:lD) (k:lC→lD→Option R):Option R:=(lJ w g x (lV (.tuple []) h)).bind (l9 k fun _ _=>none)
def ca (x:Option (nB×lD)) (k:lC→lD→Option R):Option R:=lY x k fun _ _=>none
def cg (x:Option (nB×lD)) (k:lC→lD→Option R):Option R:=lY x k FA
section
variable {g:Bool}{n o sz:Nat}{h:lD}{a b s i:lC}{k:lC→Option R}{kh:lC→lD→Option R}{w:Bool}{l:List lC}{m:Nat}{op:BinOp}{x:Option R}{y:Option (nB×lD)}
@[simp] theorem azZ:gd l n=l.getD n .junk:=(rfl)
@[simp] theorem az8:ld g n h a k=(lP g n h a).bind k:=(rfl)
@[simp] theorem azX:fa o a k=(lO o a).bind k:=(rfl)
@[simp] theorem az1:ix sz s i k=(lU sz s i).bind k:=(rfl)
@[simp] theorem ay4:bo op a b k=(lZ op a b).bind k:=(rfl)
@[simp] theorem az9:ln s k=(mP s).bind k:=(rfl)
@[simp] theorem azY:gS w a x h kh=(lJ w a x (lV (.tuple []) h)).bind (l9 kh fun _ _=>none):=(rfl)
@[simp] theorem azQ:ca y kh=lY y kh fun _ _=>none:=(rfl)
@[simp] theorem azR:cg y kh=lY y kh FA:=(rfl)
@[congr] theorem arP {y':Option (nB×lD)}(e:y=y'):cg y kh=cg y' kh:=by rw [e]
@[congr] theorem arZ {a':lC}{h':lD}(e:a=a') (e2:h=h'):ld g n h a k=ld g n h' a' k:=by rw [e,e2]
@[congr] theorem arU {a':lC}(e:a=a'):fa o a k=fa o a' k:=by rw [e]
@[congr] theorem arX {s' i':lC}(e:s=s') (e2:i=i'):ix sz s i k=ix sz s' i' k:=by rw [e,e2]
@[congr] theorem arK {a' b':lC}(e:a=a') (e2:b=b'):bo op a b k=bo op a' b' k:=by rw [e,e2]
@[congr] theorem ar0 {s':lC}(e:s=s'):ln s k=ln s' k:=by rw [e]
@[congr] theorem arV {a':lC}{h':lD}(e:a=a') (e2:h=h'):gS w a x h kh=gS w a' x h' kh:=by rw [e,e2]
@[congr] theorem arO {y':Option (nB×lD)}(e:y=y'):ca y kh=ca y' kh:=by rw [e]
end
def aqZ (k:IntKind) (a b:Int):Option Int:=if b<0 then none else some (k.wrap (a*2^(min b.toNat k.bits)))
def Rk (k:IntKind) (a b:Int):Option Int:=if b<0 then none else some (a.fdiv (2^(min b.toNat k.bits)))
def MI (k:IntKind) (a b:Int):Option Int:=if b=0 then none else some (k.wrap (a.tdiv b))
def aqY (a b:Int):Option Int:=if b=0 then none else some (a.tmod b)
def Jm (k:IntKind) (a b:Int):Int:=k.wrap (BitVec.ofInt k.bits a &&& BitVec.ofInt k.bits b).toNat
def tor (k:IntKind) (a b:Int):Int:=k.wrap (BitVec.ofInt k.bits a ||| BitVec.ofInt k.bits b).toNat
def aq1 (k:IntKind) (a b:Int):Int:=k.wrap (BitVec.ofInt k.bits a ^^^ BitVec.ofInt k.bits b).toNat
def ad8 (k:IntKind) (a b:Int):Int:=k.wrap (BitVec.ofInt k.bits a &&& ~~~ BitVec.ofInt k.bits b).toNat
def awG (k:IntKind) (a:Int):Int:=k.wrap (BitVec.ofInt k.bits (if k.signed then -1 else k.max) ^^^ BitVec.ofInt k.bits a).toNat
def aq0 (s:List UInt8) (i:Int):Option Int:=if 0≤i then(s[i.toNat]?).map fun b=>((b.toNat:Nat):Int) else none
def aqU (s t:List UInt8):Option (List UInt8):=if s.length+t.length≤4611686018427387904 then some (s++t) else none
def Rf (x:Option Int) (d:Nat):Option Nat:=match x with
 | none=>some d
 | some n=>if 0≤n then some n.toNat else none
def Jp {α:Type}(xs:List α) (lo hi:Option Int):Option (List α):=match Rf lo 0,Rf hi xs.length with
 | some l,some u=>if l≤u∧u≤xs.length then some ((xs.drop l).take (u-l)) else none
 | _,_=>none
def p7 {α:Type}(by_:Nat) (xs ys:List α):Option (List α):=if (xs.length+ys.length)*by_≤140737488355328∧xs.length+ys.length≤140737488355328 then some (xs++ys) else none
def oK (sz n:Nat):mC:=.front n (if n=0 then 0 else sz)
section
variable {k k':IntKind}{a b:Int}{s t:List UInt8}{α:Type}{enc:α→List lC}{xs ys:List α}{sz:Nat}{T T':Tok}{x y:Bool}
@[simp] theorem aeU:lZ .shl (.int k a) (.int k' b)=tm (aqZ k a b) (lC.int k):=by
 simp only [lZ,aqZ];split <;> rfl
@[simp] theorem aeV:lZ .shr (.int k a) (.int k' b)=tm (Rk k a b) (lC.int k):=by
 simp only [lZ,Rk];split <;> rfl
@[simp] theorem aeS:lZ .quo (.int k a) (.int k b)=tm (MI k a b) (lC.int k):=by
 simp only [lZ,MI,ne_eq,not_true_eq_false,if_false];split <;> rfl
@[simp] theorem aeT:lZ .rem (.int k a) (.int k b)=tm (aqY a b) (lC.int k):=by
 simp only [lZ,aqY,ne_eq,not_true_eq_false,if_false];split <;> rfl
@[simp] theorem aeR:lZ .and (.int k a) (.int k b)=some (.int k (Jm k a b)):=by simp [lZ,Jm]
@[simp] theorem alN:lZ .or (.int k a) (.int k b)=some (.int k (tor k a b)):=by simp [lZ,tor]
@[simp] theorem aeW:lZ .xor (.int k a) (.int k b)=some (.int k (aq1 k a b)):=by simp [lZ,aq1]
@[simp] theorem X1:lZ .andNot (.int k a) (.int k b)=some (.int k (ad8 k a b)):=by simp [lZ,ad8]
@[simp] theorem alT:xX .xor (.int k a)=some (.int k (awG k a)):=(rfl)
@[simp] theorem acA:lZ .add (.str s) (.str t)=tm (aqU s t) lC.str:=by simp only [lZ,aqU];split <;> rfl
@[simp] theorem acE:lZ .lss (.str s) (.str t)=some (.bool (Op.bytesLess s t)):=(rfl)
@[simp] theorem acD:lZ .leq (.str s) (.str t)=some (.bool (Op.bytesLess s t || s == t)):=(rfl)
@[simp] theorem acC:lZ .gtr (.str s) (.str t)=some (.bool (!(Op.bytesLess s t || s == t))):=(rfl)
@[simp] theorem acB:lZ .geq (.str s) (.str t)=some (.bool (!(Op.bytesLess s t))):=(rfl)
@[simp] theorem acH:sS (.str s) (.int k a)=tm (aq0 s a) (lC.int .u8):=by
 unfold sS aq0 tm;by_cases h:0≤a
 ·simp only [h,if_true];cases s[a.toNat]? <;> rfl
 ·simp [h]
@[simp] theorem alR:mJ (.bool x) (.int k a) (.int k b)=some (.int k (bif x then a else b)):=by cases x <;> rfl
@[simp] theorem acL {u v:Bool}:mJ (.bool x) (.bool u) (.bool v)=some (.bool (bif x then u else v)):=by cases x <;> rfl
@[simp] theorem alS:mJ (.bool x) (.str s) (.str t)=some (.str (bif x then s else t)):=by cases x <;> rfl
theorem Nb {o:Option Int}{d:Nat}:pE (o.map (lC.int k)) d=Rf o d:=by
 cases o <;> rfl
theorem CI {lo hi:Option Int}(h:∀x,(enc x).length=sz):oI sz (.slice (Rw enc xs) T) (lo.map (lC.int k)) (hi.map (lC.int k'))=tm (Jp xs lo hi) fun zs=>.slice (Rw enc zs) .no:=by
 have hall:((Rw enc xs).all fun r=>r.length == sz)=true:=by simp [Rw,h]
 have hlen:(Rw enc xs).length=xs.length:=by simp [Rw]
 unfold oI Jp
 simp only [Nb,hall,hlen,and_true]
 cases Rf lo 0 with
 | none=>rfl
 | some l =>
  cases Rf hi xs.length with
  | none=>rfl
  | some u =>
   simp only
   split
   ·simp [tm,Rw,List.map_drop,List.map_take]
   ·rfl
@[simp] theorem acM {u:Int}(h:∀x,(enc x).length=sz):oI sz (.slice (Rw enc xs) T) none (some (.int k u))=tm (Jp xs none (some u)) fun zs=>.slice (Rw enc zs) .no:=CI (k:=.i64) (k':=k) (lo:=none) (hi:=some u) h
@[simp] theorem acN {l:Int}(h:∀x,(enc x).length=sz):oI sz (.slice (Rw enc xs) T) (some (.int k l)) none=tm (Jp xs (some l) none) fun zs=>.slice (Rw enc zs) .no:=CI (k:=k) (k':=.i64) (lo:=some l) (hi:=none) h
@[simp] theorem acO {l u:Int}(h:∀x,(enc x).length=sz):oI sz (.slice (Rw enc xs) T) (some (.int k l)) (some (.int k' u))=tm (Jp xs (some l) (some u)) fun zs=>.slice (Rw enc zs) .no:=CI (lo:=some l) (hi:=some u) h
theorem A1 {lo hi:Option Int}:rW (.str s) (lo.map (lC.int k)) (hi.map (lC.int k'))=tm (Jp s lo hi) lC.str:=by
 unfold rW Jp
 simp only [Nb]
 cases Rf lo 0 with
 | none=>rfl
 | some l =>
  cases Rf hi s.length with
  | none=>rfl
  | some u =>
   simp only
   split <;> rfl
@[simp] theorem YK {u:Int}:rW (.str s) none (some (.int k u))=tm (Jp s none (some u)) lC.str:=A1 (k:=.i64) (lo:=none) (hi:=some u)
@[simp] theorem YL {l:Int}:rW (.str s) (some (.int k l)) none=tm (Jp s (some l) none) lC.str:=A1 (k':=.i64) (lo:=some l) (hi:=none)
@[simp] theorem YN {l u:Int}:rW (.str s) (some (.int k l)) (some (.int k' u))=tm (Jp s (some l) (some u)) lC.str:=A1 (lo:=some l) (hi:=some u)
@[simp] theorem SS {by_ id:Nat}{h:lD}(he:∀x,(enc x).length=sz) (hb:h[id]?=some (oK sz xs.length)) :
  nC sz by_ h (.slice (Rw enc xs) (.own id)) (.slice (Rw enc ys) T)=tm (p7 by_ xs ys) fun zs=>(.slice (Rw enc zs) (.own id),h.set id (oK sz zs.length)):=by
 have hr:qS sz h (.slice (Rw enc ys) T)=some (Rw enc ys):=by simp [Rw,he]
 have hl:(Rw enc xs).length=xs.length:=by simp [Rw]
 have hl2:(Rw enc ys).length=ys.length:=by simp [Rw]
 have e2:Rw enc (xs++ys)=Rw enc xs++Rw enc ys:=by simp [Rw]
 have hlt:=(ac1.1 hb).1
 have hself:h.set id (oK sz xs.length)=h:=by
  rw [←(ac1.1 hb).2];exact List.set_getElem_self hlt
 unfold nC p7
 simp only [hr,hb]
 by_cases h0:xs.length=0
 ·have e0:oK sz xs.length=.front 0 0:=by simp [oK,h0]
  have x0:xs=[]:=aq9 h0
  simp only [e0,hl,hl2]
  by_cases hc:(xs.length+ys.length)*by_≤140737488355328∧xs.length+ys.length≤140737488355328
  ·rw [if_pos hc,if_pos ⟨h0,.inr ⟨trivial,trivial⟩,by rw [h0] at hc;exact hc.1,by rw [h0] at hc;exact hc.2⟩]
   simp only [tm,Option.map_some,ad0]
   by_cases h1:ys.length=0
   ·have y0:ys=[]:=aq9 h1
    subst y0;subst x0
    simp only [List.length_nil,if_true,List.append_nil] at hself ⊢
    rw [hself]
   ·rw [if_neg h1]
    simp [oK,x0,Rw,h1]
  ·rw [if_neg hc,if_neg (fun q=>hc ⟨by rw [h0];exact q.2.2.1,by rw [h0];exact q.2.2.2⟩)]
   rfl
 ·have e0:oK sz xs.length=.front xs.length sz:=by simp [oK,h0]
  simp only [e0,hl,hl2]
  by_cases hc:(xs.length+ys.length)*by_≤140737488355328∧xs.length+ys.length≤140737488355328
  ·rw [if_pos hc,if_pos ⟨trivial,.inl trivial,hc.1,hc.2⟩]
   simp only [tm,Option.map_some,ad0]
   by_cases h1:ys.length=0
   ·have y0:ys=[]:=aq9 h1
    subst y0
    simp only [List.length_nil,if_true,List.append_nil]
    rw [hself]
   ·rw [if_neg h1,e2]
    have:oK sz (xs++ys).length=.front (xs.length+ys.length) sz:=by simp [oK,h0]
    rw [this]
  ·rw [if_neg hc,if_neg (fun q=>hc ⟨q.2.2.1,q.2.2.2⟩)]
   rfl
@[simp] theorem aeQ {by_ id:Nat}{h:lD}(he:∀x,(enc x).length=sz) (hb:h[id]?=some (.front 0 0)) :
  nC sz by_ h (.slice (Rw enc []) (.own id)) (.slice (Rw enc ys) T)=tm (p7 by_ [] ys) fun zs=>(.slice (Rw enc zs) (.own id),h.set id (oK sz zs.length)):=SS he hb
@[simp] theorem anF:oK sz 0=.front 0 0:=(rfl)
@[simp] theorem alU {x:Option α}{f:α→lC×lD}{kv:lC→lD→Option R}:lQ (tm x f) kv=tb x fun a=>kv (f a).1 (f a).2:=by cases x <;> rfl
@[simp] theorem amX {m:Nat}{h:lD}{cs:List lC}:lC.nO m h (.pptr cs)=.pptr cs:=(rfl)
@[simp] theorem aqQ {m:Nat}{h:lD}{cs:List lC}:lC.pV m h (.pptr cs)=.pptr cs:=(rfl)
@[simp] theorem ak5 {cs:List lC}:lC.lL (.pptr cs)=.pptr cs:=(rfl)
@[simp] theorem akD {m n:Nat}{h:lD}:pC m h (oK sz n)=some (oK sz n):=by unfold oK;split <;> rfl
@[simp] theorem af6 {n i:Nat}{r:lD}:nW (oK sz n::r) (i+1)=nW r i:=(rfl)
@[simp] theorem Zx {r:lD}:sD (oK sz 0::r) 0=true:=(rfl)
@[simp] theorem acJ {id:Nat}{r:List lC}:mM id (.slice (Rw enc []) .nil::r)=((.slice (Rw enc []) (.own id))::(mM (id+1) r).1,.front 0 0::(mM (id+1) r).2):=(rfl)
@[simp] theorem ae3 {id:Nat}{rows:List (List lC)}{r:List lC}:mM id (.slice rows .no::r)=(.slice rows .no::(mM id r).1,(mM id r).2):=by cases rows <;> rfl
@[simp] theorem acK {id j:Nat}{rows:List (List lC)}{r:List lC}:mM id (.slice rows (.own j)::r)=(.slice rows (.own j)::(mM id r).1,(mM id r).2):=by cases rows <;> rfl
@[simp] theorem agG {h:lD}{id:Nat}:sX h (.slice (Rw enc []) (.own id)) (.slice (Rw enc []) .nil)=bif sD h id then .slice (Rw enc []) (.own id) else .slice (Rw enc []) .nil:=Ts
@[simp] theorem amV {m:Nat}{h:lD}:lC.nO m h (.slice (Rw enc []) .nil)=.slice (Rw enc []) .nil:=(rfl)
@[simp] theorem aqN {m:Nat}{h:lD}:lC.pV m h (.slice (Rw enc []) .nil)=.slice (Rw enc []) .nil:=(rfl)
end
def ci (k:IntKind) (n:Int):List lC:=[.int k n]
def cb (x:Bool):List lC:=[.bool x]
def auN (s:List UInt8):List lC:=[.str s]
def uN {α:Type}(enc:α→List lC) (xs:List α):List lC:=[.slice (Rw enc xs) .no]
@[simp] theorem axI {k:IntKind}{n:Int}:ci k n=[.int k n]:=(rfl)
@[simp] theorem axG {x:Bool}:cb x=[.bool x]:=(rfl)
@[simp] theorem arQ {s:List UInt8}:auN s=[.str s]:=(rfl)
@[simp] theorem auM {α:Type}{enc:α→List lC}{xs:List α}:uN enc xs=[.slice (Rw enc xs) .no]:=(rfl)
@[simp] theorem af9 {w c:Bool}{x y:Option R}:lJ w (.bool c) x y=bif w then tc c x y else tc c y x:=by cases w <;> rfl
attribute [simp] nA mM putCells mD AX apart
@[simp] theorem XZ {i:Nat}{vs:List lC}:nI i (.tuple vs)=vs[i]?:=(rfl)
@[simp] theorem BO {α:Type}{enc:α→List lC}{xs:List α}:(Rw enc xs).length=xs.length:=by simp [Rw]
@[simp] theorem auP {m:Nat}{e:Ex}{vs:List lC}{h:lD}:lX m e vs h=(oD m h).map fun h'=>(e.pV m h,vs.map (·.pV m h),h'):=(rfl)
@[simp] theorem Gw {m:Nat}{h:lD}:oD m h=oG m h (h.take m):=(rfl)
attribute [simp] pR mS
theorem afX {P:Program}{A:wC}:∀n,z_ (MQ P A mX n) fun k=>MQ P A mX k:=by
 intro n
 induction n with
 | zero=>intro f args h r hb;cases hb
 | succ n ih =>
  intro f args h r hb
  obtain⟨N,hN⟩:=Gb (lp:=mX) (fun _ _ _ h=>h) ih f args h r hb
  refine⟨N+1,fun k hk=>?_⟩
  cases k with
  | zero=>omega
  | succ k=>exact hN k (by omega)
theorem KV {P:Program}{A:wC}{f:Nat}{args:List lC}{h:lD}:IQ P A f args h=qG P A mX (IQ P A) f args h:=by
 apply Option.ext
 intro r
 refine⟨fun hb=>?_,fun hb=>Vp hb⟩
 obtain⟨N,hN⟩:=BQ.1 hb
 have h1:=hN (N+1) (by omega)
 obtain⟨M,hM⟩:=Gb (lp:=mX) (K:=MQ P A mX N) (Kn:=fun _=>IQ P A) (fun _ _ _ h=>h) (fun f args h r hb=>Ev.of fun _=>BQ.2 (afX N f args h r hb)) f args h r h1
 exact hM M (ai1 _)
theorem nZ {α:Type}{P:Program}{A:wC}{f:Nat}{args:List lC}{h:lD}{x:Option α}{v:α→lC}{m:Option (nB×lD)}(hp:A.pure f=true) (hs:args.all (lC.rU 0)=true)
  (he:qG P A mX (IQ P A) f args []=m) (hk:m=tm x fun r=>(.ret (v r),[])):mH A (IQ P A) f args h=tm x fun r=>(.ret (v r),h):=by
 simp only [mH,hp,cond_true,hs,KV,he,hk]
 cases x <;> rfl
theorem F_ {α:Type}{P:Program}{A:wC}{f:Nat}{args:List lC}{h:lD}{x:Option α}{v v':α→lC}{g g':α→lD}{m:Option (nB×lD)}(hp:A.pure f=true) (hs:args.all (lC.rU 0)=true)
  (he:qG P A mX (IQ P A) f args []=m) (hk:m=tm x fun r=>(.ret (v r),g r)) (hb:∀r,tA (A.out f) h (.ret (v r),g r)=some (.ret (v' r),h++g' r)):mH A (IQ P A) f args h=tm x fun r=>(.ret (v' r),h++g' r):=by
 simp only [mH,hp,cond_true,hs,KV,he,hk]
 cases x with
 | none=>rfl
 | some r=>exact hb r
def Vc {α:Type}(enc:α→List lC) (sz:Nat) (xs:List α):mC:=.vec xs.length sz (Rw enc xs).flatten
def tmk {α:Type}(by_:Nat) (z:α) (n:Int):Option (List α):=if 0≤n∧n.toNat*by_≤140737488355328∧n≤140737488355328 then some (List.replicate n.toNat z) else none
def MH (n:Nat) (i:Int):Option Nat:=if 0≤i∧i<(n:Int) then some i.toNat else none
def xR {α:Type}(n:Nat) (xs:List α) (j:Nat):Option α:=if xs.length=n then xs[j]? else none
def FN {α:Type}(n:Nat) (xs:List α) (j:Nat) (x:α):Option (List α):=if xs.length=n∧j<xs.length then some (xs.set j x) else none
def tva {α:Type}(by_ tot n:Nat) (xs ys:List α):Option (List α) :=
 if xs.length=tot∧n≤tot∧(n+ys.length)*by_≤140737488355328∧n+ys.length≤140737488355328 then some (xs.take n++ys++xs.drop (n+ys.length)) else none
section
variable {α:Type}{enc:α→List lC}{sz:Nat}{xs ys:List α}{h:lD}{id n tot len off j:Nat}{k:IntKind}{i:Int}
theorem vL (he:∀x,(enc x).length=sz):∀xs:List α,(Rw enc xs).flatten.length=xs.length*sz
 | []=>by simp [Rw]
 | x::r=>by
  have:=vL he r
  simp only [Rw,aq7,List.flatten_cons,List.length_append,List.length_cons] at this ⊢
  rw [he,this,Nat.succ_mul,Nat.add_comm]
theorem EF (he:∀x,(enc x).length=sz):∀(xs:List α) (j:Nat),(Rw enc xs).flatten.drop (j*sz)=(Rw enc (xs.drop j)).flatten
 | xs,0=>by simp
 | [],j+1=>by simp [Rw]
 | x::r,j+1=>by
  have:=EF he r j
  simp only [Rw,aq7,List.flatten_cons,List.drop_succ_cons] at this ⊢
  rw [Nat.succ_mul,Nat.add_comm,←List.drop_drop,←this]
  congr 1
  have e:(enc x).length=sz:=he x
  rw [←e,List.drop_left]
theorem EG (he:∀x,(enc x).length=sz):∀(xs:List α) (j:Nat),(Rw enc xs).flatten.take (j*sz)=(Rw enc (xs.take j)).flatten
 | xs,0=>by simp [Rw]
 | [],j+1=>by simp [Rw]
 | x::r,j+1=>by
  have:=EG he r j
  simp only [Rw,aq7,List.flatten_cons,List.take_succ_cons] at this ⊢
  have e:(enc x).length=sz:=he x
  rw [Nat.succ_mul,Nat.add_comm,←this,←e,List.take_append]
  congr 1
  ·exact List.take_of_length_le (by omega)
  ·congr 1;omega
theorem Vx (he:∀x,(enc x).length=sz) (ho:off<sz):(Rw enc xs).flatten[j*sz+off]?=(xs[j]?).bind fun x=>(enc x)[off]?:=by
 rw [←List.getElem?_drop,EF he]
 cases hx:xs[j]? with
 | none =>
  have:xs.length≤j:=by simpa using hx
  rw [List.drop_eq_nil_of_le this];simp [Rw]
 | some x =>
  have hl:=(ac1.1 hx).1
  rw [ao4 hl,(ac1.1 hx).2]
  simp only [Rw,aq7,List.flatten_cons,ai3]
  rw [List.getElem?_append_left (by rw [he];exact ho)]
theorem Df (he:∀x,(enc x).length=sz) (hb:h[id]?=some (Vc enc sz xs)) (ho:off<sz):lP false 1 h (.vptr id tot (j*sz+off))=(xR tot xs j).bind fun x=>(enc x)[off]?:=by
 simp only [lP,nV,hb,Vc,xR]
 by_cases e:xs.length=tot
 ·simp only [e,if_true,apart,cond_false]
  exact Vx he ho
 ·simp [e]
theorem CL (he:∀x,(enc x).length=sz) {x:α}(hx:xs[j]?=some x):(Rw enc xs).flatten=(Rw enc (xs.take j)).flatten++(enc x++(Rw enc (xs.drop (j+1))).flatten):=by
 have hl:=(ac1.1 hx).1
 have e:xs=xs.take j++x::xs.drop (j+1):=by
  have:=(List.take_append_drop j xs).symm
  rw [ao4 hl,(ac1.1 hx).2] at this
  exact this
 have e2:Rw enc xs=Rw enc (xs.take j)++(enc x::Rw enc (xs.drop (j+1))):=by
  have:=congrArg (Rw enc) e
  rw [this];simp only [Rw,List.map_append,aq7]
 rw [e2,List.flatten_append,List.flatten_cons]
theorem OK (he:∀x,(enc x).length=sz) (hl:j<xs.length):(Rw enc (xs.take j)).flatten.length=j*sz:=by
 rw [vL he,List.length_take,Nat.min_eq_left (by omega)]
theorem SZ (he:∀x,(enc x).length=sz) (hb:h[id]?=some (Vc enc sz xs)) (hz:0<sz):lP true sz h (.vptr id tot (j*sz))=tm (xR tot xs j) fun x=>.agg (enc x):=by
 simp only [lP,nV,hb,Vc,xR]
 by_cases e:xs.length=tot
 ·simp only [e,if_true,apart,cond_true]
  have hl:=vL he xs
  cases hx:xs[j]? with
  | none =>
   have h1:xs.length≤j:=by simpa using hx
   have h2:xs.length*sz≤j*sz:=ao9 sz h1
   rw [if_neg (by omega)];rfl
  | some x =>
   have hj:=(ac1.1 hx).1
   have h2:(j+1)*sz≤xs.length*sz:=ao9 sz hj
   rw [Nat.succ_mul] at h2
   rw [if_pos (by omega),CL he hx,←OK he hj,List.drop_left,←he x,List.take_left]
   rfl
 ·simp [e,tm]
theorem Oa {A B o v:List lC}{off:Nat}(ho:off+v.length≤o.length):putCells (A++(o++B)) (A.length+off) v=A++(putCells o off v++B):=by
 unfold putCells
 rw [List.take_append,List.take_of_length_le (by omega:A.length≤A.length+off),Nat.add_sub_cancel_left,List.take_append_of_le_length (by omega)]
 rw [Nat.add_assoc,←List.drop_drop,List.drop_left,List.drop_append_of_le_length (by omega)]
 simp
theorem G8 {m:Nat}{v:lC}(Cc:α→α) (he:∀x,(enc x).length=sz) (hb:h[id]?=some (Vc enc sz xs)) (hv:v.cells.length=m) (hm:off+m≤sz) (hz:0<m) (hok:v.cells.all lC.mE=true) (hu:∀x,enc (Cc x)=putCells (enc x) off v.cells) :
  lW m h (.vptr id tot (j*sz+off)) v=tb (xR tot xs j) fun x=>tm (FN tot xs j (Cc x)) fun zs=>h.set id (Vc enc sz zs):=by
 simp only [lW,nV,hb,Vc,xR]
 by_cases e:xs.length=tot
 ·simp only [e,if_true]
  have hl:=vL he xs
  cases hx:xs[j]? with
  | none =>
   have h1:xs.length≤j:=by simpa using hx
   have h2:xs.length*sz≤j*sz:=ao9 sz h1
   rw [if_neg (by omega)];rfl
  | some x =>
   have hj:=(ac1.1 hx).1
   have h2:(j+1)*sz≤xs.length*sz:=ao9 sz hj
   rw [Nat.succ_mul] at h2
   rw [if_pos ⟨hv,by omega,hok⟩]
   simp only [mR,FN,e,true_and]
   rw [if_pos (by omega)]
   simp only [pN,List.length_set,e,ad0]
   congr 2
   have hx2:(xs.set j (Cc x))[j]?=some (Cc x):=by simp [hj]
   have t1:(xs.set j (Cc x)).take j=xs.take j:=by rw [List.take_set_of_le (ai1 _)]
   have t2:(xs.set j (Cc x)).drop (j+1)=xs.drop (j+1):=by rw [List.drop_set_of_lt (by omega)]
   rw [CL he hx,CL he hx2,t1,t2,hu x,←OK he hj,Oa (by rw [hv,he];omega)]
 ·simp [e,tb]
theorem G7 {v:lC}(x:α) (he:∀x,(enc x).length=sz) (hb:h[id]?=some (Vc enc sz xs)) (hz:0<sz) (hok:v.cells.all lC.mE=true) (hu:v.cells=enc x) :
  lW sz h (.vptr id tot (j*sz)) v=tb (xR tot xs j) fun _=>tm (FN tot xs j x) fun zs=>h.set id (Vc enc sz zs):=by
 have:=G8 (tot:=tot) (j:=j) (off:=0) (m:=sz) (v:=v) (fun _=>x) he hb (by rw [hu,he]) (by omega) hz hok (fun y=>by
  unfold putCells
  rw [hu,List.take_zero,ar5,ar4,List.drop_eq_nil_of_le (by rw [he,he];exact ai1 _),List.append_nil])
 simpa using this
theorem Nh:lU sz (.vslice id tot 0 len sz) (.int k i)=tm (MH len i) fun j=>.vptr id tot (j*sz):=by
 simp only [lU,MH]
 by_cases hc:0≤i∧i<(len:Int)
 ·rw [if_pos ⟨hc.1,hc.2,trivial⟩,if_pos hc];simp [tm]
 ·rw [if_neg (fun q=>hc ⟨q.1,q.2.1⟩),if_neg hc];rfl
theorem yM {by_:Nat}{z:α}{zero:List lC}(hz:enc z=zero):qI sz by_ zero (.int k i) h=tm (tmk by_ z i) fun l=>(.vslice h.length l.length 0 l.length sz,h++[Vc enc sz l]):=by
 subst hz
 simp only [qI,tmk]
 split
 ·simp [tm,Vc,Rw]
 ·rfl
theorem GK {by_:Nat}{T:Tok}(he:∀x,(enc x).length=sz) (hz:0<sz) (hb:h[id]?=some (Vc enc sz xs)) (hn:n≤tot) (hy:ys≠[]) :
  n_ sz by_ h (.vslice id tot 0 n sz) (.slice (Rw enc ys) T)=tm (tva by_ tot n xs ys) fun zs=>(.vslice id zs.length 0 (n+ys.length) sz,h.set id (Vc enc sz zs)):=by
 have hr:w9 sz h (.slice (Rw enc ys) T)=some (Rw enc ys):=by simp [Rw,he]
 have hyl:ys.length≠0:=fun e=>hy (aq9 e)
 unfold n_ tva
 simp only [hr,nV,hb,Vc,BO]
 by_cases e:xs.length=tot
 ·simp only [e,if_true,true_and,hn,true_and]
  by_cases hc:(n+ys.length)*by_≤140737488355328∧n+ys.length≤140737488355328
  ·rw [if_pos hc,if_pos hc,if_neg hyl]
   have hl:=vL he xs
   have hly:=vL he ys
   by_cases ht:n+ys.length≤tot
   ·rw [if_pos ht]
    have hlen:(xs.take n++ys++xs.drop (n+ys.length)).length=tot:=by simp;omega
    simp only [pN,hlen,ad0,Prod.mk.injEq,true_and]
    congr 2
    unfold putCells
    rw [hly,←Nat.add_mul,EG he,EF he]
    simp [Rw,List.map_append,List.flatten_append]
   ·rw [if_neg ht]
    have hd:xs.drop (n+ys.length)=[]:=List.drop_eq_nil_of_le (by omega)
    have hlen:(xs.take n++ys++xs.drop (n+ys.length)).length=n+ys.length:=by rw [hd];simp;omega
    simp only [pN,hlen,ad0,Prod.mk.injEq,true_and]
    congr 2
    rw [EG he,hd]
    simp [Rw,List.map_append,List.flatten_append]
  ·rw [if_neg hc,if_neg hc];rfl
 ·simp [e,tm]
attribute [simp] Nh
@[simp] theorem asD {m:Nat}(hi:id<m):lC.nO m h (.vslice id tot off len sz)=.vslice id tot off len sz:=yC hi
@[simp] theorem Jk {m:Nat}(hs:∀x,mW m h (enc x)=some (enc x)):mW m h (Rw enc xs).flatten=some (Rw enc xs).flatten:=by
 have app:∀(a b a' b':List lC),mW m h a=some a'→mW m h b=some b'→mW m h (a++b)=some (a'++b'):=by
  intro a
  induction a with
  | nil=>intro b a' b' h1 h2;simp only [Mq,ad0] at h1;subst h1;exact h2
  | cons v a ih =>
   intro b a' b' h1 h2
   rw [pD] at h1
   rw [List.cons_append,pD]
   cases hc:(lC.nO m h v).mE with
   | false=>rw [hc] at h1;cases h1
   | true =>
    rw [hc] at h1
    simp only [cond_true,Option.map_eq_some_iff] at h1 ⊢
    obtain⟨a2,h3,rfl⟩:=h1
    exact⟨_,ih b a2 b' h3 h2,rfl⟩
 induction xs with
 | nil=>simp [Rw]
 | cons x r ih =>
  simp only [Rw,aq7,List.flatten_cons] at ih ⊢
  exact app _ _ _ _ (hs x) ih
@[simp] theorem E7 {m:Nat}(hs:∀x,mW m h (enc x)=some (enc x)):pC m h (Vc enc sz xs)=some (Vc enc sz xs):=by
 simp only [Vc,QV,Jk hs,Option.map_some]
theorem Mn (hs:∀x,(enc x).flatMap lC.x_=[]):(Vc enc sz xs).refs=[]:=by
 simp only [Vc,mC.refs]
 induction xs with
 | nil=>simp [Rw]
 | cons x r ih =>
  simp only [Rw,aq7,List.flatten_cons,List.flatMap_append] at ih ⊢
  rw [hs x,ih];rfl
theorem QT {f:Nat→Nat}(hs:∀x,(enc x).map (lC.zR f)=enc x):(Vc enc sz xs).uQ f=Vc enc sz xs:=by
 simp only [Vc,mC.uQ]
 congr 1
 induction xs with
 | nil=>simp [Rw]
 | cons x r ih =>
  simp only [Rw,aq7,List.flatten_cons,List.map_append] at ih ⊢
  rw [hs x,ih]
theorem WW {p:Nat→Bool}(hs:∀x,(enc x).all (lC.IS p)=true):(Vc enc sz xs).ok p=true:=by
 simp only [Vc,mC.ok]
 induction xs with
 | nil=>simp [Rw]
 | cons x r ih =>
  simp only [Rw,aq7,List.flatten_cons,List.all_append] at ih ⊢
  rw [hs x,ih];rfl
end
def vld (g:Bool) (n:Nat) (b:Option mC) (tot a:Nat):Option lC:=match b with
 | some (.vec tot' _ cs)=>if tot'=tot then apart g n cs a else none
 | _=>none
def SK (n id:Nat) (h:lD) (b:Option mC) (tot a:Nat) (v:lC):Option lD:=match b with
 | some (.vec tot' sz cs)=>if tot'=tot then(if v.cells.length=n∧a+n≤cs.length∧v.cells.all lC.mE then some (h.set id (.vec tot sz (putCells cs a v.cells))) else none) else none
 | _=>none
section
variable {α:Type}{enc:α→List lC}{sz:Nat}{xs ys:List α}{h:lD}{id n tot len off j a:Nat}{k:IntKind}{i:Int}{g:Bool}{v:lC}
@[simp] theorem vK:lP g n h (.vptr id tot a)=vld g n (h[id]?) tot a:=by
 simp only [lP,nV,vld]
 cases h[id]? with
 | none=>rfl
 | some b=>cases b with
  | vec t s cs=>by_cases e:t=tot <;> simp [e]
  | _=>rfl
@[simp] theorem Tc:lW n h (.vptr id tot a) v=SK n id h (h[id]?) tot a v:=by
 simp only [lW,nV,SK]
 cases h[id]? with
 | none=>rfl
 | some b=>cases b with
  | vec t s cs=>by_cases e:t=tot <;> simp [e]
  | _=>rfl
theorem Sd (b:mC):([b]:lD)[0]?=some b:=rfl
@[simp] theorem aq3 (he:∀x,(enc x).length=sz) (ho:off<sz):vld false 1 (some (Vc enc sz xs)) tot (j*sz+off)=(xR tot xs j).bind fun x=>(enc x)[off]?:=by
 rw [←Sd,←vK];exact Df he rfl ho
@[simp] theorem ak7 (he:∀x,(enc x).length=sz) (ho:0<sz):vld false 1 (some (Vc enc sz xs)) tot (j*sz)=(xR tot xs j).bind fun x=>(enc x)[0]?:=aq3 (off:=0) he ho
@[simp] theorem ak8 (he:∀x,(enc x).length=1):vld false 1 (some (Vc enc 1 xs)) tot j=(xR tot xs j).bind fun x=>(enc x)[0]?:=by
 have:=ak7 (xs:=xs) (tot:=tot) (j:=j) he (by omega);rwa [Nat.mul_one] at this
@[simp] theorem ak9 (he:∀x,(enc x).length=sz) (hz:0<sz):vld true sz (some (Vc enc sz xs)) tot (j*sz)=tm (xR tot xs j) fun x=>.agg (enc x):=by
 rw [←Sd,←vK];exact SZ he rfl hz
@[simp] theorem an1 {β:Type}{f:α→Option β}:(xR n xs j).bind f=tb (xR n xs j) f:=rfl
theorem aq4 {m:Nat}(Cc:α→α) (hb:h[id]?=some (Vc enc sz xs)) (he:∀x,(enc x).length=sz) (hv:v.cells.length=m) (hm:off+m≤sz) (hz:0<m) (hok:v.cells.all lC.mE=true) (hu:∀x,enc (Cc x)=putCells (enc x) off v.cells) :
  SK m id h (some (Vc enc sz xs)) tot (j*sz+off) v=tb (xR tot xs j) fun x=>tm (FN tot xs j (Cc x)) fun zs=>h.set id (Vc enc sz zs):=by
 rw [←hb,←Tc];exact G8 Cc he hb hv hm hz hok hu
theorem Rr {m:Nat}(Cc:α→α) (he:∀x,(enc x).length=sz) (hv:v.cells.length=m) (hm:off+m≤sz) (hz:0<m) (hok:v.cells.all lC.mE=true) (hu:∀x,enc (Cc x)=putCells (enc x) off v.cells) :
  SK m id h (some (Vc enc sz xs)) tot (j*sz+off) v=tb (xR tot xs j) fun x=>tm (FN tot xs j (Cc x)) fun zs=>h.set id (Vc enc sz zs):=by
 have key:=aq4 (h:=[Vc enc sz xs]) (id:=0) (tot:=tot) (j:=j) Cc rfl he hv hm hz hok hu
 unfold SK Vc at key ⊢
 simp only at key ⊢
 by_cases e:xs.length=tot
 ·simp only [e,if_true] at key ⊢
  by_cases c:v.cells.length=m∧j*sz+off+m≤(Rw enc xs).flatten.length∧v.cells.all lC.mE=true
  ·rw [if_pos c] at key ⊢
   cases ht:xR tot xs j with
   | none=>rw [ht] at key;cases key
   | some x =>
    rw [ht] at key
    simp only [mR] at key ⊢
    cases hs:FN tot xs j (Cc x) with
    | none=>rw [hs] at key;cases key
    | some zs =>
     rw [hs] at key
     simp only [pN,List.set_cons_zero,ad0,List.cons.injEq,and_true] at key ⊢
     rw [key]
  ·rw [if_neg c] at key ⊢
   cases ht:xR tot xs j with
   | none=>rfl
   | some x =>
    rw [ht] at key
    simp only [mR] at key ⊢
    cases hs:FN tot xs j (Cc x) with
    | none=>rfl
    | some zs=>rw [hs] at key;cases key
 ·simp [e,xR,tb]
theorem XR (x:α) (he:∀x,(enc x).length=sz) (hz:0<sz) (hok:v.cells.all lC.mE=true) (hu:v.cells=enc x) :
  SK sz id h (some (Vc enc sz xs)) tot (j*sz) v=tb (xR tot xs j) fun _=>tm (FN tot xs j x) fun zs=>h.set id (Vc enc sz zs):=by
 have:=Rr (h:=h) (id:=id) (tot:=tot) (j:=j) (off:=0) (m:=sz) (v:=v) (xs:=xs) (fun _=>x) he (by rw [hu,he]) (by omega) hz hok (fun y=>by
  unfold putCells
  rw [hu,List.take_zero,ar5,ar4,List.drop_eq_nil_of_le (by rw [he,he];exact ai1 _),List.append_nil])
 simpa using this
def tvp {α:Type}(by_ n:Nat) (xs ys:List α):Option (List α):=if xs.length=n∧(n+ys.length)*by_≤140737488355328∧n+ys.length≤140737488355328 then some (xs++ys) else none
def vap (sz by_ id:Nat) (h:lD) (b:Option mC) (tot n:Nat) (new:List (List lC)):Option (lC×lD):=match b with
 | some (.vec tot' sz1 cs)=>if tot'=tot then(if sz1=sz∧(n+new.length)*by_≤140737488355328∧n+new.length≤140737488355328
   then(if new.length=0 then some (.vslice id tot 0 n sz,h)
    else if n+new.length≤tot then some (.vslice id tot 0 (n+new.length) sz,h.set id (.vec tot sz (putCells cs (n*sz) new.flatten)))
    else some (.vslice id (n+new.length) 0 (n+new.length) sz,h.set id (.vec (n+new.length) sz (cs.take (n*sz)++new.flatten)))) else none) else none
 | _=>none
@[simp] theorem O4 {by_:Nat}{T:Tok}(he:∀x,(enc x).length=sz):n_ sz by_ h (.vslice id tot 0 n sz) (.slice (Rw enc ys) T)=vap sz by_ id h (h[id]?) tot n (Rw enc ys):=by
 have hr:w9 sz h (.slice (Rw enc ys) T)=some (Rw enc ys):=by simp [Rw,he]
 unfold n_ vap
 simp only [hr,nV]
 cases h[id]? with
 | none=>rfl
 | some b=>cases b with
  | vec t s cs=>by_cases e:t=tot <;> simp [e]
  | _=>rfl
@[simp] theorem aq2 {by_:Nat}(he:∀x,(enc x).length=sz) (hy:ys≠[]):vap sz by_ id h (some (Vc enc sz xs)) n n (Rw enc ys)=tm (tvp by_ n xs ys) fun zs=>(.vslice id zs.length 0 zs.length sz,h.set id (Vc enc sz zs)):=by
 have hyl:ys.length≠0:=fun e=>hy (aq9 e)
 simp only [vap,Vc,tvp,BO]
 by_cases e:xs.length=n
 ·simp only [e,if_true,true_and]
  by_cases hc:(n+ys.length)*by_≤140737488355328∧n+ys.length≤140737488355328
  ·rw [if_pos hc,if_pos hc,if_neg hyl,if_neg (by omega)]
   have ht:(Rw enc xs).flatten.take (n*sz)=(Rw enc xs).flatten:=List.take_of_length_le (by rw [vL he,e];exact ai1 _)
   rw [ht]
   simp [tm,e,Rw]
  ·rw [if_neg hc,if_neg hc];rfl
 ·simp [e,tm]
end
theorem xL {α:Type}{P:Program}{A:wC}{f:Nat}{args args':List lC}{h hs:lD}{ids:List Nat}{x:Option α}{v v':α→lC}{h1 h2:α→lD}{m:Option (nB×lD)}(hp:A.pure f=false) (hsub:A.sub f=true)
  (hr:reach h args=ids) (ho:J8 ids args h=true) (ha:args.map (lC.uQ (Ai ids))=args') (hh:xQ ids h=hs)
  (he:qG P A mX (IQ P A) f args' hs=m) (hk:m=tm x fun r=>(.ret (v r),h1 r)) (hb:∀r,Gt ids h (.ret (v r),h1 r)=some (.ret (v' r),h2 r)) :
  mH A (IQ P A) f args h=tm x fun r=>(.ret (v' r),h2 r):=by
 simp only [mH,hp,hsub,cond_true,cond_false,akI,hr,Xu,ho,ha,hh,KV,he,hk]
 cases x with
 | none=>rfl
 | some r=>exact hb r
@[simp] theorem auS {m:Nat}{v:lC}{h:lD}:nJ m v h=(oD m h).map fun h'=>(.ret (v.pV m h).lL,h'):=(rfl)
attribute [simp] C3
attribute [simp] reach KS KF lC.refs lC.x_ uA J8 xQ Gt lC.uQ lC.zR lC.ok lC.IS nB.uQ nB.ok Ai sU x8 Mn QT WW
section
variable {cs:List lC}{t z:Nat}{es:List (lC×lC)}{f:Nat→Nat}{p:Nat→Bool}
@[simp] theorem aj4:(mC.cells cs).refs=cs.flatMap lC.x_:=(rfl)
@[simp] theorem ap9:(mC.vec t z cs).refs=cs.flatMap lC.x_:=(rfl)
@[simp] theorem ap8:(mC.map es).refs=es.flatMap fun e=>e.2.x_:=(rfl)
@[simp] theorem aj5:(mC.front t z).refs=[]:=(rfl)
@[simp] theorem amL:mC.free.refs=[]:=(rfl)
@[simp] theorem amM:mC.gone.refs=[]:=(rfl)
@[simp] theorem amN:(mC.cells cs).uQ f=.cells (cs.map (lC.zR f)):=(rfl)
@[simp] theorem asC:(mC.vec t z cs).uQ f=.vec t z (cs.map (lC.zR f)):=(rfl)
@[simp] theorem asB:(mC.map es).uQ f=.map (es.map fun e=>(e.1,e.2.zR f)):=(rfl)
@[simp] theorem amO:(mC.front t z).uQ f=.front t z:=(rfl)
@[simp] theorem aqA:mC.free.uQ f=.free:=(rfl)
@[simp] theorem aqB:mC.gone.uQ f=.gone:=(rfl)
@[simp] theorem apD:(mC.cells cs).ok p=cs.all (lC.IS p):=(rfl)
@[simp] theorem avU:(mC.vec t z cs).ok p=cs.all (lC.IS p):=(rfl)
@[simp] theorem avT:(mC.map es).ok p=es.all fun e=>e.2.IS p:=(rfl)
@[simp] theorem apE:(mC.front t z).ok p=true:=(rfl)
@[simp] theorem ar8:mC.free.ok p=true:=(rfl)
@[simp] theorem ar9:mC.gone.ok p=true:=(rfl)
end
@[simp] theorem ap7 {sz n:Nat}:(oK sz n).refs=[]:=(rfl)
@[simp] theorem asA {sz n:Nat}{f:Nat→Nat}:(oK sz n).uQ f=oK sz n:=(rfl)
@[simp] theorem avS {sz n:Nat}{p:Nat→Bool}:(oK sz n).ok p=true:=(rfl)
@[simp] theorem X0 {α:Type}{enc:α→List lC}{sz by_:Nat}{h:lD}{ys:List α}{T:Tok}{k:lC→lD→Option R}(he:∀x,(enc x).length=sz) :
  lQ (nC sz by_ h (.slice (Rw enc []) .nil) (.slice (Rw enc ys) T)) k=tc ys.isEmpty (k (.slice (Rw enc []) .nil) h) (tb (p7 by_ [] ys) fun zs=>k (.slice (Rw enc zs) (.own h.length)) (h++[oK sz zs.length])):=by
 have hr:qS sz h (.slice (Rw enc ys) T)=some (Rw enc ys):=by simp [Rw,he]
 have e0:Rw enc ([]:List α)=[]:=rfl
 unfold nC
 rw [e0]
 simp only [hr,BO]
 cases ys with
 | nil=>rfl
 | cons y r =>
  simp only [List.isEmpty_cons,pS,p7,List.length_nil,ar4,ar5]
  rw [if_neg (by simp)]
  split
  ·simp [oK,lQ,tb]
  ·rfl
@[simp] theorem adC {α:Type}{enc:α→List lC}{h:lD}{rows:List (List lC)}:sX h (.slice rows .no) (.slice (Rw enc []) .nil)=.slice (Rw enc []) .nil:=Pu
@[simp] theorem adB {α:Type}{enc:α→List lC}{h:lD}:sX h (.slice (Rw enc []) .nil) (.slice (Rw enc []) .nil)=.slice (Rw enc []) .nil:=(rfl)
def Vs (id sz n:Nat):lC:=if n=0 then .slice [] (.own id) else .vslice id n 0 n sz
def Vb {α:Type}(enc:α→List lC) (sz:Nat) (xs:List α):mC:=if xs.length=0 then .front 0 0 else .vec xs.length sz (Rw enc xs).flatten
@[simp] theorem O5 {α:Type}{enc:α→List lC}{sz by_ id:Nat}{h:lD}{xs ys:List α}{T:Tok}(he:∀x,(enc x).length=sz) (hy:ys≠[]) (hb:h[id]?=some (Vb enc sz xs)) :
  n_ sz by_ h (Vs id sz xs.length) (.slice (Rw enc ys) T)=tm (p7 by_ xs ys) fun zs=>(.vslice id zs.length 0 zs.length sz,h.set id (Vc enc sz zs)):=by
 have hyl:ys.length≠0:=fun e=>hy (aq9 e)
 by_cases h0:xs.length=0
 ·have x0:xs=[]:=aq9 h0
  subst x0
  have hr:w9 sz h (.slice (Rw enc ys) T)=some (Rw enc ys):=by simp [Rw,he]
  have hb':h[id]?=some (.front 0 0):=hb
  have hv:Vs id sz ([]:List α).length=.slice [] (.own id):=rfl
  rw [hv]
  unfold n_ p7
  simp only [hr,hb',BO,List.length_nil,ar4,ar5]
  split
  ·simp [tm,Vc]
  ·rfl
 ·have hv:Vs id sz xs.length=.vslice id xs.length 0 xs.length sz:=if_neg h0
  have hb':h[id]?=some (Vc enc sz xs):=by rw [hb];unfold Vb;rw [if_neg h0];rfl
  rw [hv,O4 he,hb',aq2 he hy]
  simp [tvp,p7]
theorem Ni {id sz n:Nat}:mP (Vs id sz n)=some (.int .i64 (n:Int)):=by
 unfold Vs;split
 ·rename_i h;subst h;rfl
 ·rfl
attribute [simp] Ni
end
end Hk
