/-
  The texts Vk.Ty, one behind another. No conditions.
-/
import Derived.Test.YtlddmnojanpdoaaGreatDoorVk3
set_option linter.unusedVariables false
set_option linter.unusedSimpArgs false
set_option linter.all false
namespace Hk
section
open Go
def tb {α β:Type}(x:Option α) (f:α→Option β):Option β:=x.bind f
def tm {α β:Type}(x:Option α) (f:α→β):Option β:=x.map f
def tc {α:Type}(c:Bool) (x y:Option α):Option α:=bif c then x else y
section
variable {α β γ:Type}
@[simp] theorem atK {x:Option α}{f:α→β}{k:β→Option γ}:(tm x f).bind k=tb x fun a=>k (f a):=by cases x <;> rfl
@[simp] theorem atI {x:Option α}{f:α→Option β}{k:β→Option γ}:(tb x f).bind k=tb x fun a=>(f a).bind k:=by cases x <;> rfl
@[simp] theorem atJ {c:Bool}{x y:Option β}{k:β→Option γ}:(tc c x y).bind k=tc c (x.bind k) (y.bind k):=by cases c <;> rfl
@[simp] theorem aAs {x:Option α}{f:α→Option β}{g:β→γ}:tm (tb x f) g=tb x fun a=>tm (f a) g:=by cases x <;> rfl
@[simp] theorem aAt {c:Bool}{x y:Option β}{g:β→γ}:tm (tc c x y) g=tc c (tm x g) (tm y g):=by cases c <;> rfl
@[simp] theorem auZ {x y:Option α}:tc true x y=x:=(rfl)
@[simp] theorem Xw {x y:Option α}:tc false x y=y:=(rfl)
@[simp] theorem agG {x:Option α}{f:α→kH}{h:α→kL}{kv kp:kH→kL→Option R}:kM (tm x fun a=>(.ret (f a),h a)) kv kp=tb x fun a=>kv (f a) (h a):=by cases x <;> rfl
@[congr] theorem auY {c c':Bool}{x x' y y':Option α}(h:c=c') (hx:c'=true→x=x') (hy:c'=false→y=y'):tc c x y=tc c' x' y':=by
 subst h; cases c <;> simp [tc,hx,hy]
end
inductive Ey where
 | n | r | x (id:Nat)
 deriving Inhabited
def Ey.ex:Ey→Ex
 | .n=>.normal
 | .r=>.ret
 | .x i=>.exit i
@[simp] theorem Ey.awS {e:Ey}{m:Nat}{h:kL}:Ex.vL m h e.ex=e.ex:=by cases e <;> rfl
def Pv {α:Type}(e:Ey) (kn:Option α) (ke:Ey→Option α):Option α:=match e with
 | .n=>kn
 | e=>ke e
def Yb {α:Type}(id:Nat) (e:Ey) (kn:Option α) (ke:Ey→Option α):Option α:=match e with
 | .n=>kn
 | .x j=>bif j == id then kn else ke (.x j)
 | e=>ke e
def nrT {α:Type}(e:Ey) (kn:Option α):Option α:=match e with
 | .n=>kn
 | _=>none
def efT {α:Type}(e:Ey) (x:Option α):Option α:=match e with
 | .n=>x
 | .r=>x
 | _=>none
section
variable {α β:Type}{e:Ey}{i j:Nat}
@[simp] theorem asE {kn:Option R}{ke:Ex→Option R}:Ex.lW e.ex kn ke=Pv e kn fun e=>ke e.ex:=by cases e <;> rfl
@[simp] theorem am5 {kn:Option R}{ke:Ex→Option R}:Ex.inBlock i e.ex kn ke=Yb i e kn fun e=>ke e.ex:=by cases e <;> rfl
@[simp] theorem az5 {kn:Option R}:Ex.sO e.ex kn=nrT e kn:=by cases e <;> rfl
@[simp] theorem awR {x:Option (nH×kL)}:Ex.mX e.ex x=efT e x:=by cases e <;> rfl
@[simp] theorem aoM {kn:Option α}{ke:Ey→Option α}{k:α→Option β}:(Pv e kn ke).bind k=Pv e (kn.bind k) fun e=>(ke e).bind k:=by cases e <;> rfl
@[simp] theorem aoO {kn:Option α}{k:α→Option β}:(nrT e kn).bind k=nrT e (kn.bind k):=by cases e <;> rfl
@[simp] theorem aoL {kn:Option α}{k:α→Option β}:(efT e kn).bind k=efT e (kn.bind k):=by cases e <;> rfl
@[simp] theorem ayK {kn:Option α}{ke:Ey→Option α}{k:α→β}:tm (Pv e kn ke) k=Pv e (tm kn k) fun e=>tm (ke e) k:=by cases e <;> rfl
@[simp] theorem ayM {kn:Option α}{k:α→β}:tm (nrT e kn) k=nrT e (tm kn k):=by cases e <;> rfl
@[simp] theorem ayJ {kn:Option α}{k:α→β}:tm (efT e kn) k=efT e (tm kn k):=by cases e <;> rfl
end
def ld (g:Bool) (n:Nat) (h:kL) (a:kH) (k:kH→Option R):Option R:=(kO g n h a).bind k
def fa (o:Nat) (a:kH) (k:kH→Option R):Option R:=(kJ o a).bind k
def ix (sz:Nat) (s i:kH) (k:kH→Option R):Option R:=(k9 sz s i).bind k
def bo (op:BinOp) (a b:kH) (k:kH→Option R):Option R:=(kR op a b).bind k
def ln (s:kH) (k:kH→Option R):Option R:=(mS s).bind k
def gS (w:Bool) (g:kH) (x:Option R) (h:kL) (k:kH→kL→Option R):Option R:=(kI w g x (kQ (.tuple []) h)).bind (kP k fun _ _=>none)
def ca (x:Option (nH×kL)) (k:kH→kL→Option R):Option R:=kM x k fun _ _=>none
section
variable {g:Bool}{n o sz:Nat}{h:kL}{a b s i:kH}{k:kH→Option R}{kh:kH→kL→Option R}{w:Bool}{l:List kH}{m:Nat}{op:BinOp}{x:Option R}{y:Option (nH×kL)}
@[congr] theorem at1 {a':kH}{h':kL}(e:a=a') (e2:h=h'):ld g n h a k=ld g n h' a' k:=by rw [e,e2]
@[congr] theorem atW {a':kH}(e:a=a'):fa o a k=fa o a' k:=by rw [e]
@[congr] theorem atZ {s' i':kH}(e:s=s') (e2:i=i'):ix sz s i k=ix sz s' i' k:=by rw [e,e2]
@[congr] theorem atL {a' b':kH}(e:a=a') (e2:b=b'):bo op a b k=bo op a' b' k:=by rw [e,e2]
@[congr] theorem at2 {s':kH}(e:s=s'):ln s k=ln s' k:=by rw [e]
@[congr] theorem atX {a':kH}{h':kL}(e:a=a') (e2:h=h'):gS w a x h kh=gS w a' x h' kh:=by rw [e,e2]
@[congr] theorem atQ {y':Option (nH×kL)}(e:y=y'):ca y kh=ca y' kh:=by rw [e]
end
section
variable {k k':IntKind}{a b:Int}{s t:List UInt8}{α:Type}{enc:α→List kH}{xs ys:List α}{sz:Nat}{T T':Tok}{x y:Bool}
@[simp] theorem amK:lL (.bool x) (.int k a) (.int k b)=some (.int k (bif x then a else b)):=by cases x <;> rfl
@[simp] theorem adM {u v:Bool}:lL (.bool x) (.bool u) (.bool v)=some (.bool (bif x then u else v)):=by cases x <;> rfl
@[simp] theorem amL:lL (.bool x) (.str s) (.str t)=some (.str (bif x then s else t)):=by cases x <;> rfl
@[simp] theorem amN {x:Option α}{f:α→kH×kL}{kv:kH→kL→Option R}:kS (tm x f) kv=tb x fun a=>kv (f a).1 (f a).2:=by cases x <;> rfl
@[simp] theorem agB {id:Nat}{rows:List (List kH)}{r:List kH}:lC id (.slice rows .no::r)=(.slice rows .no::(lC id r).1,(lC id r).2):=by cases rows <;> rfl
@[simp] theorem adK {id j:Nat}{rows:List (List kH)}{r:List kH}:lC id (.slice rows (.own j)::r)=(.slice rows (.own j)::(lC id r).1,(lC id r).2):=by cases rows <;> rfl
end
@[simp] theorem ahR {w c:Bool}{x y:Option R}:kI w (.bool c) x y=bif w then tc c x y else tc c y x:=by cases w <;> rfl
attribute [simp] lO lC putCells lR sM apart
@[simp] theorem R0 {m:Nat}{h:kL}:l_ m h=nA m h (h.take m):=(rfl)
attribute [simp] lD kK
def JR {α:Type}(n:Nat) (xs:List α) (j:Nat):Option α:=if xs.length=n then xs[j]? else none
section
variable {α:Type}{enc:α→List kH}{sz:Nat}{xs ys:List α}{h:kL}{id n tot len off j:Nat}{k:IntKind}{i:Int}
end
section
variable {α:Type}{enc:α→List kH}{sz:Nat}{xs ys:List α}{h:kL}{id n tot len off j a:Nat}{k:IntKind}{i:Int}{g:Bool}{v:kH}
@[simp] theorem aoP {β:Type}{f:α→Option β}:(JR n xs j).bind f=tb (JR n xs j) f:=rfl
end
@[simp] theorem awT {m:Nat}{v:kH}{h:kL}:lZ m v h=(l_ m h).map fun h'=>(.ret (v.vL m h).kN,h'):=(rfl)
attribute [simp] reach Pp addN kH.refs kH.C_ qO Xu acN MR kH.Kp kH.F8 kH.ok kH.TA nH.Kp nH.ok SX Dp MG
section
variable {cs:List kH}{t z:Nat}{es:List (kH×kH)}{f:Nat→Nat}{p:Nat→Bool}
end
end
end Hk
