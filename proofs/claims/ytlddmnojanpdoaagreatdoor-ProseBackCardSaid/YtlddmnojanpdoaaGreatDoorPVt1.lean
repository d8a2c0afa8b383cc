/-
  The texts Vk.Ty, one behind another. No conditions.
-/
import Derived.Test.YtlddmnojanpdoaaGreatDoorPVk3
set_option linter.unusedVariables false
set_option linter.unusedSimpArgs false
set_option linter.all false
namespace Hk
section
open Go
def tb {α β:Type}(x:Option α) (f:α→Option β):Option β:=x.bind f
def tm {α β:Type}(x:Option α) (f:α→β):Option β:=x.map f
def tc {α:Type}(c:Bool) (x y:Option α):Option α:=bif c then x else y
section
variable {α β γ:Type}
@[simp] theorem aCe {x:Option α}{f:α→β}{k:β→Option γ}:(tm x f).bind k=tb x fun a=>k (f a):=by cases x <;> rfl
@[simp] theorem aCc {x:Option α}{f:α→Option β}{k:β→Option γ}:(tb x f).bind k=tb x fun a=>(f a).bind k:=by cases x <;> rfl
@[simp] theorem aCd {c:Bool}{x y:Option β}{k:β→Option γ}:(tc c x y).bind k=tc c (x.bind k) (y.bind k):=by cases c <;> rfl
@[simp] theorem aGu {x:Option α}{f:α→Option β}{g:β→γ}:tm (tb x f) g=tb x fun a=>tm (f a) g:=by cases x <;> rfl
@[simp] theorem aGv {c:Bool}{x y:Option β}{g:β→γ}:tm (tc c x y) g=tc c (tm x g) (tm y g):=by cases c <;> rfl
@[simp] theorem aC1 {x y:Option α}:tc true x y=x:=(rfl)
@[simp] theorem ap1 {x:Option α}{f:α→kP}{h:α→kT}{kv kp:kP→kT→Option R}:kU (tm x fun a=>(.ret (f a),h a)) kv kp=tb x fun a=>kv (f a) (h a):=by cases x <;> rfl
@[congr] theorem aC0 {c c':Bool}{x x' y y':Option α}(h:c=c') (hx:c'=true→x=x') (hy:c'=false→y=y'):tc c x y=tc c' x' y':=by
 subst h; cases c <;> simp [tc,hx,hy]
end
inductive Ey where
 | n | r | x (id:Nat)
 deriving Inhabited
def Ey.ex:Ey→Ex
 | .n=>.normal
 | .r=>.ret
 | .x i=>.exit i
@[simp] theorem Ey.aD3 {e:Ey}{m:Nat}{h:kT}:Ex.xR m h e.ex=e.ex:=by cases e <;> rfl
def TD {α:Type}(e:Ey) (kn:Option α) (ke:Ey→Option α):Option α:=match e with
 | .n=>kn
 | e=>ke e
def ibT {α:Type}(id:Nat) (e:Ey) (kn:Option α) (ke:Ey→Option α):Option α:=match e with
 | .n=>kn
 | .x j=>bif j == id then kn else ke (.x j)
 | e=>ke e
def nrT {α:Type}(e:Ey) (kn:Option α):Option α:=match e with
 | .n=>kn
 | _=>none
def efT {α:Type}(e:Ey) (x:Option α):Option α:=match e with
 | .n=>x
 | .r=>x
 | _=>none
section
variable {α β:Type}{e:Ey}{i j:Nat}
@[simp] theorem aBy {kn:Option R}{ke:Ex→Option R}:Ex.mG e.ex kn ke=TD e kn fun e=>ke e.ex:=by cases e <;> rfl
@[simp] theorem aw4 {kn:Option R}{ke:Ex→Option R}:Ex.inBlock i e.ex kn ke=ibT i e kn fun e=>ke e.ex:=by cases e <;> rfl
@[simp] theorem aF7 {kn:Option R}:Ex.uJ e.ex kn=nrT e kn:=by cases e <;> rfl
@[simp] theorem aD1 {x:Option (n_×kT)}:Ex.nP e.ex x=efT e x:=by cases e <;> rfl
@[simp] theorem ayJ {kn:Option α}{ke:Ey→Option α}{k:α→Option β}:(TD e kn ke).bind k=TD e (kn.bind k) fun e=>(ke e).bind k:=by cases e <;> rfl
@[simp] theorem ayL {kn:Option α}{k:α→Option β}:(nrT e kn).bind k=nrT e (kn.bind k):=by cases e <;> rfl
@[simp] theorem ayI {kn:Option α}{k:α→Option β}:(efT e kn).bind k=efT e (kn.bind k):=by cases e <;> rfl
@[simp] theorem aFa {kn:Option α}{ke:Ey→Option α}{k:α→β}:tm (TD e kn ke) k=TD e (tm kn k) fun e=>tm (ke e) k:=by cases e <;> rfl
@[simp] theorem aFc {kn:Option α}{k:α→β}:tm (nrT e kn) k=nrT e (tm kn k):=by cases e <;> rfl
@[simp] theorem aE9 {kn:Option α}{k:α→β}:tm (efT e kn) k=efT e (tm kn k):=by cases e <;> rfl
end
def ld (g:Bool) (n:Nat) (h:kT) (a:kP) (k:kP→Option R):Option R:=(kW g n h a).bind k
def fa (o:Nat) (a:kP) (k:kP→Option R):Option R:=(kR o a).bind k
def ix (sz:Nat) (s i:kP) (k:kP→Option R):Option R:=(lH sz s i).bind k
def bo (op:BinOp) (a b:kP) (k:kP→Option R):Option R:=(kZ op a b).bind k
def ln (s:kP) (k:kP→Option R):Option R:=(nH s).bind k
def gS (w:Bool) (g:kP) (x:Option R) (h:kT) (k:kP→kT→Option R):Option R:=(kQ w g x (kY (.tuple []) h)).bind (kX k fun _ _=>none)
def ca (x:Option (n_×kT)) (k:kP→kT→Option R):Option R:=kU x k fun _ _=>none
section
variable {g:Bool}{n o sz:Nat}{h:kT}{a b s i:kP}{k:kP→Option R}{kh:kP→kT→Option R}{w:Bool}{l:List kP}{m:Nat}{op:BinOp}{x:Option R}{y:Option (n_×kT)}
@[congr] theorem aCv {a':kP}{h':kT}(e:a=a') (e2:h=h'):ld g n h a k=ld g n h' a' k:=by rw [e,e2]
@[congr] theorem aCq {a':kP}(e:a=a'):fa o a k=fa o a' k:=by rw [e]
@[congr] theorem aCt {s' i':kP}(e:s=s') (e2:i=i'):ix sz s i k=ix sz s' i' k:=by rw [e,e2]
@[congr] theorem aCf {a' b':kP}(e:a=a') (e2:b=b'):bo op a b k=bo op a' b' k:=by rw [e,e2]
@[congr] theorem aCw {s':kP}(e:s=s'):ln s k=ln s' k:=by rw [e]
@[congr] theorem aCr {a':kP}{h':kT}(e:a=a') (e2:h=h'):gS w a x h kh=gS w a' x h' kh:=by rw [e,e2]
@[congr] theorem aCk {y':Option (n_×kT)}(e:y=y'):ca y kh=ca y' kh:=by rw [e]
end
section
variable {k k':IntKind}{a b:Int}{s t:List UInt8}{α:Type}{enc:α→List kP}{xs ys:List α}{sz:Nat}{T T':Tok}{x y:Bool}
@[simp] theorem awK:lV (.bool x) (.int k a) (.int k b)=some (.int k (bif x then a else b)):=by cases x <;> rfl
@[simp] theorem amZ {u v:Bool}:lV (.bool x) (.bool u) (.bool v)=some (.bool (bif x then u else v)):=by cases x <;> rfl
@[simp] theorem awL:lV (.bool x) (.str s) (.str t)=some (.str (bif x then s else t)):=by cases x <;> rfl
@[simp] theorem awN {x:Option α}{f:α→kP×kT}{kv:kP→kT→Option R}:k9 (tm x f) kv=tb x fun a=>kv (f a).1 (f a).2:=by cases x <;> rfl
@[simp] theorem apW {id:Nat}{rows:List (List kP)}{r:List kP}:lL id (.slice rows .no::r)=(.slice rows .no::(lL id r).1,(lL id r).2):=by cases rows <;> rfl
@[simp] theorem amX {id j:Nat}{rows:List (List kP)}{r:List kP}:lL id (.slice rows (.own j)::r)=(.slice rows (.own j)::(lL id r).1,(lL id r).2):=by cases rows <;> rfl
end
@[simp] theorem arB {w c:Bool}{x y:Option R}:kQ w (.bool c) x y=bif w then tc c x y else tc c y x:=by cases w <;> rfl
attribute [simp] lZ lL putCells l_ uH apart
@[simp] theorem Wh {m:Nat}{h:kT}:mI m h=nX m h (h.take m):=(rfl)
attribute [simp] lN kS
def MS {α:Type}(n:Nat) (xs:List α) (j:Nat):Option α:=if xs.length=n then xs[j]? else none
section
variable {α:Type}{enc:α→List kP}{sz:Nat}{xs ys:List α}{h:kT}{id n tot len off j:Nat}{k:IntKind}{i:Int}
end
section
variable {α:Type}{enc:α→List kP}{sz:Nat}{xs ys:List α}{h:kT}{id n tot len off j a:Nat}{k:IntKind}{i:Int}{g:Bool}{v:kP}
@[simp] theorem ayM {β:Type}{f:α→Option β}:(MS n xs j).bind f=tb (MS n xs j) f:=rfl
end
@[simp] theorem aD4 {m:Nat}{v:kP}{h:kT}:mJ m v h=(mI m h).map fun h'=>(.ret (v.xR m h).kV,h'):=(rfl)
attribute [simp] reach Tx addN kP.refs kP.EM sV aeJ alW Qw kP.Ny kP.IC kP.ok kP.X_ n_.Ny n_.ok Xr E6 Qj
section
variable {cs:List kP}{t z:Nat}{es:List (kP×kP)}{f:Nat→Nat}{p:Nat→Bool}
end
end
end Hk
