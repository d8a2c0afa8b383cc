/-
  The texts Vk.Ty, one behind another. No conditions.
-/
import Derived.Test.YtlddmnojanpdoaaGreatDoorPVk3
set_option linter.unusedVariables false
set_option linter.unusedSimpArgs false
set_option linter.all false
namespace Hk
section
open Go
def tb {α β:Type}(x:Option α) (f:α→Option β):Option β:=x.bind f
def tm {α β:Type}(x:Option α) (f:α→β):Option β:=x.map f
def tc {α:Type}(c:Bool) (x y:Option α):Option α:=bif c then x else y
section
variable {α β γ:Type}
@[simp] theorem aHv {x:Option α}{f:α→β}{k:β→Option γ}:(tm x f).bind k=tb x fun a=>k (f a):=by cases x <;> rfl
@[simp] theorem aHt {x:Option α}{f:α→Option β}{k:β→Option γ}:(tb x f).bind k=tb x fun a=>(f a).bind k:=by cases x <;> rfl
@[simp] theorem aHu {c:Bool}{x y:Option β}{k:β→Option γ}:(tc c x y).bind k=tc c (x.bind k) (y.bind k):=by cases c <;> rfl
@[simp] theorem aMo {x:Option α}{f:α→Option β}{g:β→γ}:tm (tb x f) g=tb x fun a=>tm (f a) g:=by cases x <;> rfl
@[simp] theorem aMp {c:Bool}{x y:Option β}{g:β→γ}:tm (tc c x y) g=tc c (tm x g) (tm y g):=by cases c <;> rfl
@[simp] theorem aIg {x y:Option α}:tc true x y=x:=(rfl)
@[simp] theorem akO {x y:Option α}:tc false x y=y:=(rfl)
@[simp] theorem ax4 {x:Option α}{f:α→kM}{h:α→kP}{kv kp:kM→kP→Option R}:kV (tm x fun a=>(.ret (f a),h a)) kv kp=tb x fun a=>kv (f a) (h a):=by cases x <;> rfl
@[congr] theorem aIf {c c':Bool}{x x' y y':Option α}(h:c=c') (hx:c'=true→x=x') (hy:c'=false→y=y'):tc c x y=tc c' x' y':=by
 subst h; cases c <;> simp [tc,hx,hy]
end
inductive Ey where
 | n | r | x (id:Nat)
 deriving Inhabited
def Ey.ex:Ey→Ex
 | .n=>.normal
 | .r=>.ret
 | .x i=>.exit i
@[simp] theorem Ey.aJF {e:Ey}{m:Nat}{h:kP}:Ex.vK m h e.ex=e.ex:=by cases e <;> rfl
def Wl {α:Type}(e:Ey) (kn:Option α) (ke:Ey→Option α):Option α:=match e with
 | .n=>kn
 | e=>ke e
def ibT {α:Type}(id:Nat) (e:Ey) (kn:Option α) (ke:Ey→Option α):Option α:=match e with
 | .n=>kn
 | .x j=>bif j == id then kn else ke (.x j)
 | e=>ke e
def nrT {α:Type}(e:Ey) (kn:Option α):Option α:=match e with
 | .n=>kn
 | _=>none
def efT {α:Type}(e:Ey) (x:Option α):Option α:=match e with
 | .n=>x
 | .r=>x
 | _=>none
section
variable {α β:Type}{e:Ey}{i j:Nat}
@[simp] theorem aGM {kn:Option R}{ke:Ex→Option R}:Ex.lW e.ex kn ke=Wl e kn fun e=>ke e.ex:=by cases e <;> rfl
@[simp] theorem aDh {kn:Option R}{ke:Ex→Option R}:Ex.inBlock i e.ex kn ke=ibT i e kn fun e=>ke e.ex:=by cases e <;> rfl
@[simp] theorem aL1 {kn:Option R}:Ex.uB e.ex kn=nrT e kn:=by cases e <;> rfl
@[simp] theorem aJE {x:Option (nO×kP)}:Ex.nA e.ex x=efT e x:=by cases e <;> rfl
@[simp] theorem aEh {kn:Option α}{ke:Ey→Option α}{k:α→Option β}:(Wl e kn ke).bind k=Wl e (kn.bind k) fun e=>(ke e).bind k:=by cases e <;> rfl
@[simp] theorem aEj {kn:Option α}{k:α→Option β}:(nrT e kn).bind k=nrT e (kn.bind k):=by cases e <;> rfl
@[simp] theorem aEg {kn:Option α}{k:α→Option β}:(efT e kn).bind k=efT e (kn.bind k):=by cases e <;> rfl
@[simp] theorem aKX {kn:Option α}{ke:Ey→Option α}{k:α→β}:tm (Wl e kn ke) k=Wl e (tm kn k) fun e=>tm (ke e) k:=by cases e <;> rfl
@[simp] theorem aKZ {kn:Option α}{k:α→β}:tm (nrT e kn) k=nrT e (tm kn k):=by cases e <;> rfl
@[simp] theorem aKW {kn:Option α}{k:α→β}:tm (efT e kn) k=efT e (tm kn k):=by cases e <;> rfl
end
def ld (g:Bool) (n:Nat) (h:kP) (a:kM) (k:kM→Option R):Option R:=(kU g n h a).bind k
def fa (o:Nat) (a:kM) (k:kM→Option R):Option R:=(kO o a).bind k
def ix (sz:Nat) (s i:kM) (k:kM→Option R):Option R:=(kZ sz s i).bind k
def bo (op:BinOp) (a b:kM) (k:kM→Option R):Option R:=(kX op a b).bind k
def ln (s:kM) (k:kM→Option R):Option R:=(mO s).bind k
def gS (w:Bool) (g:kM) (x:Option R) (h:kP) (k:kM→kP→Option R):Option R:=(lS w g x (lC (.tuple []) h)).bind (nV k fun _ _=>none)
def ca (x:Option (nO×kP)) (k:kM→kP→Option R):Option R:=kV x k fun _ _=>none
section
variable {g:Bool}{n o sz:Nat}{h:kP}{a b s i:kM}{k:kM→Option R}{kh:kM→kP→Option R}{w:Bool}{l:List kM}{m:Nat}{op:BinOp}{x:Option R}{y:Option (nO×kP)}
@[congr] theorem aHL {a':kM}{h':kP}(e:a=a') (e2:h=h'):ld g n h a k=ld g n h' a' k:=by rw [e,e2]
@[congr] theorem aHG {a':kM}(e:a=a'):fa o a k=fa o a' k:=by rw [e]
@[congr] theorem aHJ {s' i':kM}(e:s=s') (e2:i=i'):ix sz s i k=ix sz s' i' k:=by rw [e,e2]
@[congr] theorem aHw {a' b':kM}(e:a=a') (e2:b=b'):bo op a b k=bo op a' b' k:=by rw [e,e2]
@[congr] theorem aHM {s':kM}(e:s=s'):ln s k=ln s' k:=by rw [e]
@[congr] theorem aHH {a':kM}{h':kP}(e:a=a') (e2:h=h'):gS w a x h kh=gS w a' x h' kh:=by rw [e,e2]
@[congr] theorem aHB {y':Option (nO×kP)}(e:y=y'):ca y kh=ca y' kh:=by rw [e]
end
section
variable {k k':IntKind}{a b:Int}{s t:List UInt8}{α:Type}{enc:α→List kM}{xs ys:List α}{sz:Nat}{T T':Tok}{x y:Bool}
@[simp] theorem aCW:lO (.bool x) (.int k a) (.int k b)=some (.int k (bif x then a else b)):=by cases x <;> rfl
@[simp] theorem au0 {u v:Bool}:lO (.bool x) (.bool u) (.bool v)=some (.bool (bif x then u else v)):=by cases x <;> rfl
@[simp] theorem aCX:lO (.bool x) (.str s) (.str t)=some (.str (bif x then s else t)):=by cases x <;> rfl
@[simp] theorem aCZ {x:Option α}{f:α→kM×kP}{kv:kM→kP→Option R}:kR (tm x f) kv=tb x fun a=>kv (f a).1 (f a).2:=by cases x <;> rfl
@[simp] theorem axY {id:Nat}{rows:List (List kM)}{r:List kM}:lF id (.slice rows .no::r)=(.slice rows .no::(lF id r).1,(lF id r).2):=by cases rows <;> rfl
@[simp] theorem auY {id j:Nat}{rows:List (List kM)}{r:List kM}:lF id (.slice rows (.own j)::r)=(.slice rows (.own j)::(lF id r).1,(lF id r).2):=by cases rows <;> rfl
end
def cb (x:Bool):List kM:=[.bool x]
@[simp] theorem azI {w c:Bool}{x y:Option R}:lS w (.bool c) x y=bif w then tc c x y else tc c y x:=by cases w <;> rfl
attribute [simp] lL lF putCells lT sO apart
@[simp] theorem ZJ {m:Nat}{h:kP}:l_ m h=nK m h (h.take m):=(rfl)
attribute [simp] lE kN
def OS {α:Type}(n:Nat) (xs:List α) (j:Nat):Option α:=if xs.length=n then xs[j]? else none
section
variable {α:Type}{enc:α→List kM}{sz:Nat}{xs ys:List α}{h:kP}{id n tot len off j:Nat}{k:IntKind}{i:Int}
end
section
variable {α:Type}{enc:α→List kM}{sz:Nat}{xs ys:List α}{h:kP}{id n tot len off j a:Nat}{k:IntKind}{i:Int}{g:Bool}{v:kM}
@[simp] theorem aEk {β:Type}{f:α→Option β}:(OS n xs j).bind f=tb (OS n xs j) f:=rfl
end
@[simp] theorem aJG {m:Nat}{v:kM}{h:kP}:lZ m v h=(l_ m h).map fun h'=>(.ret (v.vK m h).kQ,h'):=(rfl)
attribute [simp] reach We addN kM.refs kM.Fb qA akM atS SI kM.Pq kM.Jq kM.ok kM.ok0 nO.Pq nO.ok abD Fx Ss
section
variable {cs:List kM}{t z:Nat}{es:List (kM×kM)}{f:Nat→Nat}{p:Nat→Bool}
end
end
end Hk
