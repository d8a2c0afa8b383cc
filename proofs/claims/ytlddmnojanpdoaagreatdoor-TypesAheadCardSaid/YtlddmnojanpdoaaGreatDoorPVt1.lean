/-
  The texts Vk.Ty, one behind another. No conditions.
-/
import Derived.Test.YtlddmnojanpdoaaGreatDoorPVk3
set_option linter.unusedVariables false
set_option linter.unusedSimpArgs false
set_option linter.all false
namespace Hk
section
open Go
def tb {α β:Type}(x:Option α) (f:α→Option β):Option β:=x.bind f
def tm {α β:Type}(x:Option α) (f:α→β):Option β:=x.map f
def tc {α:Type}(c:Bool) (x y:Option α):Option α:=bif c then x else y
section
variable {α β γ:Type}
@[simp] theorem aHH {x:Option α}{f:α→β}{k:β→Option γ}:(tm x f).bind k=tb x fun a=>k (f a):=by cases x <;> rfl
@[simp] theorem aHF {x:Option α}{f:α→Option β}{k:β→Option γ}:(tb x f).bind k=tb x fun a=>(f a).bind k:=by cases x <;> rfl
@[simp] theorem aHG {c:Bool}{x y:Option β}{k:β→Option γ}:(tc c x y).bind k=tc c (x.bind k) (y.bind k):=by cases c <;> rfl
@[simp] theorem aMC {x:Option α}{f:α→Option β}{g:β→γ}:tm (tb x f) g=tb x fun a=>tm (f a) g:=by cases x <;> rfl
@[simp] theorem aMD {c:Bool}{x y:Option β}{g:β→γ}:tm (tc c x y) g=tc c (tm x g) (tm y g):=by cases c <;> rfl
@[simp] theorem aIs {x y:Option α}:tc true x y=x:=(rfl)
@[simp] theorem akZ {x y:Option α}:tc false x y=y:=(rfl)
@[simp] theorem ayG {x:Option α}{f:α→kM}{h:α→kP}{kv kp:kM→kP→Option R}:kU (tm x fun a=>(.ret (f a),h a)) kv kp=tb x fun a=>kv (f a) (h a):=by cases x <;> rfl
@[congr] theorem aIr {c c':Bool}{x x' y y':Option α}(h:c=c') (hx:c'=true→x=x') (hy:c'=false→y=y'):tc c x y=tc c' x' y':=by
 subst h; cases c <;> simp [tc,hx,hy]
end
inductive Ey where
 | n | r | x (id:Nat)
 deriving Inhabited
def Ey.ex:Ey→Ex
 | .n=>.normal
 | .r=>.ret
 | .x i=>.exit i
@[simp] theorem Ey.aJR {e:Ey}{m:Nat}{h:kP}:Ex.vM m h e.ex=e.ex:=by cases e <;> rfl
def Ww {α:Type}(e:Ey) (kn:Option α) (ke:Ey→Option α):Option α:=match e with
 | .n=>kn
 | e=>ke e
def ibT {α:Type}(id:Nat) (e:Ey) (kn:Option α) (ke:Ey→Option α):Option α:=match e with
 | .n=>kn
 | .x j=>bif j == id then kn else ke (.x j)
 | e=>ke e
def nrT {α:Type}(e:Ey) (kn:Option α):Option α:=match e with
 | .n=>kn
 | _=>none
def efT {α:Type}(e:Ey) (x:Option α):Option α:=match e with
 | .n=>x
 | .r=>x
 | _=>none
section
variable {α β:Type}{e:Ey}{i j:Nat}
@[simp] theorem aGY {kn:Option R}{ke:Ex→Option R}:Ex.lV e.ex kn ke=Ww e kn fun e=>ke e.ex:=by cases e <;> rfl
@[simp] theorem aDt {kn:Option R}{ke:Ex→Option R}:Ex.inBlock i e.ex kn ke=ibT i e kn fun e=>ke e.ex:=by cases e <;> rfl
@[simp] theorem aMf {kn:Option R}:Ex.uC e.ex kn=nrT e kn:=by cases e <;> rfl
@[simp] theorem aJQ {x:Option (vG×kP)}:Ex.nA e.ex x=efT e x:=by cases e <;> rfl
@[simp] theorem aEt {kn:Option α}{ke:Ey→Option α}{k:α→Option β}:(Ww e kn ke).bind k=Ww e (kn.bind k) fun e=>(ke e).bind k:=by cases e <;> rfl
@[simp] theorem aEv {kn:Option α}{k:α→Option β}:(nrT e kn).bind k=nrT e (kn.bind k):=by cases e <;> rfl
@[simp] theorem aEs {kn:Option α}{k:α→Option β}:(efT e kn).bind k=efT e (kn.bind k):=by cases e <;> rfl
@[simp] theorem aK9 {kn:Option α}{ke:Ey→Option α}{k:α→β}:tm (Ww e kn ke) k=Ww e (tm kn k) fun e=>tm (ke e) k:=by cases e <;> rfl
@[simp] theorem aLb {kn:Option α}{k:α→β}:tm (nrT e kn) k=nrT e (tm kn k):=by cases e <;> rfl
@[simp] theorem aK8 {kn:Option α}{k:α→β}:tm (efT e kn) k=efT e (tm kn k):=by cases e <;> rfl
end
def ld (g:Bool) (n:Nat) (h:kP) (a:kM) (k:kM→Option R):Option R:=(kT g n h a).bind k
def fa (o:Nat) (a:kM) (k:kM→Option R):Option R:=(kO o a).bind k
def ix (sz:Nat) (s i:kM) (k:kM→Option R):Option R:=(kX sz s i).bind k
def bo (op:BinOp) (a b:kM) (k:kM→Option R):Option R:=(kV op a b).bind k
def ln (s:kM) (k:kM→Option R):Option R:=(mN s).bind k
def gS (w:Bool) (g:kM) (x:Option R) (h:kP) (k:kM→kP→Option R):Option R:=(lQ w g x (nM (.tuple []) h)).bind (nT k fun _ _=>none)
def ca (x:Option (vG×kP)) (k:kM→kP→Option R):Option R:=kU x k fun _ _=>none
section
variable {g:Bool}{n o sz:Nat}{h:kP}{a b s i:kM}{k:kM→Option R}{kh:kM→kP→Option R}{w:Bool}{l:List kM}{m:Nat}{op:BinOp}{x:Option R}{y:Option (vG×kP)}
@[congr] theorem aHX {a':kM}{h':kP}(e:a=a') (e2:h=h'):ld g n h a k=ld g n h' a' k:=by rw [e,e2]
@[congr] theorem aHS {a':kM}(e:a=a'):fa o a k=fa o a' k:=by rw [e]
@[congr] theorem aHV {s' i':kM}(e:s=s') (e2:i=i'):ix sz s i k=ix sz s' i' k:=by rw [e,e2]
@[congr] theorem aHI {a' b':kM}(e:a=a') (e2:b=b'):bo op a b k=bo op a' b' k:=by rw [e,e2]
@[congr] theorem aHY {s':kM}(e:s=s'):ln s k=ln s' k:=by rw [e]
@[congr] theorem aHT {a':kM}{h':kP}(e:a=a') (e2:h=h'):gS w a x h kh=gS w a' x h' kh:=by rw [e,e2]
@[congr] theorem aHN {y':Option (vG×kP)}(e:y=y'):ca y kh=ca y' kh:=by rw [e]
end
def XH (x:Option Int) (d:Nat):Option Nat:=match x with
 | none=>some d
 | some n=>if 0≤n then some n.toNat else none
def PH {α:Type}(xs:List α) (lo hi:Option Int):Option (List α):=match XH lo 0,XH hi xs.length with
 | some l,some u=>if l≤u∧u≤xs.length then some ((xs.drop l).take (u - l)) else none
 | _,_=>none
section
variable {k k':IntKind}{a b:Int}{s t:List UInt8}{α:Type}{enc:α→List kM}{xs ys:List α}{sz:Nat}{T T':Tok}{x y:Bool}
@[simp] theorem aC8:lN (.bool x) (.int k a) (.int k b)=some (.int k (bif x then a else b)):=by cases x <;> rfl
@[simp] theorem avC {u v:Bool}:lN (.bool x) (.bool u) (.bool v)=some (.bool (bif x then u else v)):=by cases x <;> rfl
@[simp] theorem aC9:lN (.bool x) (.str s) (.str t)=some (.str (bif x then s else t)):=by cases x <;> rfl
theorem TP {o:Option Int}{d:Nat}:uS (o.map (kM.int k)) d=XH o d:=by
 cases o <;> rfl
theorem EO {lo hi:Option Int}:oK (.str s) (lo.map (kM.int k)) (hi.map (kM.int k'))=tm (PH s lo hi) kM.str:=by
 unfold oK PH
 simp only [TP]
 cases XH lo 0 with
 | none=>rfl
 | some l =>
  cases XH hi s.length with
  | none=>rfl
  | some u =>
   simp only
   split <;> rfl
@[simp] theorem aoD {l u:Int}:oK (.str s) (some (.int k l)) (some (.int k' u))=tm (PH s (some l) (some u)) kM.str:=EO (lo:=some l) (hi:=some u)
@[simp] theorem aDb {x:Option α}{f:α→kM×kP}{kv:kM→kP→Option R}:kQ (tm x f) kv=tb x fun a=>kv (f a).1 (f a).2:=by cases x <;> rfl
@[simp] theorem ayA {id:Nat}{rows:List (List kM)}{r:List kM}:lD id (.slice rows .no::r)=(.slice rows .no::(lD id r).1,(lD id r).2):=by cases rows <;> rfl
@[simp] theorem avA {id j:Nat}{rows:List (List kM)}{r:List kM}:lD id (.slice rows (.own j)::r)=(.slice rows (.own j)::(lD id r).1,(lD id r).2):=by cases rows <;> rfl
end
def cb (x:Bool):List kM:=[.bool x]
@[simp] theorem azU {w c:Bool}{x y:Option R}:lQ w (.bool c) x y=bif w then tc c x y else tc c y x:=by cases w <;> rfl
attribute [simp] lK lD putCells lS sP apart
@[simp] theorem ZU {m:Nat}{h:kP}:l9 m h=nK m h (h.take m):=(rfl)
attribute [simp] lC kN
def O2 {α:Type}(n:Nat) (xs:List α) (j:Nat):Option α:=if xs.length=n then xs[j]? else none
section
variable {α:Type}{enc:α→List kM}{sz:Nat}{xs ys:List α}{h:kP}{id n tot len off j:Nat}{k:IntKind}{i:Int}
end
section
variable {α:Type}{enc:α→List kM}{sz:Nat}{xs ys:List α}{h:kP}{id n tot len off j a:Nat}{k:IntKind}{i:Int}{g:Bool}{v:kM}
@[simp] theorem aEw {β:Type}{f:α→Option β}:(O2 n xs j).bind f=tb (O2 n xs j) f:=rfl
end
@[simp] theorem aJS {m:Nat}{v:kM}{h:kP}:lY m v h=(l9 m h).map fun h'=>(.ret (v.vM m h).mV,h'):=(rfl)
attribute [simp] reach Wp addN kM.refs kM.Fg qA akX at4 SX kM.PC kM.Ju kM.ok kM.ok0 vG.PC vG.ok abO FB SD
section
variable {cs:List kM}{t z:Nat}{es:List (kM×kM)}{f:Nat→Nat}{p:Nat→Bool}
end
end
end Hk
