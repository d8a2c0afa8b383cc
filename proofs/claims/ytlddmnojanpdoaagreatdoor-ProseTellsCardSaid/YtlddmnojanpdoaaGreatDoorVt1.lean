/-
  The texts Vk.Ty, one behind another. No conditions.
-/
import Derived.Test.YtlddmnojanpdoaaGreatDoorVk3
set_option linter.unusedVariables false
set_option linter.unusedSimpArgs false
set_option linter.all false
open List renaming eq_nil_of_length_eq_zero → ag4, getElem?_eq_some_iff → aa8, map_cons → af7, nil_append → ah4
open Nat renaming le_refl → ac8, mul_le_mul_right → af2
open Option.some renaming injEq → ab1
namespace Hk
section
open Go
def Rw {α:Type}(enc:α→List kH) (xs:List α):List (List kH):=xs.map enc
def tb {α β:Type}(x:Option α) (f:α→Option β):Option β:=x.bind f
def tm {α β:Type}(x:Option α) (f:α→β):Option β:=x.map f
def tc {α:Type}(c:Bool) (x y:Option α):Option α:=bif c then x else y
section
variable {α β γ:Type}
@[simp] theorem atK {x:Option α}{f:α→β}{k:β→Option γ}:(tm x f).bind k=tb x fun a=>k (f a):=by cases x <;> rfl
@[simp] theorem atI {x:Option α}{f:α→Option β}{k:β→Option γ}:(tb x f).bind k=tb x fun a=>(f a).bind k:=by cases x <;> rfl
@[simp] theorem atJ {c:Bool}{x y:Option β}{k:β→Option γ}:(tc c x y).bind k=tc c (x.bind k) (y.bind k):=by cases c <;> rfl
@[simp] theorem aAs {x:Option α}{f:α→Option β}{g:β→γ}:tm (tb x f) g=tb x fun a=>tm (f a) g:=by cases x <;> rfl
@[simp] theorem aAt {c:Bool}{x y:Option β}{g:β→γ}:tm (tc c x y) g=tc c (tm x g) (tm y g):=by cases c <;> rfl
@[simp] theorem DC {x:α}{g:α→β}:tm (some x) g=some (g x):=(rfl)
@[simp] theorem HA {x:α}{f:α→Option β}:tb (some x) f=f x:=(rfl)
@[simp] theorem auZ {x y:Option α}:tc true x y=x:=(rfl)
@[simp] theorem agG {x:Option α}{f:α→kH}{h:α→kL}{kv kp:kH→kL→Option R}:kM (tm x fun a=>(.ret (f a),h a)) kv kp=tb x fun a=>kv (f a) (h a):=by cases x <;> rfl
@[congr] theorem auY {c c':Bool}{x x' y y':Option α}(h:c=c') (hx:c'=true→x=x') (hy:c'=false→y=y'):tc c x y=tc c' x' y':=by
 subst h; cases c <;> simp [tc,hx,hy]
end
inductive Ey where
 | n | r | x (id:Nat)
 deriving Inhabited
def Ey.ex:Ey→Ex
 | .n=>.normal
 | .r=>.ret
 | .x i=>.exit i
@[simp] theorem Ey.awS {e:Ey}{m:Nat}{h:kL}:Ex.vL m h e.ex=e.ex:=by cases e <;> rfl
def Pv {α:Type}(e:Ey) (kn:Option α) (ke:Ey→Option α):Option α:=match e with
 | .n=>kn
 | e=>ke e
def Yb {α:Type}(id:Nat) (e:Ey) (kn:Option α) (ke:Ey→Option α):Option α:=match e with
 | .n=>kn
 | .x j=>bif j == id then kn else ke (.x j)
 | e=>ke e
def nrT {α:Type}(e:Ey) (kn:Option α):Option α:=match e with
 | .n=>kn
 | _=>none
def efT {α:Type}(e:Ey) (x:Option α):Option α:=match e with
 | .n=>x
 | .r=>x
 | _=>none
section
variable {α β:Type}{e:Ey}{i j:Nat}
@[simp] theorem asE {kn:Option R}{ke:Ex→Option R}:Ex.lW e.ex kn ke=Pv e kn fun e=>ke e.ex:=by cases e <;> rfl
@[simp] theorem am5 {kn:Option R}{ke:Ex→Option R}:Ex.inBlock i e.ex kn ke=Yb i e kn fun e=>ke e.ex:=by cases e <;> rfl
@[simp] theorem az5 {kn:Option R}:Ex.sO e.ex kn=nrT e kn:=by cases e <;> rfl
@[simp] theorem awR {x:Option (nH×kL)}:Ex.mX e.ex x=efT e x:=by cases e <;> rfl
@[simp] theorem aoM {kn:Option α}{ke:Ey→Option α}{k:α→Option β}:(Pv e kn ke).bind k=Pv e (kn.bind k) fun e=>(ke e).bind k:=by cases e <;> rfl
@[simp] theorem aoO {kn:Option α}{k:α→Option β}:(nrT e kn).bind k=nrT e (kn.bind k):=by cases e <;> rfl
@[simp] theorem aoL {kn:Option α}{k:α→Option β}:(efT e kn).bind k=efT e (kn.bind k):=by cases e <;> rfl
@[simp] theorem ayK {kn:Option α}{ke:Ey→Option α}{k:α→β}:tm (Pv e kn ke) k=Pv e (tm kn k) fun e=>tm (ke e) k:=by cases e <;> rfl
@[simp] theorem ayM {kn:Option α}{k:α→β}:tm (nrT e kn) k=nrT e (tm kn k):=by cases e <;> rfl
@[simp] theorem ayJ {kn:Option α}{k:α→β}:tm (efT e kn) k=efT e (tm kn k):=by cases e <;> rfl
end
def ld (g:Bool) (n:Nat) (h:kL) (a:kH) (k:kH→Option R):Option R:=(kO g n h a).bind k
def fa (o:Nat) (a:kH) (k:kH→Option R):Option R:=(kJ o a).bind k
def ix (sz:Nat) (s i:kH) (k:kH→Option R):Option R:=(k9 sz s i).bind k
def bo (op:BinOp) (a b:kH) (k:kH→Option R):Option R:=(kR op a b).bind k
def ln (s:kH) (k:kH→Option R):Option R:=(mS s).bind k
def gS (w:Bool) (g:kH) (x:Option R) (h:kL) (k:kH→kL→Option R):Option R:=(kI w g x (kQ (.tuple []) h)).bind (kP k fun _ _=>none)
def ca (x:Option (nH×kL)) (k:kH→kL→Option R):Option R:=kM x k fun _ _=>none
section
variable {g:Bool}{n o sz:Nat}{h:kL}{a b s i:kH}{k:kH→Option R}{kh:kH→kL→Option R}{w:Bool}{l:List kH}{m:Nat}{op:BinOp}{x:Option R}{y:Option (nH×kL)}
@[congr] theorem at1 {a':kH}{h':kL}(e:a=a') (e2:h=h'):ld g n h a k=ld g n h' a' k:=by rw [e,e2]
@[congr] theorem atW {a':kH}(e:a=a'):fa o a k=fa o a' k:=by rw [e]
@[congr] theorem atZ {s' i':kH}(e:s=s') (e2:i=i'):ix sz s i k=ix sz s' i' k:=by rw [e,e2]
@[congr] theorem atL {a' b':kH}(e:a=a') (e2:b=b'):bo op a b k=bo op a' b' k:=by rw [e,e2]
@[congr] theorem at2 {s':kH}(e:s=s'):ln s k=ln s' k:=by rw [e]
@[congr] theorem atX {a':kH}{h':kL}(e:a=a') (e2:h=h'):gS w a x h kh=gS w a' x h' kh:=by rw [e,e2]
@[congr] theorem atQ {y':Option (nH×kL)}(e:y=y'):ca y kh=ca y' kh:=by rw [e]
end
def acX (a b:Int):Option Int:=if b=0 then none else some (a.tmod b)
def Kt {α:Type}(by_:Nat) (xs ys:List α):Option (List α):=if (xs.length+ys.length) * by_≤140737488355328∧xs.length+ys.length≤140737488355328 then some (xs++ys) else none
section
variable {k k':IntKind}{a b:Int}{s t:List UInt8}{α:Type}{enc:α→List kH}{xs ys:List α}{sz:Nat}{T T':Tok}{x y:Bool}
@[simp] theorem af1:kR .rem (.int k a) (.int k b)=tm (acX a b) (kH.int k):=by
 simp only [kR,acX,ne_eq,not_true_eq_false,if_false]; split <;> rfl
@[simp] theorem amK:lL (.bool x) (.int k a) (.int k b)=some (.int k (bif x then a else b)):=by cases x <;> rfl
@[simp] theorem adM {u v:Bool}:lL (.bool x) (.bool u) (.bool v)=some (.bool (bif x then u else v)):=by cases x <;> rfl
@[simp] theorem amL:lL (.bool x) (.str s) (.str t)=some (.str (bif x then s else t)):=by cases x <;> rfl
@[simp] theorem amN {x:Option α}{f:α→kH×kL}{kv:kH→kL→Option R}:kS (tm x f) kv=tb x fun a=>kv (f a).1 (f a).2:=by cases x <;> rfl
@[simp] theorem agB {id:Nat}{rows:List (List kH)}{r:List kH}:lC id (.slice rows .no::r)=(.slice rows .no::(lC id r).1,(lC id r).2):=by cases rows <;> rfl
@[simp] theorem adK {id j:Nat}{rows:List (List kH)}{r:List kH}:lC id (.slice rows (.own j)::r)=(.slice rows (.own j)::(lC id r).1,(lC id r).2):=by cases rows <;> rfl
end
@[simp] theorem ahR {w c:Bool}{x y:Option R}:kI w (.bool c) x y=bif w then tc c x y else tc c y x:=by cases w <;> rfl
attribute [simp] lO lC putCells lR sM apart
@[simp] theorem Dk {α:Type}{enc:α→List kH}{xs:List α}:(Rw enc xs).length=xs.length:=by simp [Rw]
@[simp] theorem Ve {m:Nat}{e:Ex}{vs:List kH}{h:kL}:kW m e vs h=(l_ m h).map fun h'=>(e.vL m h,vs.map (·.vL m h),h'):=(rfl)
@[simp] theorem R0 {m:Nat}{h:kL}:l_ m h=nA m h (h.take m):=(rfl)
attribute [simp] lD kK
def Vc {α:Type}(enc:α→List kH) (sz:Nat) (xs:List α):lH:=.vec xs.length sz (Rw enc xs).flatten
def tin (n:Nat) (i:Int):Option Nat:=if 0≤i∧i < (n:Int) then some i.toNat else none
def JR {α:Type}(n:Nat) (xs:List α) (j:Nat):Option α:=if xs.length=n then xs[j]? else none
def Yh {α:Type}(n:Nat) (xs:List α) (j:Nat) (x:α):Option (List α):=if xs.length=n∧j < xs.length then some (xs.set j x) else none
section
variable {α:Type}{enc:α→List kH}{sz:Nat}{xs ys:List α}{h:kL}{id n tot len off j:Nat}{k:IntKind}{i:Int}
theorem zL (he:∀x,(enc x).length=sz):∀xs:List α,(Rw enc xs).flatten.length=xs.length * sz
 | []=>by simp [Rw]
 | x::r=>by
  have:=zL he r
  simp only [Rw,af7,List.flatten_cons,List.length_append,List.length_cons] at this ⊢
  rw [he,this,Nat.succ_mul,Nat.add_comm]
theorem D5 (he:∀x,(enc x).length=sz) {x:α}(hx:xs[j]?=some x):(Rw enc xs).flatten=(Rw enc (xs.take j)).flatten++(enc x++(Rw enc (xs.drop (j+1))).flatten):=by
 have hl:=(aa8.1 hx).1
 have e:xs=xs.take j++x::xs.drop (j+1):=by
  have:=(List.take_append_drop j xs).symm
  rw [List.drop_eq_getElem_cons hl,(aa8.1 hx).2] at this
  exact this
 have e2:Rw enc xs=Rw enc (xs.take j)++(enc x::Rw enc (xs.drop (j+1))):=by
  have:=congrArg (Rw enc) e
  rw [this]; simp only [Rw,List.map_append,af7]
 rw [e2,List.flatten_append,List.flatten_cons]
theorem OS (he:∀x,(enc x).length=sz) (hl:j < xs.length):(Rw enc (xs.take j)).flatten.length=j * sz:=by
 rw [zL he,List.length_take,Nat.min_eq_left (by omega)]
theorem KH (he:∀x,(enc x).length=sz) (hb:h[id]?=some (Vc enc sz xs)) (hz:0 < sz):kO true sz h (.vptr id tot (j * sz))=tm (JR tot xs j) fun x=>.agg (enc x):=by
 simp only [kO,pE,hb,Vc,JR]
 by_cases e:xs.length=tot
 ·simp only [e,if_true,apart,cond_true]
  have hl:=zL he xs
  cases hx:xs[j]? with
  | none =>
   have h1:xs.length≤j:=by simpa using hx
   have h2:xs.length * sz≤j * sz:=af2 sz h1
   rw [if_neg (by omega)]; rfl
  | some x =>
   have hj:=(aa8.1 hx).1
   have h2:(j+1) * sz≤xs.length * sz:=af2 sz hj
   rw [Nat.succ_mul] at h2
   rw [if_pos (by omega),D5 he hx,←OS he hj,List.drop_left,←he x,List.take_left]
   rfl
 ·simp [e,tm]
theorem Oy {A B o v:List kH}{off:Nat}(ho:off+v.length≤o.length):putCells (A++(o++B)) (A.length+off) v=A++(putCells o off v++B):=by
 unfold putCells
 rw [List.take_append,List.take_of_length_le (by omega:A.length≤A.length+off),Nat.add_sub_cancel_left,List.take_append_of_le_length (by omega)]
 rw [Nat.add_assoc,←List.drop_drop,List.drop_left,List.drop_append_of_le_length (by omega)]
 simp
theorem Ik {m:Nat}{v:kH}(upd:α→α) (he:∀x,(enc x).length=sz) (hb:h[id]?=some (Vc enc sz xs)) (hv:v.cells.length=m) (hm:off+m≤sz) (hz:0 < m) (hok:v.cells.all kH.lY=true) (hu:∀x,enc (upd x)=putCells (enc x) off v.cells) :
  kT m h (.vptr id tot (j * sz+off)) v=tb (JR tot xs j) fun x=>tm (Yh tot xs j (upd x)) fun zs=>h.set id (Vc enc sz zs):=by
 simp only [kT,pE,hb,Vc,JR]
 by_cases e:xs.length=tot
 ·simp only [e,if_true]
  have hl:=zL he xs
  cases hx:xs[j]? with
  | none =>
   have h1:xs.length≤j:=by simpa using hx
   have h2:xs.length * sz≤j * sz:=af2 sz h1
   rw [if_neg (by omega)]; rfl
  | some x =>
   have hj:=(aa8.1 hx).1
   have h2:(j+1) * sz≤xs.length * sz:=af2 sz hj
   rw [Nat.succ_mul] at h2
   rw [if_pos ⟨hv,by omega,hok⟩]
   simp only [HA,Yh,e,true_and]
   rw [if_pos (by omega)]
   simp only [DC,List.length_set,e,ab1]
   congr 2
   have Rh:(xs.set j (upd x))[j]?=some (upd x):=by simp [hj]
   have t1:(xs.set j (upd x)).take j=xs.take j:=by rw [List.take_set_of_le (ac8 _)]
   have t2:(xs.set j (upd x)).drop (j+1)=xs.drop (j+1):=by rw [List.drop_set_of_lt (by omega)]
   rw [D5 he hx,D5 he Rh,t1,t2,hu x,←OS he hj,Oy (by rw [hv,he]; omega)]
 ·simp [e,tb]
theorem Pl {v:kH}(x:α) (he:∀x,(enc x).length=sz) (hb:h[id]?=some (Vc enc sz xs)) (hz:0 < sz) (hok:v.cells.all kH.lY=true) (hu:v.cells=enc x) :
  kT sz h (.vptr id tot (j * sz)) v=tb (JR tot xs j) fun _=>tm (Yh tot xs j x) fun zs=>h.set id (Vc enc sz zs):=by
 have:=Ik (tot:=tot) (j:=j) (off:=0) (m:=sz) (v:=v) (fun _=>x) he hb (by rw [hu,he]) (by omega) hz hok (fun y=>by
  unfold putCells
  rw [hu,List.take_zero,ah4,Nat.zero_add,List.drop_eq_nil_of_le (by rw [he,he]; exact ac8 _),List.append_nil])
 simpa using this
theorem Gm:k9 sz (.vslice id tot 0 len sz) (.int k i)=tm (tin len i) fun j=>.vptr id tot (j * sz):=by
 simp only [k9,tin]
 by_cases hc:0≤i∧i < (len:Int)
 ·rw [if_pos ⟨hc.1,hc.2,trivial⟩,if_pos hc]; simp [tm]
 ·rw [if_neg (fun q=>hc ⟨q.1,q.2.1⟩),if_neg hc]; rfl
attribute [simp] Gm
@[simp] theorem Kr {m:Nat}(hs:∀x,mW m h (enc x)=some (enc x)):mW m h (Rw enc xs).flatten=some (Rw enc xs).flatten:=by
 have app:∀(a b a' b':List kH),mW m h a=some a'→mW m h b=some b'→mW m h (a++b)=some (a'++b'):=by
  intro a
  induction a with
  | nil=>intro b a' b' h1 h2; simp only [MP,ab1] at h1; subst h1; exact h2
  | cons v a ih =>
   intro b a' b' h1 h2
   rw [rR] at h1
   rw [List.cons_append,rR]
   cases hc:(kH.mT m h v).lY with
   | false=>rw [hc] at h1; cases h1
   | true =>
    rw [hc] at h1
    simp only [cond_true,Option.map_eq_some_iff] at h1 ⊢
    obtain⟨a2,h3,rfl⟩:=h1
    exact⟨_,ih b a2 b' h3 h2,rfl⟩
 induction xs with
 | nil=>simp [Rw]
 | cons x r ih =>
  simp only [Rw,af7,List.flatten_cons] at ih ⊢
  exact app _ _ _ _ (hs x) ih
@[simp] theorem Le {m:Nat}(hs:∀x,mW m h (enc x)=some (enc x)):o6 m h (Vc enc sz xs)=some (Vc enc sz xs):=by
 simp only [Vc,Qq,Kr hs,Option.map_some]
end
section
variable {α:Type}{enc:α→List kH}{sz:Nat}{xs ys:List α}{h:kL}{id n tot len off j a:Nat}{k:IntKind}{i:Int}{g:Bool}{v:kH}
@[simp] theorem aoP {β:Type}{f:α→Option β}:(JR n xs j).bind f=tb (JR n xs j) f:=rfl
def tvp {α:Type}(by_ n:Nat) (xs ys:List α):Option (List α):=if xs.length=n∧(n+ys.length) * by_≤140737488355328∧n+ys.length≤140737488355328 then some (xs++ys) else none
def vap (sz by_ id:Nat) (h:kL) (b:Option lH) (tot n:Nat) (new:List (List kH)):Option (kH×kL):=match b with
 | some (.vec tot' sz1 cs)=>if tot'=tot then(if sz1=sz∧(n+new.length) * by_≤140737488355328∧n+new.length≤140737488355328
   then(if new.length=0 then some (.vslice id tot 0 n sz,h)
    else if n+new.length≤tot then some (.vslice id tot 0 (n+new.length) sz,h.set id (.vec tot sz (putCells cs (n * sz) new.flatten)))
    else some (.vslice id (n+new.length) 0 (n+new.length) sz,h.set id (.vec (n+new.length) sz (cs.take (n * sz)++new.flatten)))) else none) else none
 | _=>none
@[simp] theorem O_ {by_:Nat}{T:Tok}(he:∀x,(enc x).length=sz):wT sz by_ h (.vslice id tot 0 n sz) (.slice (Rw enc ys) T)=vap sz by_ id h (h[id]?) tot n (Rw enc ys):=by
 have hr:CQ sz h (.slice (Rw enc ys) T)=some (Rw enc ys):=by simp [Rw,he]
 unfold wT vap
 simp only [hr,pE]
 cases h[id]? with
 | none=>rfl
 | some b=>cases b with
  | vec t s cs=>by_cases e:t=tot <;> simp [e]
  | _=>rfl
@[simp] theorem asR {by_:Nat}(he:∀x,(enc x).length=sz) (hy:ys≠[]):vap sz by_ id h (some (Vc enc sz xs)) n n (Rw enc ys)=tm (tvp by_ n xs ys) fun zs=>(.vslice id zs.length 0 zs.length sz,h.set id (Vc enc sz zs)):=by
 have hyl:ys.length≠0:=fun e=>hy (ag4 e)
 simp only [vap,Vc,tvp,Dk]
 by_cases e:xs.length=n
 ·simp only [e,if_true,true_and]
  by_cases hc:(n+ys.length) * by_≤140737488355328∧n+ys.length≤140737488355328
  ·rw [if_pos hc,if_pos hc,if_neg hyl,if_neg (by omega)]
   have ht:(Rw enc xs).flatten.take (n * sz)=(Rw enc xs).flatten:=List.take_of_length_le (by rw [zL he,e]; exact ac8 _)
   rw [ht]
   simp [tm,e,Rw]
  ·rw [if_neg hc,if_neg hc]; rfl
 ·simp [e,tm]
end
@[simp] theorem awT {m:Nat}{v:kH}{h:kL}:lZ m v h=(l_ m h).map fun h'=>(.ret (v.vL m h).kN,h'):=(rfl)
attribute [simp] En
attribute [simp] reach Pp addN kH.refs kH.C_ qO Xu acN MR kH.Kp kH.F8 kH.ok kH.TA nH.Kp nH.ok SX Dp MG
section
variable {cs:List kH}{t z:Nat}{es:List (kH×kH)}{f:Nat→Nat}{p:Nat→Bool}
end
def Vs (id sz n:Nat):kH:=if n=0 then .slice [] (.own id) else .vslice id n 0 n sz
def Vb {α:Type}(enc:α→List kH) (sz:Nat) (xs:List α):lH:=if xs.length=0 then .front 0 0 else .vec xs.length sz (Rw enc xs).flatten
@[simp] theorem Pa {α:Type}{enc:α→List kH}{sz by_ id:Nat}{h:kL}{xs ys:List α}{T:Tok}(he:∀x,(enc x).length=sz) (hy:ys≠[]) (hb:h[id]?=some (Vb enc sz xs)) :
  wT sz by_ h (Vs id sz xs.length) (.slice (Rw enc ys) T)=tm (Kt by_ xs ys) fun zs=>(.vslice id zs.length 0 zs.length sz,h.set id (Vc enc sz zs)):=by
 have hyl:ys.length≠0:=fun e=>hy (ag4 e)
 by_cases h0:xs.length=0
 ·have x0:xs=[]:=ag4 h0
  subst x0
  have hr:CQ sz h (.slice (Rw enc ys) T)=some (Rw enc ys):=by simp [Rw,he]
  have hb':h[id]?=some (.front 0 0):=hb
  have hv:Vs id sz ([]:List α).length=.slice [] (.own id):=rfl
  rw [hv]
  unfold wT Kt
  simp only [hr,hb',Dk,List.length_nil,Nat.zero_add,ah4]
  split
  ·simp [tm,Vc]
  ·rfl
 ·have hv:Vs id sz xs.length=.vslice id xs.length 0 xs.length sz:=if_neg h0
  have hb':h[id]?=some (Vc enc sz xs):=by rw [hb]; unfold Vb; rw [if_neg h0]; rfl
  rw [hv,O_ he,hb',asR he hy]
  simp [tvp,Kt]
end
end Hk
