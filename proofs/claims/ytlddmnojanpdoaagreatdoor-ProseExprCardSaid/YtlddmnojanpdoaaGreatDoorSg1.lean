/-
  The texts SG.M, SG.M2, SG.A, SG.P, SG.G, SG.H, SG.I, SG.J, SG.K, SG.N, SG.O, SG.Q, SG.R, SG.S, SG.T, SG.U, SG.V, SG.W, SG.X, SG.X1, SG.X2, SG.X3, SG.X5, SG.X4, SG.Y1, SG.Y2, SG.Y3, SG.Y4, SG.Y5, SG.Y6, SG.Y7, one behind another. No conditions.
-/
import Derived.Test.YtlddmnojanpdoaaGreatDoorLg1
set_option linter.unusedVariables false
set_option linter.unusedSimpArgs false
set_option linter.all false
open List renaming getD → aa5
open Nat renaming add_sub_cancel → am0, le_refl → ac8
open Option renaming bind_some → ae3, map_eq_some_iff → ac9
namespace Go.Proofs.YtlddmnojanpdoaaGreatDoor
section
open Go Hk

end
noncomputable section
open Go Hk
def FW (K:kX) (m:Nat) (s:List kH×kL):Option R :=
 (fun aD aE aA aB aF=>(kY aA).bind fun aZ=>(kJ 3 aZ).bind fun a_=>(kJ 0 a_).bind fun bA=>(kO false 1 aF bA).bind fun bB=>(kR .eql bB (.int .i64 0)).bind fun aC=>(kI true aC (kQ aA aF) (kQ (.tuple []) aF)).bind (kP (fun bC aK=>(kI true aC ((kY bC).bind fun bD=>kQ bD aK) (kQ (.tuple []) aK)).bind (kP (fun bE aL=>(kI true aC ((kJ 0 bE).bind fun bF=>kQ bF aL) (kQ (.tuple []) aL)).bind (kP (fun bG aG=>(kI true aC ((kO false 1 aG bG).bind fun bH=>kQ bH aG) (kQ (.tuple []) aG)).bind (kP (fun bI aM=>(kI true aC (kQ aA aM) (kQ (.tuple []) aM)).bind (kP (fun bJ aN=>(kI true aC ((kY bJ).bind fun bK=>kQ bK aN) (kQ (.tuple []) aN)).bind (kP (fun bL aO=>(kI true aC ((kJ 1 bL).bind fun bM=>kQ bM aO) (kQ (.tuple []) aO)).bind (kP (fun bN aH=>(kI true aC ((kO false 1 aH bN).bind fun bO=>kQ bO aH) (kQ (.tuple []) aH)).bind (kP (fun bP aP=>(kI true aC ((k9 4 bI bP).bind fun bQ=>kQ bQ aP) (kQ (.tuple []) aP)).bind (kP (fun bR aQ=>(kI true aC ((kJ 0 bR).bind fun bS=>kQ bS aQ) (kQ (.tuple []) aQ)).bind (kP (fun bT aI=>(kI true aC ((kO false 1 aI bT).bind fun bU=>kQ bU aI) (kQ (.tuple []) aI)).bind (kP (fun bV aR=>(kI true aC ((kR .neq bV (.int .i64 0)).bind fun bW=>kQ bW aR) (kQ (.tuple []) aR)).bind (kP (fun bX aS=>(lL aC bX (.bool false)).bind fun bY=>kV bY (kM (K 29 [(kH.kN aA)] aS) (fun bZ aU=>kS (lO 8 aU (.agg [(.int .i64 0),(.str []),(.slice [] .nil),(.bool false),(.int .i64 0),(.int .i64 0),(.int .i64 0),(.slice [] .nil)])) fun aT aV=>(kT 8 aV aT bZ).bind fun aJ=>(kJ 0 aB).bind fun b7=>(kO false 1 aJ b7).bind fun b8=>(kO true 8 aJ aT).bind fun b9=>kS (kU 1 8 [(.int .i64 0),(.str []),(.slice [] .nil),(.bool false),(.int .i64 0),(.int .i64 0),(.int .i64 0),(.slice [] .nil)] [(0,b9)] aJ) fun b_ aW=>kS (mB 8 104 aW b8 b_) fun cA aX=>(kJ 0 aB).bind fun cB=>(kT 1 aX cB cA).bind fun aY=>kW m .normal [aD,aE,aA,aB] aY) (fun _ _=>none)) (kW m (.exit 0) [aD,aE,aA,aB] aS)) (fun _ _=>none))) (fun _ _=>none))) (fun _ _=>none))) (fun _ _=>none))) (fun _ _=>none))) (fun _ _=>none))) (fun _ _=>none))) (fun _ _=>none))) (fun _ _=>none))) (fun _ _=>none))) (fun _ _=>none))) (fun _ _=>none))) (aa5 s.1 0 .junk) (aa5 s.1 1 .junk) (aa5 s.1 2 .junk) (aa5 s.1 3 .junk) s.2
def m12 (K:kX) (a0:kH) (h0:kL):Option (nH×kL) :=
 (kS (lO 1 h0 (.agg [(.slice [] .nil)])) fun t0 h1=>kS (lO 2 h1 (.agg [(.int .i64 0),(.int .i64 0)])) fun t2 h3=>kM (K 28 [(kH.kN a0)] h3) (fun t4 h5=>(lK 0 t4).bind fun t6=>(lK 1 t4).bind fun t7=>kS (lO 2 h5 (.agg [(.int .i64 0),(.int .i64 0)])) fun t8 h9=>(kT 2 h9 t8 t7).bind fun aJ=>(kJ 0 t8).bind fun a_=>(kO false 1 aJ a_).bind fun bA=>(kR .neq bA (.int .i64 0)).bind fun bB=>kV bB ((lR [(.slice [] .nil)] [(0,1)] []).bind fun bC=>(kO true 2 aJ t8).bind fun bD=>(kT 1 (nB (k_ [0] [t8]) aJ) t0 bC).bind fun aW=>(kT 2 (lM (k_ [0] [t8]) aJ aW) t2 bD).bind fun aX=>some (.ret,[t0,t2],aX)) ((lR [(.slice [] .nil),(.int .i64 0),(.int .i64 0),(.int .i64 0),(.int .i64 0)] [(0,1),(1,1),(2,1),(3,2)] [(0,t6)]).bind fun bE=>kS (lO 5 aJ bE) fun bF aY=>kS (lO 1 aY (.agg [(.slice [] .nil)])) fun bG aT=>(mL (FW K (List.length aT)) ([t0,t2,bF,bG],aT)).bind fun aI=>(fun aA aB aD aK aF=>Ex.lW aI.1 none (fun aU=>Ex.inBlock 0 aU ((kY aD).bind fun bH=>(kJ 3 bH).bind fun bI=>(kJ 0 bI).bind fun bJ=>(kO false 1 aF bJ).bind fun bK=>(kR .neq bK (.int .i64 0)).bind fun bL=>kV bL ((lR [(.slice [] .nil)] [(0,1)] []).bind fun bM=>(kY aD).bind fun bN=>(kJ 3 bN).bind fun aS=>(kO true 2 aF aS).bind fun bO=>(kT 1 (nB (k_ [0] [aS]) aF) aA bM).bind fun aZ=>(kT 2 (lM (k_ [0] [aS]) aF aZ) aB bO).bind fun aL=>some (.ret,[aA,aB],aL)) ((kO true 1 aF aK).bind fun aO=>(lR [(.int .i64 0),(.int .i64 0)] [(0,1),(1,1)] []).bind fun aP=>(kT 1 aF aA aO).bind fun aM=>(kT 2 aM aB aP).bind fun aN=>some (.ret,[aA,aB],aN))) (fun aV=>some (aV,[aA,aB],aF)))) (aa5 aI.2.1 0 .junk) (aa5 aI.2.1 1 .junk) (aa5 aI.2.1 2 .junk) (aa5 aI.2.1 3 .junk) aI.2.2)) (fun _ _=>none)).bind fun aC=>(fun aG aH aE=>Ex.mX aC.1 ((kO true 1 aE aG).bind fun aQ=>(kO true 2 aE aH).bind fun aR=>lZ (List.length h0) (.tuple [aQ,aR]) aE)) (aa5 aC.2.1 0 .junk) (aa5 aC.2.1 1 .junk) aC.2.2
theorem aiK (K:kX) (a0:kH) (h0:kL):pD Tryz.prog mK mL K 12 [a0] h0=m12 (lT mK K) a0 h0:=by kernel_rfl
end
section
open Go Hk
def isS (t:Token) (w:List UInt8):Bool:=(decide (t.kind=3) || decide (t.kind=4)) && decide (t.text=w)
def Gc:List UInt8:=[115,101,99]
def Km:List UInt8:=[112,117,98]
def xK:List UInt8:=[109,97,115,107]
def Gi:List UInt8:=[117,51,50]
end
section
open Go Hk
structure Ty where
 elem:Nat
 len:Nat
 label:Nat
 deriving DecidableEq
structure XP where
 pos:Nat
 name:List UInt8
 ty:Ty
 out:Bool
inductive XE where
 | mk (kind pos num:Nat) (name:List UInt8) (args:List XE)
inductive XS where
 | mk (kind pos qZ:Nat) (name:List UInt8) (ty:Ty) (args:List XE) (body els:List XS) (has:Bool)
structure XF where
 pos:Nat
 name:List UInt8
 params:List XP
 has:Bool
 result:Ty
 body:List XS
inductive Out (α:Type) where
 | ok (v:α) (at_ deep:Nat)
 | bad (e pos at_ deep:Nat)
def PM (α:Type):Type:=Nat→Nat→Out α
def PM.bind {α β:Type}(x:PM α) (f:α→PM β):PM β:=fun a d=>match x a d with
 | .ok v a' d'=>f v a' d'
 | .bad e p a' d'=>.bad e p a' d'
instance:Monad PM where
 pure v:=fun a d=>.ok v a d
 bind:=PM.bind
theorem mD {α β:Type}{x:PM α}{f:α→PM β}:x >>= f=PM.bind x f:=rfl
theorem wZ {α:Type}{v:α}{a d:Nat}:(pure v:PM α) a d=.ok v a d:=rfl
def tk (L:List Token) (a:Nat):Token:=(L[a]?).getD ⟨0,0,0,[]⟩
section
variable (L:List Token)
def wB {α:Type}(e:Nat):PM α:=fun a d=>.bad e (tk L a).pos a d
def oF:PM Token:=fun a d=>.ok (tk L a) a d
def wC:PM Unit:=fun a d=>.ok () (a+1) d
def pUp:PM Unit:=fun a d=>.ok () a (d - 1)
def Eu (w:List UInt8):PM Bool:=fun a d=>.ok (isS (tk L a) w) a d
def oW (w:List UInt8):PM Bool:=fun a d=>.ok (isS (tk L a) w) (if isS (tk L a) w then a+1 else a) d
def oA (w:List UInt8):PM Unit:=fun a d=>if isS (tk L a) w then .ok () (a+1) d else .bad 10 (tk L a).pos a d
def qH (k:Nat):PM Token:=fun a d=>if (tk L a).kind=k then .ok (tk L a) (a+1) d else .bad 10 (tk L a).pos a d
def tH (w:List UInt8):PM Unit:=fun a d =>
 if isS (tk L a) w then(if d=64 then .bad 11 (tk L a).pos a d else .ok () (a+1) (d+1)) else .bad 10 (tk L a).pos a d
def tI (w:List UInt8):PM Unit:=fun a d=>if isS (tk L a) w then .ok () (a+1) (d - 1) else .bad 10 (tk L a).pos a d
def rV:PM Nat:=fun a d =>
 if isS (tk L a) Gc then .ok 1 (a+1) d else if isS (tk L a) Km then .ok 0 (a+1) d else .bad 10 (tk L a).pos a d
def qG (l:Nat):PM Ty:=fun a d =>
 if isS (tk L a) xK then .ok ⟨1,0,l⟩ (a+1) d else if isS (tk L a) Gi then .ok ⟨0,0,l⟩ (a+1) d else .bad 10 (tk L a).pos a d
def xM:PM Nat:=do
 oA L [91]
 let t ←oF L
 if t.kind=2∧t.num=0 then wB L 10
 else
  let n ←qH L 2
  oA L [93]
  return n.num
def uP (l:Nat):PM Ty:=do
 if ←oW L [117,56] then
  let n ←xM L
  return ⟨2,n,l⟩
 else
  let t ←qG L l
  if t.elem=0 then
   if ←Eu L [91] then
    let n ←xM L
    return { t with len:=n }
   else return t
  else return t
def uE:PM XP:=do
 let out ←oW L [111,117,116]
 let l ←rV L
 let name ←qH L 1
 oA L [58]
 let ty ←uP L l
 return ⟨name.pos,name.text,ty,out⟩
def wJ {α:Type}(one:PM α):Nat→List α→PM (List α)
 | 0,_=>wB L 99
 | n+1,l=>do
  let x ←one
  if ←oW L [44] then wJ one n (l++[x]) else return l++[x]
def xL {α:Type}(end_:List UInt8) (one:PM α):PM (List α):=do
 if ←Eu L end_ then return [] else wJ L one 131073 []
def nE (w:List UInt8):Option (Nat×Nat) :=
 if w=[61,61] then some (0,17) else if w=[33,61] then some (0,18) else if w=[60] then some (0,19) else if w=[60,61] then some (0,20)
 else if w=[62] then some (0,21) else if w=[62,61] then some (0,22) else if w=[124] then some (1,12) else if w=[94] then some (2,13)
 else if w=[38] then some (3,11) else if w=[60,60] then some (4,14) else if w=[62,62] then some (4,15) else if w=[43] then some (5,8)
 else if w=[45] then some (5,9) else if w=[42] then some (6,10) else none
def pM (t:Token) (k:Nat):Option Nat :=
 if t.kind=4 then match nE t.text with
  | some (n,kind)=>if n=k then some kind else none
  | none=>none
 else none
section
variable (expr unary:PM XE)
def uD:PM (List XE):=do
 tH L [91]
 let x ←expr
 tI L [93]
 return [x]
def zN (name:Token):PM XE:=do
 tH L [40]
 let l ←xL L [41] expr
 tI L [41]
 return .mk 4 name.pos 0 name.text l
def tG:Nat→Bool→List XE→PM (List XE)
 | 0,_,l=>pure l
 | n+1,first,l=>do
  if !first then oA L [44]
  let x ←expr
  tG n false (l++[x])
def vQ (kind many:Nat) (number:Bool):PM XE:=do
 let t ←oF L
 wC
 tH L [40]
 let l ←tG L expr many true []
 if number then
  oA L [44]
  let n ←qH L 2
  tI L [41]
  return .mk kind t.pos n.num [] l
 else
  tI L [41]
  return .mk kind t.pos 0 [] l
def qE:PM XE:=do
 let t ←oF L
 if t.kind=2 then
  wC
  return .mk 1 t.pos t.num [] []
 else if isS t [40] then
  tH L [40]
  let x ←expr
  tI L [41]
  return x
 else if isS t [109,117,108,104,105] then vQ L expr 23 2 false
 else if isS t [99,97,114,114,121] then vQ L expr 24 2 false
 else if isS t [115,101,108,101,99,116] then vQ L expr 25 3 false
 else if isS t [119,111,114,100] then vQ L expr 26 1 false
 else if isS t [114,111,114] then vQ L expr 16 1 true
 else
  let _ ←qH L 1
  if ←Eu L [40] then zN L expr t
  else if ←Eu L [91] then
   let l ←uD L expr
   return .mk 3 t.pos 0 t.text l
  else return .mk 2 t.pos 0 t.text []
def AG (kind:Nat):PM XE:=do
 let t ←oF L
 tH L t.text
 let x ←unary
 pUp
 return .mk kind t.pos 0 [] [x]
def yG:PM XE:=do
 let t ←oF L
 if isS t [126] then AG L unary 5
 else if isS t [45] then AG L unary 6
 else if isS t [33] then AG L unary 7
 else qE L expr
end
def sQ (next:PM XE) (k:Nat):Nat→XE→PM XE
 | 0,_=>wB L 99
 | n+1,x=>do
  let t ←oF L
  match pM t k with
  | none=>return x
  | some kind =>
   wC
   if kind=14∨kind=15 then
    let c ←qH L 2
    sQ next k n (.mk kind t.pos c.num [] [x])
   else
    let y ←next
    sQ next k n (.mk kind t.pos 0 [] [x,y])
def oP (un:PM XE):Nat→PM XE
 | 0=>un
 | j+1=>do
  let x ←oP un j
  sQ L (oP un j) (6 - j) 131073 x
def A9 (un:PM XE):PM XE:=do
 let x ←oP L un 6
 let t ←oF L
 match pM t 0 with
 | none=>return x
 | some kind =>
  wC
  let y ←oP L un 6
  return .mk kind t.pos 0 [] [x,y]
def Dz:Nat→PM XE
 | 0=>wB L 99
 | n+1=>yG L (A9 L (Dz n)) (Dz n)
def AF (n:Nat):PM XE:=A9 L (Dz L n)
def AU (n:Nat):PM (List XE):=do
 let x ←AF L n
 oA L [59]
 return [x]
def o_ (n pos:Nat):PM XS:=do
 let name ←qH L 1
 if ←Eu L [40] then
  let c ←zN L (AF L (n - 1)) name
  oA L [59]
  return .mk 7 pos 0 [] ⟨0,0,0⟩ [c] [] [] false
 else if ←Eu L [91] then
  let i ←uD L (AF L (n - 1))
  oA L [61]
  let l ←AU L n
  return .mk 4 pos 0 name.text ⟨0,0,0⟩ (i++l) [] [] false
 else
  oA L [61]
  let l ←AU L n
  return .mk 3 pos 0 name.text ⟨0,0,0⟩ l [] [] false
def tS (block:PM (List XS)) (n:Nat):PM XS:=do
 let t ←oF L
 if ←oW L [108,101,116] then
  let name ←qH L 1
  oA L [61]
  let l ←AU L n
  return .mk 1 t.pos 0 name.text ⟨0,0,0⟩ l [] [] false
 else if ←oW L [118,97,114] then
  let lab ←rV L
  let name ←qH L 1
  oA L [58]
  let ty ←uP L lab
  oA L [59]
  return .mk 2 t.pos 0 name.text ty [] [] [] false
 else if ←oW L [105,102] then
  let x ←AF L n
  let b ←block
  if ←oW L [101,108,115,101] then
   let e ←block
   return .mk 5 t.pos 0 [] ⟨0,0,0⟩ [x] b e true
  else return .mk 5 t.pos 0 [] ⟨0,0,0⟩ [x] b [] false
 else if ←oW L [102,111,114] then
  let name ←qH L 1
  oA L [60]
  let x ←AF L n
  oA L [109,97,120]
  let m ←qH L 2
  let b ←block
  return .mk 6 t.pos m.num name.text ⟨0,0,0⟩ [x] b [] false
 else if ←oW L [114,101,116,117,114,110] then
  let l ←AU L n
  return .mk 8 t.pos 0 [] ⟨0,0,0⟩ l [] [] false
 else o_ L n t.pos
def vK (stmt:PM XS):Nat→List XS→PM (List XS)
 | 0,_=>wB L 99
 | m+1,l=>do
  if ←Eu L [125] then return l
  else
   let s ←stmt
   vK stmt m (l++[s])
def rN:Nat→PM (List XS)
 | 0=>wB L 99
 | n+1=>do
  tH L [123]
  let l ←vK L (tS L (rN n) n) 131073 []
  tI L [125]
  return l
def wI:PM XF:=do
 oA L [102,110]
 let name ←qH L 1
 oA L [40]
 let ps ←xL L [41] (uE L)
 oA L [41]
 if ←oW L [58] then
  let l ←rV L
  let ty ←qG L l
  let b ←rN L 65
  return ⟨name.pos,name.text,ps,true,ty,b⟩
 else
  let b ←rN L 65
  return ⟨name.pos,name.text,ps,false,⟨0,0,0⟩,b⟩
def pI:Nat→List XF→PM (List XF)
 | 0,_=>wB L 99
 | m+1,l=>do
  let t ←oF L
  if t.kind=0 then return l
  else
   let f ←wI L
   pI m (l++[f])
end
def oQ (s:List UInt8):List XF×Nat×Nat :=
 if (oL s).2.1=0 then match pI (oL s).1 131073 [] 0 0 with
  | .ok l _ _=>(l,0,0)
  | .bad e p _ _=>([],e,p)
 else([],(oL s).2.1,(oL s).2.2)
end
section
open Go Hk
def qF (L:List Token):Prop:=∀(i:Nat) (t:Token),L[i]?=some t→t.kind≠0→i+1 < L.length
def lV (L:List Token) {α:Type}(s:Nat) (k:Nat→Nat) (x:PM α):Prop :=
 ∀a d v a' d',x a d=.ok v a' d'→a < L.length→a+s≤a'∧a' < L.length∧d'=k d
section
variable {L:List Token}{α β:Type}
theorem MT {a:Nat}(h:a < L.length):L[a]?=some (tk L a):=by simp [tk,h]
theorem lV.mono {s s':Nat}{k k':Nat→Nat}{x:PM α}(hx:lV L s k x) (hs:s'≤s) (hk:∀d,k d=k' d):lV L s' k' x:=by
 intro a d v a' d' h ha
 obtain⟨h1,h2,h3⟩:=hx a d v a' d' h ha
 exact⟨by omega,h2,by rw [h3,hk]⟩
theorem lV.bind {s s':Nat}{k k':Nat→Nat}{x:PM α}{f:α→PM β}(hx:lV L s k x) (hf:∀v,lV L s' k' (f v)):lV L (s+s') (fun d=>k' (k d)) (x >>= f):=by
 intro a d v a' d' h ha
 rw [mD] at h
 unfold PM.bind at h
 cases hx1:x a d with
 | bad e p a1 d1=>rw [hx1] at h; cases h
 | ok v1 a1 d1 =>
  rw [hx1] at h
  obtain⟨h1,h2,h3⟩:=hx a d v1 a1 d1 hx1 ha
  obtain⟨h4,h5,h6⟩:=hf v1 a1 d1 v a' d' h h2
  exact⟨by omega,h5,by rw [h6,h3]⟩
theorem lV.pure {v:α}:lV L 0 (fun d=>d) (Pure.pure v:PM α):=by
 intro a d v' a' d' h ha
 cases h
 exact⟨ac8 _,ha,rfl⟩
theorem lV.fail {e:Nat}{s:Nat}{k:Nat→Nat}:lV L s k (wB L e:PM α):=by
 intro a d v a' d' h; cases h
theorem lV.ite {c:Prop} [Decidable c] {s:Nat}{k:Nat→Nat}{x y:PM α}(hx:lV L s k x) (hy:lV L s k y):lV L s k (if c then x else y):=by
 split
 ·exact hx
 ·exact hy
variable (hL:qF L)
include hL
theorem mH {a:Nat}{w:List UInt8}(ha:a < L.length) (h:isS (tk L a) w=true):a+1 < L.length:=by
 refine hL a _ (MT ha) fun h0=>?_
 simp [isS,h0] at h
theorem o9 {a k:Nat}(ha:a < L.length) (hk:k≠0) (h:(tk L a).kind=k):a+1 < L.length:=hL a _ (MT ha) (by omega)
omit hL in
theorem IK:lV L 0 (fun d=>d) (oF L):=by
 intro a d v a' d' h ha; cases h; exact⟨ac8 _,ha,rfl⟩
omit hL in
theorem Pz {w:List UInt8}:lV L 0 (fun d=>d) (Eu L w):=by
 intro a d v a' d' h ha; cases h; exact⟨ac8 _,ha,rfl⟩
theorem zD {w:List UInt8}:lV L 0 (fun d=>d) (oW L w):=by
 intro a d v a' d' h ha
 unfold oW at h
 cases h
 split
 ·rename_i hs; exact⟨by omega,mH hL ha hs,rfl⟩
 ·exact⟨by omega,ha,rfl⟩
theorem pR {w:List UInt8}:lV L 1 (fun d=>d) (oA L w):=by
 intro a d v a' d' h ha
 unfold oA at h
 split at h
 ·rename_i hs; cases h; exact⟨by omega,mH hL ha hs,rfl⟩
 ·cases h
theorem rL {k:Nat}(hk:k≠0):lV L 1 (fun d=>d) (qH L k):=by
 intro a d v a' d' h ha
 unfold qH at h
 split at h
 ·rename_i hs; cases h; exact⟨by omega,o9 hL ha hk hs,rfl⟩
 ·cases h
theorem x9 {w:List UInt8}:lV L 1 (fun d=>d+1) (tH L w):=by
 intro a d v a' d' h ha
 unfold tH at h
 split at h
 ·rename_i hs
  split at h
  ·cases h
  ·cases h; exact⟨by omega,mH hL ha hs,rfl⟩
 ·cases h
theorem yX {w:List UInt8}:lV L 1 (fun d=>d - 1) (tI L w):=by
 intro a d v a' d' h ha
 unfold tI at h
 split at h
 ·rename_i hs; cases h; exact⟨by omega,mH hL ha hs,rfl⟩
 ·cases h
theorem Ab:lV L 1 (fun d=>d) (rV L):=by
 intro a d v a' d' h ha
 unfold rV at h
 split at h
 ·rename_i hs; cases h; exact⟨by omega,mH hL ha hs,rfl⟩
 ·split at h
  ·rename_i hs; cases h; exact⟨by omega,mH hL ha hs,rfl⟩
  ·cases h
theorem CV {l:Nat}:lV L 1 (fun d=>d) (qG L l):=by
 intro a d v a' d' h ha
 unfold qG at h
 split at h
 ·rename_i hs; cases h; exact⟨by omega,mH hL ha hs,rfl⟩
 ·split at h
  ·rename_i hs; cases h; exact⟨by omega,mH hL ha hs,rfl⟩
  ·cases h
theorem L5:lV L 1 (fun d=>d) (xM L):=by
 unfold xM
 refine((pR hL).bind fun _=>IK.bind fun t=>(lV.ite lV.fail ?_:lV L 0 (fun d=>d) _)).mono (by omega) fun _=>rfl
 exact((rL hL (by decide)).bind fun _=>(pR hL).bind fun _=>lV.pure).mono (Nat.zero_le _) fun _=>rfl
theorem ET {l:Nat}:lV L 1 (fun d=>d) (uP L l):=by
 unfold uP
 refine((zD hL).bind (s':=1) (k':=fun d=>d) fun b=>lV.ite ?_ ?_).mono (by omega) fun _=>rfl
 ·exact((L5 hL).bind fun _=>lV.pure).mono (by omega) fun _=>rfl
 ·refine((CV hL).bind (s':=0) (k':=fun d=>d) fun t=>lV.ite ?_ lV.pure).mono (by omega) fun _=>rfl
  refine(Pz.bind (s':=0) (k':=fun d=>d) fun _=>lV.ite ?_ lV.pure).mono (by omega) fun _=>rfl
  exact((L5 hL).bind fun _=>lV.pure).mono (by omega) fun _=>rfl
theorem EU:lV L 1 (fun d=>d) (uE L):=by
 unfold uE
 exact((zD hL).bind fun _=>(Ab hL).bind fun _=>(rL hL (by omega)).bind fun _=>(pR hL).bind fun _=>(ET hL).bind fun _=>lV.pure).mono (by omega) fun _=>rfl
theorem Vp {one:PM α}(h1:lV L 1 (fun d=>d) one):∀(n:Nat) (l:List α),lV L 1 (fun d=>d) (wJ L one n l)
 | 0,_=>lV.fail
 | n+1,l=>(h1.bind (s':=0) (k':=fun d=>d) fun x=>((zD hL).bind (s':=0) (k':=fun d=>d) fun b=>lV.ite ((Vp h1 n _).mono (by omega) fun _=>rfl) lV.pure).mono (by omega) fun _=>rfl).mono (by omega) fun _=>rfl
theorem D6 {one:PM α}{w:List UInt8}(h1:lV L 1 (fun d=>d) one):lV L 0 (fun d=>d) (xL L w one):=by
 unfold xL
 exact(Pz.bind (s':=0) (k':=fun d=>d) fun b=>lV.ite lV.pure ((Vp hL h1 _ _).mono (by omega) fun _=>rfl)).mono (by omega) fun _=>rfl
section
variable {ex un:PM XE}(he:lV L 1 (fun d=>d) ex) (hu:lV L 1 (fun d=>d) un)
include he
theorem ES:lV L 1 (fun d=>d) (uD L ex):=by
 unfold uD
 exact((x9 hL).bind fun _=>he.bind fun _=>(yX hL).bind fun _=>lV.pure).mono (by omega) fun _=>am0 _ _
theorem L4 {t:Token}:lV L 1 (fun d=>d) (zN L ex t):=by
 unfold zN
 exact((x9 hL).bind fun _=>(D6 hL he).bind fun _=>(yX hL).bind fun _=>lV.pure).mono (by omega) fun _=>am0 _ _
theorem II:∀(n:Nat) (b:Bool) (l:List XE),lV L 0 (fun d=>d) (tG L ex n b l)
 | 0,_,_=>lV.pure
 | n+1,b,l=>by
  unfold tG
  have h1:lV L 0 (fun d=>d) (do let x ←ex; tG L ex n false (l++[x]):PM (List XE)):=(he.bind fun _=>II n _ _).mono (by omega) fun _=>rfl
  cases b
  ·exact((pR hL).bind fun _=>h1).mono (by omega) fun _=>rfl
  ·exact((lV.pure (v:=PUnit.unit)).bind fun _=>h1).mono (by omega) fun _=>rfl
end
omit hL
def p7 (L:List Token) {α:Type}(s:Nat) (k:Nat→Nat) (x:PM α) (a:Nat):Prop :=
 ∀d v a' d',x a d=.ok v a' d'→a+s≤a'∧a' < L.length∧d'=k d
theorem lV.at {s:Nat}{k:Nat→Nat}{x:PM α}(h:lV L s k x) {a:Nat}(ha:a < L.length):p7 L s k x a:=fun d v a' d' hx=>h a d v a' d' hx ha
theorem p7.all {s:Nat}{k:Nat→Nat}{x:PM α}(h:∀a,a < L.length→p7 L s k x a):lV L s k x:=fun a d v a' d' hx ha=>h a ha d v a' d' hx
theorem p7.here {s:Nat}{k:Nat→Nat}{f:Token→PM α}{a:Nat}(h:p7 L s k (f (tk L a)) a):p7 L s k (oF L >>= f) a:=fun d v a' d' hx=>h d v a' d' hx
theorem p7.next {s:Nat}{k:Nat→Nat}{f:Unit→PM α}{a:Nat}(ha:a+1 < L.length) (h:lV L s k (f ())):p7 L (s+1) k (wC >>= f) a:=fun d v a' d' hx=>by
 obtain⟨h1,h2,h3⟩:=h (a+1) d v a' d' hx ha
 exact⟨by omega,h2,h3⟩
theorem p7.mono {s s':Nat}{k k':Nat→Nat}{x:PM α}{a:Nat}(hx:p7 L s k x a) (hs:s'≤s) (hk:∀d,k d=k' d):p7 L s' k' x a:=by
 intro d v a' d' h
 obtain⟨h1,h2,h3⟩:=hx d v a' d' h
 exact⟨by omega,h2,by rw [h3,hk]⟩
theorem p7.ite {c:Prop} [Decidable c] {s:Nat}{k:Nat→Nat}{x y:PM α}{a:Nat}(hx:c→p7 L s k x a) (hy:¬c→p7 L s k y a):p7 L s k (if c then x else y) a:=by
 split
 ·rename_i h; exact hx h
 ·rename_i h; exact hy h
theorem awU:lV L 0 (fun d=>d - 1) pUp:=by
 intro a d v a' d' h ha; cases h; exact⟨ac8 _,ha,rfl⟩
include hL
section
variable {ex un:PM XE}(he:lV L 1 (fun d=>d) ex) (hu:lV L 1 (fun d=>d) un)
include he
theorem IL {kind many a:Nat}{number:Bool}(ha:a+1 < L.length):p7 L 1 (fun d=>d) (vQ L ex kind many number) a:=by
 unfold vQ
 refine p7.here ((p7.next (s:=1) (k:=fun d=>d) ha ?_).mono (by omega) fun _=>rfl)
 refine((x9 hL).bind (s':=1) (k':=fun d=>d - 1) fun _=>((II hL he _ _ _).bind (s':=1) (k':=fun d=>d - 1) fun l=>lV.ite ?_ ?_).mono (by omega) fun _=>rfl).mono (by omega) fun _=>am0 _ _
 ·exact((pR hL).bind fun _=>(rL hL (by omega)).bind fun _=>(yX hL).bind fun _=>lV.pure).mono (by omega) fun _=>rfl
 ·exact((yX hL).bind fun _=>lV.pure).mono (by omega) fun _=>rfl
theorem SN:lV L 1 (fun d=>d) (qE L ex):=by
 unfold qE
 refine p7.all fun a ha=>p7.here ?_
 refine p7.ite (fun h=>?_) fun _=>p7.ite (fun h=>?_) fun _=>p7.ite (fun h=>IL hL he (mH hL ha h)) fun _=>p7.ite (fun h=>IL hL he (mH hL ha h)) fun _ =>
  p7.ite (fun h=>IL hL he (mH hL ha h)) fun _=>p7.ite (fun h=>IL hL he (mH hL ha h)) fun _=>p7.ite (fun h=>IL hL he (mH hL ha h)) fun _=>lV.at ?_ ha
 ·exact p7.next (s:=0) (k:=fun d=>d) (f:=fun _=>pure _) (o9 (k:=2) hL ha (by decide) h) lV.pure
 ·refine lV.at ?_ ha
  exact((x9 hL).bind fun _=>he.bind fun _=>(yX hL).bind fun _=>lV.pure).mono (by omega) fun _=>am0 _ _
 ·refine((rL hL (by omega)).bind (s':=0) (k':=fun d=>d) fun _=>(Pz.bind (s':=0) (k':=fun d=>d) fun _=>lV.ite ?_ ?_).mono (by omega) fun _=>rfl).mono (by omega) fun _=>rfl
  ·exact(L4 hL he).mono (by omega) fun _=>rfl
  ·refine(Pz.bind (s':=0) (k':=fun d=>d) fun _=>lV.ite ?_ lV.pure).mono (by omega) fun _=>rfl
   exact((ES hL he).bind fun _=>lV.pure).mono (by omega) fun _=>rfl
include hu
theorem Zq:lV L 1 (fun d=>d) (yG L ex un):=by
 have hs:∀kind,lV L 1 (fun d=>d) (AG L un kind):=fun kind=>by
  unfold AG
  exact(IK.bind fun t=>(x9 hL).bind fun _=>hu.bind fun _=>awU.bind fun _=>lV.pure).mono (by omega) fun _=>am0 _ _
 unfold yG
 exact(IK.bind (s':=1) (k':=fun d=>d) fun t=>lV.ite (hs _) (lV.ite (hs _) (lV.ite (hs _) (SN hL he)))).mono (by omega) fun _=>rfl
end
omit hL in
theorem rA {t:Token}{k kind:Nat}(h:pM t k=some kind):t.kind=4:=by
 unfold pM at h
 split at h
 ·assumption
 ·cases h
theorem PC {next:PM XE}(hn:lV L 1 (fun d=>d) next) (k:Nat):∀(n:Nat) (x:XE),lV L 0 (fun d=>d) (sQ L next k n x)
 | 0,_=>lV.fail
 | n+1,x=>by
  unfold sQ
  refine p7.all fun a ha=>p7.here ?_
  cases hs:pM (tk L a) k with
  | none=>exact lV.pure.at ha
  | some kind =>
   refine(p7.next (s:=0) (k:=fun d=>d) (o9 (k:=4) hL ha (by decide) (rA hs)) (lV.ite ?_ ?_)).mono (by omega) fun _=>rfl
   ·exact((rL hL (by omega)).bind fun _=>PC hn k n _).mono (by omega) fun _=>rfl
   ·exact(hn.bind fun _=>PC hn k n _).mono (by omega) fun _=>rfl
theorem Aa {un:PM XE}(hu:lV L 1 (fun d=>d) un):∀j,lV L 1 (fun d=>d) (oP L un j)
 | 0=>hu
 | j+1=>((Aa hu j).bind fun _=>PC hL (Aa hu j) _ _ _).mono (by omega) fun _=>rfl
theorem Vo {un:PM XE}(hu:lV L 1 (fun d=>d) un):lV L 1 (fun d=>d) (A9 L un):=by
 unfold A9
 refine((Aa hL hu 6).bind (s':=0) (k':=fun d=>d) fun x=>p7.all fun a ha=>p7.here ?_).mono (by omega) fun _=>rfl
 cases hs:pM (tk L a) 0 with
 | none=>exact lV.pure.at ha
 | some kind =>
  refine(p7.next (s:=0) (k:=fun d=>d) (o9 (k:=4) hL ha (by decide) (rA hs)) ?_).mono (by omega) fun _=>rfl
  exact((Aa hL hu 6).bind fun _=>lV.pure).mono (by omega) fun _=>rfl
theorem L7:∀n,lV L 1 (fun d=>d) (Dz L n)
 | 0=>lV.fail
 | n+1=>Zq hL (Vo hL (L7 n)) (L7 n)
theorem Bm (n:Nat):lV L 1 (fun d=>d) (AF L n):=Vo hL (L7 hL n)
theorem GC (n:Nat):lV L 1 (fun d=>d) (AU L n):=by
 unfold AU
 exact((Bm hL n).bind fun _=>(pR hL).bind fun _=>lV.pure).mono (by omega) fun _=>rfl
theorem Zp (n pos:Nat):lV L 1 (fun d=>d) (o_ L n pos):=by
 unfold o_
 refine((rL hL (by omega)).bind (s':=0) (k':=fun d=>d) fun _=>(Pz.bind (s':=0) (k':=fun d=>d) fun _=>lV.ite ?_ ?_).mono (by omega) fun _=>rfl).mono (by omega) fun _=>rfl
 ·exact((L4 hL (Bm hL _)).bind fun _=>(pR hL).bind fun _=>lV.pure).mono (by omega) fun _=>rfl
 ·refine(Pz.bind (s':=0) (k':=fun d=>d) fun _=>lV.ite ?_ ?_).mono (by omega) fun _=>rfl
  ·exact((ES hL (Bm hL _)).bind fun _=>(pR hL).bind fun _=>(GC hL _).bind fun _=>lV.pure).mono (by omega) fun _=>rfl
  ·exact((pR hL).bind fun _=>(GC hL _).bind fun _=>lV.pure).mono (by omega) fun _=>rfl
theorem L6 {block:PM (List XS)}(hb:lV L 1 (fun d=>d) block) (n:Nat):lV L 1 (fun d=>d) (tS L block n):=by
 unfold tS
 refine(IK.bind (s':=1) (k':=fun d=>d) fun _=>((zD hL).bind (s':=1) (k':=fun d=>d) fun _=>lV.ite ?_ ?_).mono (by omega) fun _=>rfl).mono (by omega) fun _=>rfl
 ·exact((rL hL (by omega)).bind fun _=>(pR hL).bind fun _=>(GC hL _).bind fun _=>lV.pure).mono (by omega) fun _=>rfl
 refine((zD hL).bind (s':=1) (k':=fun d=>d) fun _=>lV.ite ?_ ?_).mono (by omega) fun _=>rfl
 ·exact((Ab hL).bind fun _=>(rL hL (by omega)).bind fun _=>(pR hL).bind fun _=>(ET hL).bind fun _=>(pR hL).bind fun _=>lV.pure).mono (by omega) fun _=>rfl
 refine((zD hL).bind (s':=1) (k':=fun d=>d) fun _=>lV.ite ?_ ?_).mono (by omega) fun _=>rfl
 ·refine((Bm hL n).bind (s':=1) (k':=fun d=>d) fun _=>(hb.bind (s':=0) (k':=fun d=>d) fun _=>((zD hL).bind (s':=0) (k':=fun d=>d) fun _=>lV.ite ?_ lV.pure).mono (by omega) fun _=>rfl).mono (by omega) fun _=>rfl).mono (by omega) fun _=>rfl
  exact(hb.bind fun _=>lV.pure).mono (by omega) fun _=>rfl
 refine((zD hL).bind (s':=1) (k':=fun d=>d) fun _=>lV.ite ?_ ?_).mono (by omega) fun _=>rfl
 ·exact((rL hL (by omega)).bind fun _=>(pR hL).bind fun _=>(Bm hL n).bind fun _=>(pR hL).bind fun _=>(rL hL (by omega)).bind fun _=>hb.bind fun _=>lV.pure).mono (by omega) fun _=>rfl
 refine((zD hL).bind (s':=1) (k':=fun d=>d) fun _=>lV.ite ?_ (Zp hL _ _)).mono (by omega) fun _=>rfl
 exact((GC hL n).bind fun _=>lV.pure).mono (by omega) fun _=>rfl
omit hL in
theorem Hi {stmt:PM XS}(hs:lV L 1 (fun d=>d) stmt):∀(m:Nat) (l:List XS),lV L 0 (fun d=>d) (vK L stmt m l)
 | 0,_=>lV.fail
 | m+1,l=>(Pz.bind (s':=0) (k':=fun d=>d) fun _=>lV.ite lV.pure ((hs.bind fun _=>Hi hs m _).mono (by omega) fun _=>rfl)).mono (by omega) fun _=>rfl
theorem z_:∀n,lV L 1 (fun d=>d) (rN L n)
 | 0=>lV.fail
 | n+1=>((x9 hL).bind fun _=>(Hi (L6 hL (z_ n) n) _ _).bind fun _=>(yX hL).bind fun _=>lV.pure).mono (by omega) fun _=>am0 _ _
theorem IJ:lV L 1 (fun d=>d) (wI L):=by
 unfold wI
 refine((pR hL).bind fun _=>(rL hL (by omega)).bind fun _=>(pR hL).bind fun _=>(D6 hL (EU hL)).bind fun _=>(pR hL).bind fun _=>((zD hL).bind (s':=0) (k':=fun d=>d) fun _=>lV.ite ?_ ?_)).mono (by omega) fun _=>rfl
 ·exact((Ab hL).bind fun _=>(CV hL).bind fun _=>(z_ hL _).bind fun _=>lV.pure).mono (by omega) fun _=>rfl
 ·exact((z_ hL _).bind fun _=>lV.pure).mono (by omega) fun _=>rfl
end
end
section
open Go Hk
def Fq (n:Nat) (C:List lH):Prop:=∀m h,n≤m→nA m h C=some C
def Bg (n:Nat) (cs:List kH):Prop:=∀m h,n≤m→mW m h cs=some cs
section
variable {n:Nat}
theorem Fq.mono {k:Nat}{C:List lH}(h:Fq n C) (hk:n≤k):Fq k C:=fun m x hm=>h m x (Nat.le_trans hk hm)
theorem Ba {m:Nat}{h:kL}:∀{B C:List lH},nA m h B=some B→nA m h C=some C→nA m h (B++C)=some (B++C)
 | [],_,_,h2=>h2
 | b::r,C,h1,h2=>by
  simp only [nA] at h1
  split at h1
  ·rename_i b' r' e1 e2
   simp only [Option.some.injEq,List.cons.injEq] at h1
   obtain⟨rfl,rfl⟩:=h1
   simp only [List.cons_append,nA,e1,Ba e2 h2]
  ·cases h1
theorem Yu {B C:List lH}(h1:Fq n B) (h2:Fq n C):Fq n (B++C):=fun m h hm=>Ba (h1 m h hm) (h2 m h hm)
theorem Yv:Fq n []:=fun _ _ _=>rfl
theorem Sa {i j:Nat}{C:List lH}(h:Fq n C):Fq n (.front i j::C):=fun m x hm=>by simp [h m x hm]
theorem R_ {cs:List kH}{C:List lH}(h1:Bg n cs) (h:Fq n C):Fq n (.cells cs::C):=fun m x hm=>by simp [h m x hm,h1 m x hm]
theorem QO:Bg n []:=fun _ _ _=>rfl
end
section
variable {n:Nat}
theorem JU {i j:Nat}{C:List lH}:Fq n (.front i j::C)↔Fq n C:=⟨fun h m x hm=>by
 have:=h m x hm
 simp only [nS,MO,ae3,ac9] at this
 obtain⟨r,h1,h2⟩:=this
 cases h2; exact h1,Sa⟩
theorem Lp {C:List lH}:Fq n (.gone::C)↔Fq n C:=⟨fun h m x hm=>by
 have:=h m x hm
 have e:o6 m x .gone=some .gone:=rfl
 simp only [nS,e,ae3,ac9] at this
 obtain⟨r,h1,h2⟩:=this
 cases h2; exact h1,fun h m x hm=>by
 have e:o6 m x .gone=some .gone:=rfl
 simp only [nS,e,ae3,h m x hm,Option.map_some]⟩
theorem JT {cs:List kH}{C:List lH}:Fq n (.cells cs::C)↔Bg n cs∧Fq n C:=⟨fun h=>by
 have key:∀m x,n≤m→mW m x cs=some cs∧nA m x C=some C:=fun m x hm=>by
  have:=h m x hm
  simp only [nS,Fj,Option.bind_eq_some_iff,ac9] at this
  obtain⟨b,⟨c,h1,h2⟩,r,h3,h4⟩:=this
  cases h2; cases h4; exact⟨h1,h3⟩
 exact⟨fun m x hm=>(key m x hm).1,fun m x hm=>(key m x hm).2⟩,fun h=>R_ h.1 h.2⟩
theorem Dh {v:kH}{cs:List kH}(hv:∀m x,n≤m→v.mT m x=v) (hc:v.lY=true):Bg n (v::cs)↔Bg n cs:=by
 constructor
 ·intro h m x hm
  have:=h m x hm
  simp only [rR,hv m x hm,hc,cond_true,ac9] at this
  obtain⟨r,h1,h2⟩:=this
  cases h2; exact h1
 ·intro h m x hm
  simp only [rR,hv m x hm,hc,cond_true,h m x hm,Option.map_some]
theorem M5 {k:IntKind}{z:Int}{cs:List kH}:Bg n (.int k z::cs)↔Bg n cs:=Dh (fun _ _ _=>rfl) rfl
theorem M8 {z:List UInt8}{cs:List kH}:Bg n (.str z::cs)↔Bg n cs:=Dh (fun _ _ _=>rfl) rfl
theorem Ln {z:Bool}{cs:List kH}:Bg n (.bool z::cs)↔Bg n cs:=Dh (fun _ _ _=>rfl) rfl
theorem JS {rows:List (List kH)}{cs:List kH}:Bg n (.slice rows .no::cs)↔Bg n cs:=Dh (fun _ _ _=>rfl) rfl
theorem M6 {rows:List (List kH)}{id:Nat}{cs:List kH}:Bg n (.slice rows (.own id)::cs)↔id < n∧Bg n cs:=by
 have key:∀hi:id < n,Bg n (.slice rows (.own id)::cs)↔Bg n cs:=fun hi=>Dh (fun m x hm=>by
  have:id < m:=by omega
  simp [this]) rfl
 constructor
 ·intro h
  have hi:id < n:=by
   have:=h n [] (ac8 _)
   by_cases hi:id < n
   ·exact hi
   ·exfalso
    simp only [rR,OH,decide_eq_false hi,cond_false,LN,cond_true,ac9] at this
    obtain⟨r,h1,h2⟩:=this
    cases h2
  exact⟨hi,(key hi).1 h⟩
 ·rintro⟨hi,h⟩
  exact(key hi).2 h
end
def HN (A B:List lH):Nat:=A.length+1+B.length
structure KB (A B:List lH):Prop where
 a:∀n,HN A B≤n→Fq n A
 b:∀n,HN A B≤n→Fq n B
section
variable {A B C:List lH}{L:List Token}{a d k:Nat}
theorem Bh:HN A (B++C)=HN A B+C.length:=by simp [HN]; omega
theorem KB.app (h:KB A B) (hC:Fq (HN A B+C.length) C):KB A (B++C):=by
 refine⟨fun n hn=>?_,fun n hn=>?_⟩
 ·rw [Bh] at hn
  exact(h.a (HN A B) (ac8 _)).mono (by omega)
 ·rw [Bh] at hn
  exact Yu ((h.b (HN A B) (ac8 _)).mono (by omega)) (hC.mono hn)
theorem NX {cs:List kH}{C:List lH}:o8 (.cells cs::C) 0=.gone::C:=(rfl)
theorem PI {b:lH}{C:List lH}{k:Nat}:o8 (b::C) (k+1)=b::o8 C k:=by
 unfold o8
 simp only [List.getElem?_cons_succ]
 cases C[k]? with
 | none=>rfl
 | some b=>cases b <;> rfl
theorem Kw {cs:List kH}{b:lH}{C C':List lH}:mU (.cells cs::C) (b::C') 0=.cells cs::C':=(rfl)
theorem MW {b b':lH}{C C':List lH}{k:Nat}:mU (b::C) (b'::C') (k+1)=b'::mU C C' k:=by
 unfold mU
 simp only [List.getElem?_cons_succ]
 cases C[k]? with
 | none=>rfl
 | some b=>cases b <;> rfl
theorem VC {h:kL}:nB [] h=h:=(rfl)
theorem SS {h:kL}{i:Nat}{ids:List Nat}:nB (i::ids) h=nB ids (o8 h i):=(rfl)
theorem QE {h h':kL}:lM [] h h'=h':=(rfl)
theorem O0 {h h':kL}{i:Nat}{ids:List Nat}:lM (i::ids) h h'=lM ids h (mU h h' i):=(rfl)
theorem Pf {i o:Nat}:oR (.ptr i o)=some i:=(rfl)
theorem Ns {cs:List kH}:oR (.pptr cs)=none:=(rfl)
end
section
variable {α:Type}{enc:α→kH}{A B:List lH}{L:List Token}{a d e p:Nat}{v:α}
end
def tJ:Unit→kH:=fun _=>.tuple []
def xA:Token→kH:=fun t=>.agg t.cells
def Kl:Nat→kH:=fun n=>.int .i64 (n:Int)
section
variable {L:List Token}(hL:L.length≤131072)
attribute [simp] NX PI Kw MW VC SS QE O0 Pf Ns k_
attribute [simp] Bh
attribute [simp] KB.app Yv JU Lp JT QO M5 M8 Ln JS M6
attribute [simp] lO lC putCells MT lR sM apart
theorem alT {L:List Token}{a:Nat}{h:a < L.length}:L[a]'h=tk L a:=by simp [tk,h]
attribute [simp] alT
theorem uJ {a:Nat}(h:a≤9223372036854775806):IntKind.wrap .i64 ((a:Int)+1)=(a:Int)+1:=by rw [wrap64] <;> omega
theorem wrapN {a:Nat}(h:a≤9223372036854775807):IntKind.wrap .i64 (a:Int)=(a:Int):=by rw [wrap64] <;> omega
include hL
def Ty.cells (t:Ty):List kH:=[.int .i64 (t.elem:Int),.int .i64 (t.len:Int),.int .i64 (t.label:Int)]
def zQ (t:Ty):kH:=.agg t.cells
end
end
section
open Go Hk
attribute [simp] mD PM.bind Eu oF oW oA qH wB tH tI wC pUp xA tJ Kl zQ Ty.cells Token.cells
section
variable {L:List Token}(hL:L.length≤131072) (hK:qF L)
include hL hK
end
end
section
open Go Hk
@[simp] theorem Ym {A B:List lH}{j k:Nat}:HN A B+j+k=HN A B+(j+k):=Nat.add_assoc _ _ _
@[simp] theorem dec_lt {n k:Nat}:decide (n+k < n)=false:=by simp
structure QR {α:Type}(enc:α→List kH) (sz:Nat):Prop where
 len:∀x,(enc x).length=sz
 pure:∀x,nK (enc x)=some (enc x)
 ok:∀x,(enc x).all kH.lY=true
theorem uM {cs zero:List kH}{sz:Nat}{h:kL}(hl:cs.length=sz) (hz:zero.length=sz) (hp:nK cs=some cs) (ho:cs.all kH.lY=true) :
  kU 1 sz zero [(0,.agg cs)] h=some (.slice [cs] (.own h.length),h++[.front 1 sz]):=by
 have e1:lR (List.replicate 1 zero).flatten ((List.range 1).map fun i=>(i * sz,sz)) [(0,.agg cs)]=some (.agg cs):=by
  simp [lR,hl,hz,putCells,kH.oM,List.range_succ]
 simp only [kU,rW,e1,hp,hz,ho,and_self,if_true,rowsOf]
 rw [←hl,List.take_length]
section
variable {A B C:List lH}{L:List Token}{a d k:Nat}
end
end
section
open Go Hk
def XP.cells (x:XP):List kH:=[.int .i64 (x.pos:Int),.str x.name,.int .i64 (x.ty.elem:Int),.int .i64 (x.ty.len:Int),.int .i64 (x.ty.label:Int),.bool x.out]
def sK (n sz:Nat):Nat:=if n=0 then 0 else sz
theorem rD {sz:Nat}:sK 0 sz=0:=(rfl)
theorem rC {n sz:Nat}:sK (n+1) sz=sz:=by simp [sK]
theorem Bl (n sz:Nat):sK n sz=sz∨n=0∧sK n sz=0:=by by_cases h:n=0 <;> simp [sK,h]
theorem XP.row:QR XP.cells 6:=⟨fun _=>rfl,fun _=>rfl,fun _=>rfl⟩
mutual
def XE.cells:XE→List kH
 | .mk k p n name args=>[.int .i64 (k:Int),.int .i64 (p:Int),.int .i64 (n:Int),.str name,.slice (XE.rows args) .no]
def XE.rows:List XE→List (List kH)
 | []=>[]
 | x::r=>x.cells::XE.rows r
end
theorem XE.oK:∀l:List XE,XE.rows l=l.map XE.cells
 | []=>rfl
 | x::r=>by simp [XE.rows,XE.oK r]
theorem XE.row:QR XE.cells 5:=⟨fun x=>by cases x; simp [XE.cells],fun x=>by cases x; simp [XE.cells,nK,kH.A_],fun x=>by cases x; simp [XE.cells]⟩
section
variable {L:List Token}(hL:L.length≤131072) (hK:qF L)
include hL hK
end
end
section
open Go Hk
section
variable {x:XE}{n m:Nat}{h:kL}
@[simp] theorem ayU:x.cells.length=5:=XE.row.len x
@[simp] theorem R5:x.cells.take 5=x.cells:=List.take_of_length_le (by simp)
theorem asW:∀c∈x.cells,c.lY=true:=by simpa using XE.row.ok x
@[simp] theorem ayV:(∀c,c∈x.cells→c.lY=true)=True:=eq_true asW
@[simp] theorem asV {os:List kH}:o0 h os x.cells=x.cells:=qB (by cases x; simp [XE.cells,kH.isNil])
@[simp] theorem au3:x.cells.map (kH.sP∘fun c=>kH.mT m h c)=x.cells:=by cases x; simp [XE.cells]
@[simp] theorem ayT:Bg n x.cells:=by cases x; simp [XE.cells]
@[simp] theorem XJ:kU 1 5 [.int .i64 0,.int .i64 0,.int .i64 0,.str [],.slice [] .nil] [(0,.agg x.cells)] h=some (.slice [x.cells] (.own h.length),h++[.front 1 5]) :=
 uM (XE.row.len x) rfl (XE.row.pure x) (XE.row.ok x)
end
def qV (x:XE):kH:=.agg x.cells
def Kh (l:List XE):kH:=.slice (l.map XE.cells) .no
attribute [simp] qV Kh
section
variable {L:List Token}(hL:L.length≤131072) (hK:qF L)
def dk (n d:Nat):Prop:=d+n=65∧d≤64
theorem dk.up {n d:Nat}(h:dk (n+1) d) (hd:¬d=64):dk n (d+1):=⟨by have:=h.1; omega,by have:=h.2; omega⟩
include hL hK
section
variable {n:Nat}{ex:PM XE}(hg:lV L 1 (fun d=>d) ex)
include hg
end
end
end
section
open Go Hk
section
variable {L:List Token}(hL:L.length≤131072) (hK:qF L)
variable {n:Nat}{ex:PM XE}(hg:lV L 1 (fun d=>d) ex)
include hL hK hg
end
end
section
open Go Hk
section
variable {L:List Token}(hL:L.length≤131072) (hK:qF L)
variable {n:Nat}{ex un:PM XE}(hg:lV L 1 (fun d=>d) ex) (hgu:lV L 1 (fun d=>d) un)
include hL hK hg hgu
end
end
section
open Go Hk
def w9 (h:kL) (id:Nat):Bool:=match h[id]? with
 | some .free=>true
 | _=>false
theorem IT {h:kL}{id:Nat}:w9 h id=true→h[id]?=some .free:=by
 unfold w9
 split
 ·rename_i e; exact fun _=>e
 ·intro h; cases h
section
variable {A B C:List lH}{L:List Token}{a d k:Nat}{h:kL}
theorem Ak {id n:Nat}{v:kH}(hf:w9 h id=true):vG id n h v=if v.cells.length=n∧v.cells.all kH.lY then some (.ptr id 0,h.set id (.cells v.cells)) else none:=by
 unfold vG
 simp only [IT hf]
end
end
section
open Go Hk
@[simp] theorem ac4 {x:XE}:x.cells.drop 5=[]:=List.drop_eq_nil_iff.2 (by simp)
@[simp] theorem azK {h:kL}{os:List kH}{k1 k2 k3:IntKind}{z1 z2 z3:Int}{w:List UInt8}{rows:List (List kH)}{id:Nat} :
  o0 h os [.int k1 z1,.int k2 z2,.int k3 z3,.str w,.slice rows (.own id)]=[.int k1 z1,.int k2 z2,.int k3 z3,.str w,.slice rows (.own id)] :=
 qB (by
  intro c hc
  simp only [List.mem_cons,List.not_mem_nil,or_false] at hc
  rcases hc with rfl | rfl | rfl | rfl | rfl <;> first | rfl | (cases rows <;> rfl))
section
variable {L:List Token}(hL:L.length≤131072) (hK:qF L)
variable {n:Nat}{next:PM XE}{k:Nat}(hgn:lV L 1 (fun d=>d) next)
include hL hK hgn
end
section
variable {L:List Token}(hL:L.length≤131072) (hK:qF L)
variable {n:Nat}{un:PM XE}(hgu:lV L 1 (fun d=>d) un)
include hL hK hgu
end
end
section
open Go Hk
section
variable {L:List Token}(hL:L.length≤131072) (hK:qF L)
include hL hK
end
end
section
open Go Hk
mutual
def XS.cells:XS→List kH
 | .mk k p m name ty args body els has=>[.int .i64 (k:Int),.int .i64 (p:Int),.int .i64 (m:Int),.str name,.int .i64 (ty.elem:Int),.int .i64 (ty.len:Int),.int .i64 (ty.label:Int),
   .slice (args.map XE.cells) .no,.slice (XS.rows body) .no,.slice (XS.rows els) .no,.bool has]
def XS.rows:List XS→List (List kH)
 | []=>[]
 | x::r=>x.cells::XS.rows r
end
theorem XS.oK:∀l:List XS,XS.rows l=l.map XS.cells
 | []=>rfl
 | x::r=>by simp [XS.rows,XS.oK r]
theorem XS.row:QR XS.cells 11:=⟨fun x=>by cases x; simp [XS.cells],fun x=>by cases x; simp [XS.cells,nK,kH.A_],fun x=>by cases x; simp [XS.cells]⟩
section
variable {L:List Token}(hL:L.length≤131072) (hK:qF L)
include hL hK
end
end
section
open Go Hk
section
variable {x:XS}{n m:Nat}{h:kL}
@[simp] theorem ayY:x.cells.length=11:=XS.row.len x
end
def MK (x:XS):kH:=.agg x.cells
def xZ (l:List XS):kH:=.slice (l.map XS.cells) .no
attribute [simp] MK xZ
section
variable {L:List Token}(hL:L.length≤131072) (hK:qF L)
include hL hK
end
end
section
open Go Hk
section
variable {L:List Token}(hL:L.length≤131072) (hK:qF L)
include hL hK
def XF.cells (f:XF):List kH:=[.int .i64 (f.pos:Int),.str f.name,.slice (f.params.map XP.cells) .no,.bool f.has,.int .i64 (f.result.elem:Int),.int .i64 (f.result.len:Int),.int .i64 (f.result.label:Int),.slice (f.body.map XS.cells) .no]
def Zk (f:XF):kH:=.agg f.cells
attribute [simp] Zk
omit hL hK in
theorem XF.row:QR XF.cells 8:=⟨fun _=>rfl,fun _=>rfl,fun _=>rfl⟩
end
end
section
open Go Hk
section
variable {x:XF}{n m:Nat}{h:kL}
@[simp] theorem ayW:x.cells.length=8:=rfl
@[simp] theorem asZ:kU 1 8 [.int .i64 0,.str [],.slice [] .nil,.bool false,.int .i64 0,.int .i64 0,.int .i64 0,.slice [] .nil] [(0,.agg x.cells)] h=some (.slice [x.cells] (.own h.length),h++[.front 1 8]) :=
 uM (XF.row.len x) rfl (XF.row.pure x) (XF.row.ok x)
end
section
variable {L:List Token}(hL:L.length≤131072) (hK:qF L)
include hL hK
end
theorem Dr {s:List UInt8}(h:(oL s).2.1=0):∃l:List Token,oL s=(l++[⟨0,s.length,0,[]⟩],0,0)∧(∀x∈l,Fact s x)∧l.Pairwise (fun x y=>x.pos < y.pos):=by
 unfold oL at h ⊢
 split at h
 ·cases h
 ·rename_i hs
  rw [if_neg hs]
  rcases Bn s 0 [] with ⟨p,hp⟩ | ⟨l,hl,h1,h2⟩
  ·rw [hp] at h; cases h
  ·exact⟨l,by simpa using hl,fun x hx=>(h1 x hx).2,h2⟩
theorem BP {l:List Token}{n:Nat}:qF (l++[⟨0,n,0,[]⟩]):=by
 intro i t hi hk
 by_cases h:i < l.length
 ·simp; omega
 ·rw [List.getElem?_append_right (by omega)] at hi
  obtain⟨h1,h2⟩:=List.getElem?_eq_some_iff.1 hi
  simp at h1
  have:i - l.length=0:=by omega
  rw [←h2] at hk
  simp [this] at hk
end
section
open Go Hk
def Out.idx {α:Type}:Out α→Nat
 | .ok _ a _=>a
 | .bad _ _ a _=>a
structure Loc {α:Type}(x:List Token→PM α):Prop where
 mono:∀L a d,a≤(x L a d).idx
 loc:∀L L' a d,(∀i,i≤(x L a d).idx→tk L' i=tk L i)→x L' a d=x L a d
 place:∀L a d e p a' d',x L a d=.bad e p a' d'→p=(tk L a').pos∧e≠0
theorem Loc.bind {α β:Type}{x:List Token→PM α}{f:List Token→α→PM β}(hx:Loc x) (hf:∀v,Loc fun L=>f L v):Loc fun L=>x L >>= f L where
 mono:=fun L a d=>by
  have h1:=hx.mono L a d
  simp only [mD,PM.bind]
  cases h:x L a d with
  | ok v a' d'=>rw [h] at h1; exact Nat.le_trans h1 ((hf v).mono L a' d')
  | bad e p a' d'=>rw [h] at h1; exact h1
 loc:=fun L L' a d hh=>by
  have h1:=hx.mono L a d
  have h2:=hx.loc L L' a d
  simp only [mD,PM.bind] at hh ⊢
  cases h:x L a d with
  | ok v a' d' =>
   rw [h] at hh h1 h2
   simp only [] at hh
   have h3:=(hf v).mono L a' d'
   rw [h2 fun i hi=>hh i (Nat.le_trans hi h3)]
   exact(hf v).loc L L' a' d' hh
  | bad e p a' d' =>
   rw [h] at hh h2
   rw [h2 hh]
 place:=fun L a d e p a' d' hb=>by
  simp only [mD,PM.bind] at hb
  cases h:x L a d with
  | ok v a1 d1=>rw [h] at hb; exact(hf v).place L a1 d1 e p a' d' hb
  | bad e1 p1 a1 d1=>rw [h] at hb; cases hb; exact hx.place L a d _ _ _ _ h
theorem Loc.pure {α:Type}{v:α}:Loc fun _=>(Pure.pure v:PM α) :=
 ⟨fun _ _ _=>ac8 _,fun _ _ _ _ _=>rfl,fun _ _ _ _ _ _ _ h=>by cases h⟩
theorem Loc.ite {α:Type}{c:Prop} [Decidable c] {x y:List Token→PM α}(hx:Loc x) (hy:Loc y):Loc fun L=>if c then x L else y L:=by
 by_cases h:c
 ·simp only [h,if_true]; exact hx
 ·simp only [h,if_false]; exact hy
theorem Loc.opt {α:Type}{o:Option Nat}{x:List Token→PM α}{f:List Token→Nat→PM α}(hx:Loc x) (hf:∀k,Loc fun L=>f L k):Loc fun L=>(match o with | none=>x L | some k=>f L k):=by
 cases o with
 | none=>exact hx
 | some k=>exact hf k
theorem D7 {α:Type}{e:Nat}(he:e≠0:=by decide):Loc fun L=>(wB L e:PM α) :=
 ⟨fun _ _ _=>ac8 _,fun L L' a d h=>by simp only [wB]; rw [h a (ac8 _)],fun L a d e p a' d' h=>by cases h; exact⟨rfl,he⟩⟩
theorem B_:Loc fun L=>oF L :=
 ⟨fun _ _ _=>ac8 _,fun L L' a d h=>by simp only [oF]; rw [h a (ac8 _)],fun _ _ _ _ _ _ _ h=>by cases h⟩
theorem Mg:Loc fun _=>wC:=⟨fun _ _ _=>Nat.le_succ _,fun _ _ _ _ _=>rfl,fun _ _ _ _ _ _ _ h=>by cases h⟩
theorem aw0:Loc fun _=>pUp:=⟨fun _ _ _=>ac8 _,fun _ _ _ _ _=>rfl,fun _ _ _ _ _ _ _ h=>by cases h⟩
theorem PT {w:List UInt8}:Loc fun L=>Eu L w :=
 ⟨fun _ _ _=>ac8 _,fun L L' a d h=>by simp only [Eu]; rw [h a (ac8 _)],fun _ _ _ _ _ _ _ h=>by cases h⟩
theorem yB {w:List UInt8}:Loc fun L=>oW L w :=
 ⟨fun L a d=>by simp only [oW,Out.idx]; split <;> omega,fun L L' a d h=>by
  have:a≤(oW L w a d).idx:=by simp only [oW,Out.idx]; split <;> omega
  simp only [oW]; rw [h a this],fun _ _ _ _ _ _ _ h=>by cases h⟩
theorem Loc.one {α:Type}{x:List Token→PM α}(f:Token→Nat→Nat→Option (α×Nat×Nat)) (g:Token→Nat→Nat→Nat) (hg:∀t a d,g t a d≠0) (hf:∀t a d v a' d',f t a d=some (v,a',d')→a≤a')
  (hx:∀L a d,x L a d=match f (tk L a) a d with | some (v,a',d')=>.ok v a' d' | none=>.bad (g (tk L a) a d) (tk L a).pos a d):Loc x:=by
 have hm:∀L a d,a≤(x L a d).idx:=fun L a d=>by
  rw [hx]
  cases h:f (tk L a) a d with
  | none=>exact ac8 _
  | some y=>obtain⟨v,a',d'⟩:=y; exact hf _ _ _ _ _ _ h
 refine⟨hm,fun L L' a d h=>?_,fun L a d e p a' d' h=>?_⟩
 ·rw [hx,hx,h a (hm L a d)]
 ·rw [hx] at h
  split at h
  ·cases h
  ·cases h; exact⟨rfl,hg _ _ _⟩
theorem uB {w:List UInt8}:Loc fun L=>oA L w :=
 Loc.one (fun t a d=>if isS t w then some ((),a+1,d) else none) (fun _ _ _=>10) (fun _ _ _=>by decide) (fun t a d v a' d' h=>by split at h <;> simp at h; omega) fun L a d=>by
  simp only [oA]; cases isS (tk L a) w <;> rfl
theorem zU {k:Nat}:Loc fun L=>qH L k :=
 Loc.one (fun t a d=>if t.kind=k then some (t,a+1,d) else none) (fun _ _ _=>10) (fun _ _ _=>by decide) (fun t a d v a' d' h=>by split at h <;> simp at h; omega) fun L a d=>by
  simp only [qH]; by_cases h:(tk L a).kind=k <;> simp [h]
theorem D8 {w:List UInt8}:Loc fun L=>tH L w :=
 Loc.one (fun t a d=>if isS t w then(if d=64 then none else some ((),a+1,d+1)) else none) (fun t _ d=>if isS t w then 11 else 10) (fun t _ d=>by split <;> decide) (fun t a d v a' d' h=>by
  split at h
  ·split at h <;> simp at h; omega
  ·cases h) fun L a d=>by
  simp only [tH]; cases isS (tk L a) w <;> by_cases h:d=64 <;> simp [h]
theorem FV {w:List UInt8}:Loc fun L=>tI L w :=
 Loc.one (fun t a d=>if isS t w then some ((),a+1,d - 1) else none) (fun _ _ _=>10) (fun _ _ _=>by decide) (fun t a d v a' d' h=>by split at h <;> simp at h; omega) fun L a d=>by
  simp only [tI]; cases isS (tk L a) w <;> rfl
theorem Ho:Loc fun L=>rV L :=
 Loc.one (fun t a d=>if isS t Gc then some (1,a+1,d) else if isS t Km then some (0,a+1,d) else none) (fun _ _ _=>10) (fun _ _ _=>by decide) (fun t a d v a' d' h=>by
  split at h
  ·simp at h; omega
  ·split at h <;> simp at h; omega) fun L a d=>by
  simp only [rV]; cases isS (tk L a) Gc <;> cases isS (tk L a) Km <;> rfl
theorem IX {l:Nat}:Loc fun L=>qG L l :=
 Loc.one (fun t a d=>if isS t xK then some (⟨1,0,l⟩,a+1,d) else if isS t Gi then some (⟨0,0,l⟩,a+1,d) else none) (fun _ _ _=>10) (fun _ _ _=>by decide) (fun t a d v a' d' h=>by
  split at h
  ·simp at h; omega
  ·split at h <;> simp at h; omega) fun L a d=>by
  simp only [qG]; cases isS (tk L a) xK <;> cases isS (tk L a) Gi <;> rfl
theorem VR:Loc fun L=>xM L :=
 uB.bind fun _=>B_.bind fun t=>Loc.ite D7 (zU.bind fun _=>uB.bind fun _=>Loc.pure)
theorem Rp {l:Nat}:Loc fun L=>uP L l :=
 yB.bind fun _=>Loc.ite (VR.bind fun _=>Loc.pure) (IX.bind fun t=>Loc.ite (PT.bind fun _=>Loc.ite (VR.bind fun _=>Loc.pure) Loc.pure) Loc.pure)
theorem Rq:Loc fun L=>uE L :=
 yB.bind fun _=>Ho.bind fun _=>zU.bind fun _=>uB.bind fun _=>Rp.bind fun _=>Loc.pure
theorem VS {α:Type}{one:List Token→PM α}(h:Loc one):∀(n:Nat) (l:List α),Loc fun L=>wJ L (one L) n l
 | 0,_=>D7
 | n+1,l=>h.bind fun x=>yB.bind fun _=>Loc.ite (VS h n _) Loc.pure
theorem PW {α:Type}{one:List Token→PM α}{w:List UInt8}(h:Loc one):Loc fun L=>xL L w (one L) :=
 PT.bind fun _=>Loc.ite Loc.pure (VS h _ _)
section
variable {ex un:List Token→PM XE}(he:Loc ex) (hu:Loc un)
include he
theorem Ro:Loc fun L=>uD L (ex L):=D8.bind fun _=>he.bind fun _=>FV.bind fun _=>Loc.pure
theorem VO {t:Token}:Loc fun L=>zN L (ex L) t:=D8.bind fun _=>(PW he).bind fun _=>FV.bind fun _=>Loc.pure
theorem VN:∀(n:Nat) (b:Bool) (l:List XE),Loc fun L=>tG L (ex L) n b l
 | 0,_,_=>Loc.pure
 | n+1,b,l=>by
  have h1:∀_:Unit,Loc fun L=>(do let x ←ex L; tG L (ex L) n false (l++[x]):PM (List XE)):=fun _=>he.bind fun _=>VN n _ _
  cases b
  ·exact uB.bind fun u=>h1 u
  ·exact Loc.bind (x:=fun _=>(Pure.pure PUnit.unit:PM PUnit)) Loc.pure fun u=>h1 u
theorem IW {kind many:Nat}{number:Bool}:Loc fun L=>vQ L (ex L) kind many number :=
 B_.bind fun _=>Mg.bind fun _=>D8.bind fun _=>(VN he _ _ _).bind fun _ =>
  Loc.ite (uB.bind fun _=>zU.bind fun _=>FV.bind fun _=>Loc.pure) (FV.bind fun _=>Loc.pure)
theorem S9:Loc fun L=>qE L (ex L) :=
 B_.bind fun _=>Loc.ite (Mg.bind fun _=>Loc.pure) (Loc.ite (D8.bind fun _=>he.bind fun _=>FV.bind fun _=>Loc.pure) (Loc.ite (IW he) (Loc.ite (IW he) (Loc.ite (IW he) (Loc.ite (IW he) (Loc.ite (IW he)
  (zU.bind fun _=>PT.bind fun _=>Loc.ite (VO he) (PT.bind fun _=>Loc.ite ((Ro he).bind fun _=>Loc.pure) Loc.pure))))))))
include hu
theorem ZL:Loc fun L=>yG L (ex L) (un L):=by
 have hs:∀kind,Loc fun L=>AG L (un L) kind:=fun kind=>B_.bind fun _=>D8.bind fun _=>hu.bind fun _=>aw0.bind fun _=>Loc.pure
 exact B_.bind fun _=>Loc.ite (hs _) (Loc.ite (hs _) (Loc.ite (hs _) (S9 he)))
end
theorem PU {next:List Token→PM XE}(hn:Loc next) (k:Nat):∀(n:Nat) (x:XE),Loc fun L=>sQ L (next L) k n x
 | 0,_=>D7
 | n+1,x=>B_.bind fun t=>Loc.opt (o:=pM t k) Loc.pure fun kind=>Mg.bind fun _=>Loc.ite (zU.bind fun _=>PU hn k n _) (hn.bind fun _=>PU hn k n _)
theorem Hn {un:List Token→PM XE}(hu:Loc un):∀j,Loc fun L=>oP L (un L) j
 | 0=>hu
 | j+1=>(Hn hu j).bind fun _=>PU (Hn hu j) _ _ _
theorem VQ {un:List Token→PM XE}(hu:Loc un):Loc fun L=>A9 L (un L) :=
 (Hn hu 6).bind fun _=>B_.bind fun t=>Loc.opt (o:=pM t 0) Loc.pure fun _=>Mg.bind fun _=>(Hn hu 6).bind fun _=>Loc.pure
theorem ah8:∀n,Loc fun L=>Dz L n
 | 0=>D7
 | n+1=>ZL (VQ (ah8 n)) (ah8 n)
theorem VP (n:Nat):Loc fun L=>AF L n:=VQ (ah8 n)
theorem Rn (n:Nat):Loc fun L=>AU L n:=(VP n).bind fun _=>uB.bind fun _=>Loc.pure
theorem ZK (n pos:Nat):Loc fun L=>o_ L n pos :=
 zU.bind fun _=>PT.bind fun _=>Loc.ite ((VO (VP _)).bind fun _=>uB.bind fun _=>Loc.pure)
  (PT.bind fun _=>Loc.ite ((Ro (VP _)).bind fun _=>uB.bind fun _=>(Rn _).bind fun _=>Loc.pure) (uB.bind fun _=>(Rn _).bind fun _=>Loc.pure))
theorem VT {block:List Token→PM (List XS)}(hb:Loc block) (n:Nat):Loc fun L=>tS L (block L) n :=
 B_.bind fun _=>yB.bind fun _=>Loc.ite (zU.bind fun _=>uB.bind fun _=>(Rn _).bind fun _=>Loc.pure)
  (yB.bind fun _=>Loc.ite (Ho.bind fun _=>zU.bind fun _=>uB.bind fun _=>Rp.bind fun _=>uB.bind fun _=>Loc.pure)
  (yB.bind fun _=>Loc.ite ((VP n).bind fun _=>hb.bind fun _=>yB.bind fun _=>Loc.ite (hb.bind fun _=>Loc.pure) Loc.pure)
  (yB.bind fun _=>Loc.ite (zU.bind fun _=>uB.bind fun _=>(VP n).bind fun _=>uB.bind fun _=>zU.bind fun _=>hb.bind fun _=>Loc.pure)
  (yB.bind fun _=>Loc.ite ((Rn n).bind fun _=>Loc.pure) (ZK _ _)))))
theorem Mh {stmt:List Token→PM XS}(hs:Loc stmt):∀(m:Nat) (l:List XS),Loc fun L=>vK L (stmt L) m l
 | 0,_=>D7
 | m+1,l=>PT.bind fun _=>Loc.ite Loc.pure (hs.bind fun _=>Mh hs m _)
theorem Hm:∀n,Loc fun L=>rN L n
 | 0=>D7
 | n+1=>D8.bind fun _=>(Mh (VT (Hm n) n) _ _).bind fun _=>FV.bind fun _=>Loc.pure
theorem ah7:Loc fun L=>wI L :=
 uB.bind fun _=>zU.bind fun _=>uB.bind fun _=>(PW Rq).bind fun _=>uB.bind fun _=>yB.bind fun _ =>
  Loc.ite (Ho.bind fun _=>IX.bind fun _=>(Hm _).bind fun _=>Loc.pure) ((Hm _).bind fun _=>Loc.pure)
theorem Mf:∀(m:Nat) (l:List XF),Loc fun L=>pI L m l
 | 0,_=>D7
 | m+1,l=>B_.bind fun _=>Loc.ite Loc.pure (ah7.bind fun _=>Mf m _)
end
section
open Go Hk
section
variable {c:UInt8}(hc:c=10∨c=32)
include hc
end
end
section
open Go Hk

end
section
open Go Hk
def zJ (L:List Token) {α:Type}(x:PM α) (a:Nat):Prop:=∀d,(x a d).idx < L.length
def qL (L:List Token) {α:Type}(x:PM α):Prop:=∀a,a < L.length→zJ L x a
section
variable {L:List Token}{α β:Type}
theorem qL.bind {x:PM α}{f:α→PM β}(hx:qL L x) (hf:∀v,qL L (f v)):qL L (x >>= f):=by
 intro a ha d
 have h1:=hx a ha d
 simp only [mD,PM.bind]
 cases h:x a d with
 | ok v a' d'=>rw [h] at h1; exact hf v a' h1 d'
 | bad e p a' d'=>rw [h] at h1; exact h1
theorem qL.pure {v:α}:qL L (Pure.pure v:PM α):=fun _ ha _=>ha
theorem qL.fail {e:Nat}:qL L (wB L e:PM α):=fun _ ha _=>ha
theorem qL.ite {c:Prop} [Decidable c] {x y:PM α}(hx:qL L x) (hy:qL L y):qL L (if c then x else y):=by
 split
 ·exact hx
 ·exact hy
theorem zJ.ite {c:Prop} [Decidable c] {x y:PM α}{a:Nat}(hx:c→zJ L x a) (hy:¬c→zJ L y a):zJ L (if c then x else y) a:=by
 split
 ·rename_i h; exact hx h
 ·rename_i h; exact hy h
theorem zJ.here {f:Token→PM α}{a:Nat}(h:zJ L (f (tk L a)) a):zJ L (oF L >>= f) a:=fun d=>h d
theorem zJ.next {f:Unit→PM α}{a:Nat}(ha:a+1 < L.length) (h:qL L (f ())):zJ L (wC >>= f) a:=fun d=>h (a+1) ha d
theorem IQ:qL L (oF L):=fun _ ha _=>ha
theorem PJ {w:List UInt8}:qL L (Eu L w):=fun _ ha _=>ha
theorem awV:qL L pUp:=fun _ ha _=>ha
variable (hL:qF L)
include hL
theorem zF {w:List UInt8}:qL L (oW L w):=by
 intro a ha d
 simp only [oW,Out.idx]
 split
 ·rename_i h; exact mH hL ha h
 ·exact ha
theorem vX {w:List UInt8}:qL L (oA L w):=by
 intro a ha d
 simp only [oA]
 split
 ·rename_i h; exact mH hL ha h
 ·exact ha
theorem AA {k:Nat}(hk:k≠0):qL L (qH L k):=by
 intro a ha d
 simp only [qH]
 split
 ·rename_i h; exact o9 hL ha hk h
 ·exact ha
theorem FQ {w:List UInt8}:qL L (tH L w):=by
 intro a ha d
 simp only [tH]
 split
 ·rename_i h
  split
  ·exact ha
  ·exact mH hL ha h
 ·exact ha
theorem FT {w:List UInt8}:qL L (tI L w):=by
 intro a ha d
 simp only [tI]
 split
 ·rename_i h; exact mH hL ha h
 ·exact ha
theorem Mb:qL L (rV L):=by
 intro a ha d
 simp only [rV]
 split
 ·rename_i h; exact mH hL ha h
 ·split
  ·rename_i h; exact mH hL ha h
  ·exact ha
theorem N1 {l:Nat}:qL L (qG L l):=by
 intro a ha d
 simp only [qG]
 split
 ·rename_i h; exact mH hL ha h
 ·split
  ·rename_i h; exact mH hL ha h
  ·exact ha
theorem VJ:qL L (xM L):=(vX hL).bind fun _=>IQ.bind fun _=>qL.ite qL.fail ((AA hL (by decide)).bind fun _=>(vX hL).bind fun _=>qL.pure)
theorem Rl {l:Nat}:qL L (uP L l) :=
 (zF hL).bind fun _=>qL.ite ((VJ hL).bind fun _=>qL.pure) ((N1 hL).bind fun _=>qL.ite (PJ.bind fun _=>qL.ite ((VJ hL).bind fun _=>qL.pure) qL.pure) qL.pure)
theorem Zu:qL L (uE L) :=
 (zF hL).bind fun _=>(Mb hL).bind fun _=>(AA hL (by decide)).bind fun _=>(vX hL).bind fun _=>(Rl hL).bind fun _=>qL.pure
theorem VK {one:PM α}(h:qL L one):∀(n:Nat) (l:List α),qL L (wJ L one n l)
 | 0,_=>qL.fail
 | n+1,l=>h.bind fun x=>(zF hL).bind fun _=>qL.ite (VK h n _) qL.pure
theorem VI {one:PM α}{w:List UInt8}(h:qL L one):qL L (xL L w one):=PJ.bind fun _=>qL.ite qL.pure (VK hL h _ _)
section
variable {ex un:PM XE}(he:qL L ex) (hu:qL L un)
include he
theorem Rk:qL L (uD L ex):=(FQ hL).bind fun _=>he.bind fun _=>(FT hL).bind fun _=>qL.pure
theorem VF {t:Token}:qL L (zN L ex t):=(FQ hL).bind fun _=>(VI hL he).bind fun _=>(FT hL).bind fun _=>qL.pure
theorem VE:∀(n:Nat) (b:Bool) (l:List XE),qL L (tG L ex n b l)
 | 0,_,_=>qL.pure
 | n+1,b,l=>by
  have h1:∀_:Unit,qL L (do let x ←ex; tG L ex n false (l++[x]):PM (List XE)):=fun _=>he.bind fun _=>VE n _ _
  cases b
  ·exact(vX hL).bind fun u=>h1 u
  ·exact qL.bind (x:=(Pure.pure PUnit.unit:PM PUnit)) qL.pure fun u=>h1 u
theorem IS {kind many a:Nat}{number:Bool}(ha:a+1 < L.length):zJ L (vQ L ex kind many number) a :=
 zJ.here (zJ.next ha ((FQ hL).bind fun _=>(VE hL he _ _ _).bind fun _ =>
  qL.ite ((vX hL).bind fun _=>(AA hL (by decide)).bind fun _=>(FT hL).bind fun _=>qL.pure) ((FT hL).bind fun _=>qL.pure)))
theorem SW:qL L (qE L ex):=fun a ha=>zJ.here (zJ.ite (fun h=>zJ.next (o9 (k:=2) hL ha (by decide) h) qL.pure) fun _ =>
 zJ.ite (fun _=>((FQ hL).bind fun _=>he.bind fun _=>(FT hL).bind fun _=>qL.pure) a ha) fun _ =>
 zJ.ite (fun h=>IS hL he (mH hL ha h)) fun _=>zJ.ite (fun h=>IS hL he (mH hL ha h)) fun _=>zJ.ite (fun h=>IS hL he (mH hL ha h)) fun _ =>
 zJ.ite (fun h=>IS hL he (mH hL ha h)) fun _=>zJ.ite (fun h=>IS hL he (mH hL ha h)) fun _ =>
 ((AA hL (by decide)).bind fun _=>PJ.bind fun _=>qL.ite (VF hL he) (PJ.bind fun _=>qL.ite ((Rk hL he).bind fun _=>qL.pure) qL.pure)) a ha)
include hu
theorem Zv:qL L (yG L ex un):=by
 have hs:∀kind,qL L (AG L un kind):=fun kind=>IQ.bind fun _=>(FQ hL).bind fun _=>hu.bind fun _=>awV.bind fun _=>qL.pure
 exact IQ.bind fun _=>qL.ite (hs _) (qL.ite (hs _) (qL.ite (hs _) (SW hL he)))
end
theorem PK {next:PM XE}(hn:qL L next) (k:Nat):∀(n:Nat) (x:XE),qL L (sQ L next k n x)
 | 0,_=>qL.fail
 | n+1,x=>fun a ha=>zJ.here (by
  cases hs:pM (tk L a) k with
  | none=>exact qL.pure a ha
  | some kind=>exact zJ.next (o9 (k:=4) hL ha (by decide) (rA hs)) (qL.ite ((AA hL (by decide)).bind fun _=>PK hn k n _) (hn.bind fun _=>PK hn k n _)))
theorem Hj {un:PM XE}(hu:qL L un):∀j,qL L (oP L un j)
 | 0=>hu
 | j+1=>(Hj hu j).bind fun _=>PK hL (Hj hu j) _ _ _
theorem VH {un:PM XE}(hu:qL L un):qL L (A9 L un) :=
 (Hj hL hu 6).bind fun _=>fun a ha=>zJ.here (by
  cases hs:pM (tk L a) 0 with
  | none=>exact qL.pure a ha
  | some kind=>exact zJ.next (o9 (k:=4) hL ha (by decide) (rA hs)) ((Hj hL hu 6).bind fun _=>qL.pure))
theorem ahU:∀n,qL L (Dz L n)
 | 0=>qL.fail
 | n+1=>Zv hL (VH hL (ahU n)) (ahU n)
theorem VG (n:Nat):qL L (AF L n):=VH hL (ahU hL n)
theorem Rj (n:Nat):qL L (AU L n):=(VG hL n).bind fun _=>(vX hL).bind fun _=>qL.pure
theorem Zt (n pos:Nat):qL L (o_ L n pos) :=
 (AA hL (by decide)).bind fun _=>PJ.bind fun _=>qL.ite ((VF hL (VG hL _)).bind fun _=>(vX hL).bind fun _=>qL.pure)
  (PJ.bind fun _=>qL.ite ((Rk hL (VG hL _)).bind fun _=>(vX hL).bind fun _=>(Rj hL _).bind fun _=>qL.pure) ((vX hL).bind fun _=>(Rj hL _).bind fun _=>qL.pure))
theorem ahT {block:PM (List XS)}(hb:qL L block) (n:Nat):qL L (tS L block n) :=
 IQ.bind fun _=>(zF hL).bind fun _=>qL.ite ((AA hL (by decide)).bind fun _=>(vX hL).bind fun _=>(Rj hL _).bind fun _=>qL.pure)
  ((zF hL).bind fun _=>qL.ite ((Mb hL).bind fun _=>(AA hL (by decide)).bind fun _=>(vX hL).bind fun _=>(Rl hL).bind fun _=>(vX hL).bind fun _=>qL.pure)
  ((zF hL).bind fun _=>qL.ite ((VG hL n).bind fun _=>hb.bind fun _=>(zF hL).bind fun _=>qL.ite (hb.bind fun _=>qL.pure) qL.pure)
  ((zF hL).bind fun _=>qL.ite ((AA hL (by decide)).bind fun _=>(vX hL).bind fun _=>(VG hL n).bind fun _=>(vX hL).bind fun _=>(AA hL (by decide)).bind fun _=>hb.bind fun _=>qL.pure)
  ((zF hL).bind fun _=>qL.ite ((Rj hL n).bind fun _=>qL.pure) (Zt hL _ _)))))
omit hL in
theorem Rm {stmt:PM XS}(hs:qL L stmt):∀(m:Nat) (l:List XS),qL L (vK L stmt m l)
 | 0,_=>qL.fail
 | m+1,l=>PJ.bind fun _=>qL.ite qL.pure (hs.bind fun _=>Rm hs m _)
theorem L_:∀n,qL L (rN L n)
 | 0=>qL.fail
 | n+1=>(FQ hL).bind fun _=>(Rm (ahT hL (L_ n) n) _ _).bind fun _=>(FT hL).bind fun _=>qL.pure
theorem ahS:qL L (wI L) :=
 (vX hL).bind fun _=>(AA hL (by decide)).bind fun _=>(vX hL).bind fun _=>(VI hL (Zu hL)).bind fun _=>(vX hL).bind fun _=>(zF hL).bind fun _ =>
  qL.ite ((Mb hL).bind fun _=>(N1 hL).bind fun _=>(L_ hL _).bind fun _=>qL.pure) ((L_ hL _).bind fun _=>qL.pure)
theorem Ma:∀(m:Nat) (l:List XF),qL L (pI L m l)
 | 0,_=>qL.fail
 | m+1,l=>IQ.bind fun _=>qL.ite qL.pure ((ahS hL).bind fun _=>Ma m _)
end
end
section
open Go Hk
theorem TH (s:List UInt8):(oQ s).2.1≠0→(oQ s).1=[]:=by
 unfold oQ
 by_cases h0:(oL s).2.1=0
 ·rw [if_pos h0]
  cases pI (oL s).1 131073 [] 0 0 with
  | ok l a d=>intro h; exact absurd rfl h
  | bad e p j d=>intro _; rfl
 ·rw [if_neg h0]; intro _; rfl
end
section
open Go Hk

end
section
open Go Hk

end
section
open Go Hk
section
variable (L L':List Token) (k far:Nat) {α β:Type}
end
section
variable {L L':List Token}{k far:Nat}{α β:Type}
section
variable {ex' ex un' un:PM XE}
end
section
variable {ex' ex un' un:PM XE}
end
end
end
section
open Go Hk
section
variable {L L':List Token}{k far:Nat}
end
end
section
open Go Hk
section
variable {L L':List Token}{k far:Nat}
end
end
section
open Go Hk
theorem MS {L:List Token}{i:Nat}(h:i < L.length):tk L i∈L:=by
 unfold tk; rw [List.getElem?_eq_getElem h]; exact List.getElem_mem h
theorem Jc {s:List UInt8}{F:List XF}{p:Nat}(h:oQ s=(F,0,p)) :
  ∃l,oL s=(l++[⟨0,s.length,0,[]⟩],0,0)∧(∀x∈l,x.kind≠0)∧∃a d,pI (l++[⟨0,s.length,0,[]⟩]) 131073 [] 0 0=.ok F a d:=by
 unfold oQ at h
 by_cases h0:(oL s).2.1=0
 ·rw [if_pos h0] at h
  obtain⟨l,h1,h2,_⟩:=Dr h0
  refine⟨l,h1,fun x hx=>(h2 x hx).2.1.1,?_⟩
  rw [h1] at h
  simp only [] at h
  cases h3:pI (l++[⟨0,s.length,0,[]⟩]) 131073 [] 0 0 with
  | ok v a d=>rw [h3] at h; cases h; exact⟨a,d,rfl⟩
  | bad e q a d =>
   rw [h3] at h
   have:=((Mf 131073 []).place _ _ _ _ _ _ _ h3).2
   exact absurd (congrArg (fun x=>x.2.1) h) this
 ·rw [if_neg h0] at h
  exact absurd (congrArg (fun x=>x.2.1) h) h0
end
section
open Go Hk

end
end Go.Proofs.YtlddmnojanpdoaaGreatDoor
