/-
  The texts WG.JA, WG.TM, WG.JB, WG.JC, WG.JD, WG.JE, WG.JF, WG.JO, WG.JG, WG.JH, WG.JI, WG.JR, WG.JJ, WG.JK, WG.JL, WG.JM, WG.JS, WG.JT, WG.JU, WG.JV, WG.JW, WG.JP, WG.JX, WG.JY, WG.JN, one behind another. No conditions.
-/
import Derived.Test.YtlddmnojanpdoaaGreatDoorPWg1
import Derived.Test.YtlddmnojanpdoaaGreatDoorPLg1
import Derived.Test.YtlddmnojanpdoaaGreatDoorPSg1
set_option linter.unusedVariables false
set_option linter.unusedSimpArgs false
set_option linter.all false
open Bool renaming and_eq_true → ac5
open Int renaming cast_ofNat_Int → ab9, natCast_add → af8
open List renaming all_eq_true → ae8, append_assoc → ag1, cons_append → ae7, drop_eq_getElem_cons → ae6, drop_eq_nil_of_le → aj0, getD → ac7, getElem?_append_right → ac3, length → aa1, length_append → ab5, length_cons → ac1, length_map → aj1, length_nil → ac6, length_take → aj4, map_append → am3, map_cons → ai3, map_nil → al1, nil_append → ah4, set_append_right → al4
open Nat renaming le_refl → ab6, zero_add → al6, zero_le → ah8
namespace Go.Proofs.YtlddmnojanpdoaaGreatDoor
section
open Go Hk
structure mT where
 ty:GT
 fixed:Bool
inductive TR (α:Type) where
 | ok (v:α)
 | bad (e p:Int)
def TR.bind {α β:Type}(x:TR α) (f:α→TR β):TR β:=match x with
 | .ok v=>f v
 | .bad e p=>.bad e p
abbrev Nm (α:Type):=List (List UInt8×α)
def look {α:Type}:Nm α→List UInt8→Option α
 | [],_=>none
 | (k,v)::r,s=>if k=s then some v else look r s
def Dt {α:Type}:Nm α→List UInt8→Nm α
 | [],_=>[]
 | (k,v)::r,s=>if k=s then r else(k,v)::Dt r s
abbrev Kn:=Nm (GF×Int)
def GE.pos:GE→Int | .mk _ p _ _ _=>p
def GS.pos:GS→Int | .mk _ p _ _ _ _ _ _ _=>p
def rG (b:Bool) (e p:Int):TR Unit:=if b then .ok () else .bad e p
def vV (N:Nm mT) (s:List UInt8) (p:Int):TR mT:=match look N s with
 | some t=>.ok t
 | none=>.bad 12 p
def q9 (a b:Int):Bool:=a == 0 || b == 1
def Sg:List GT→Int→Int
 | [],m=>m
 | t::r,m=>Sg r (max m t.label)
def Qs (k:Int) (l:List Int):Int×Bool :=
 let w:=l.all (· == 0)
 let a:=(l[0]?).getD 0
 let b:=(l[1]?).getD 0
 let c:=(l[2]?).getD 0
 if k=7 then(1,a == 1) else if k=26 then(0,a == 1) else if k=11∨k=12∨k=13 then(a,a == b)
 else if k=25 then(b,a == 1 && b == c) else if 17≤k∧k≤22 then(1,w) else(0,w)
section
variable (F:Kn) (N:Nm mT)
def Mx (q:GP) (k p:Int) (name:List UInt8):TR Unit:=(rG (k == 2) 14 p).bind fun _=>(vV N name p).bind fun t =>
 (rG (t.ty.elem == q.ty.elem && t.ty.len == q.ty.len && !(q.out && t.fixed)) 14 p).bind fun _=>rG (q9 t.ty.label q.ty.label && (!q.out || t.ty.label == q.ty.label)) 15 p
mutual
def xB:GE→TR GT
 | .mk k p n name args =>
  if k=1 then .ok GT.zero
  else if k=2 then(vV N name p).bind fun t=>(rG (t.ty.len == 0) 14 p).bind fun _=>.ok t.ty
  else if k=3 then(CI 0 args).bind fun _=>(vV N name p).bind fun t=>(rG (decide (0 < t.ty.len)) 14 p).bind fun _=>.ok ⟨0,0,t.ty.label⟩
  else if k=4 then(match look F name with
   | none=>.bad 12 p
   | some (f,_)=>(rG (f.params.length == args.length) 16 p).bind fun _=>(rT f.params args).bind fun _=>(rG f.has 14 p).bind fun _=>.ok f.result)
  else(wM args).bind fun l=>(rG (Qs k (l.map GT.elem)).2 14 p).bind fun _=>(rG (decide (n < 32)) 18 p).bind fun _=>.ok ⟨(Qs k (l.map GT.elem)).1,0,Sg l 0⟩
def wM:List GE→TR (List GT)
 | []=>.ok []
 | x::r=>(xB x).bind fun t=>(wM r).bind fun l=>.ok (t::l)
def CI (elem:Int):List GE→TR Unit
 | []=>.ok ()
 | x::_=>(xB x).bind fun t=>(rG (t.elem == elem) 14 x.pos).bind fun _=>rG (t.label == 0) 15 x.pos
def rT:List GP→List GE→TR Unit
 | [],_=>.ok ()
 | _::_,[]=>.ok ()
 | q::ps,x::r=>(if q.ty.len=0 then(xB x).bind fun t=>(rG (t.elem == q.ty.elem) 14 x.pos).bind fun _=>rG (q9 t.label q.ty.label) 15 x.pos else Mx N q x.kind x.pos x.name).bind fun _=>rT ps r
end
def Cd (x:GE):TR GF:=match look F x.name with
 | none=>.bad 12 x.pos
 | some (f,_)=>(rG (f.params.length == x.args.length) 16 x.pos).bind fun _=>(rT F N f.params x.args).bind fun _=>.ok f
def Gf:List GE→TR GT
 | []=>.ok GT.zero
 | x::_=>xB F N x
end
def Ap (N:Nm mT) (s:List UInt8) (t:mT) (p:Int):TR (Nm mT):=match look N s with
 | none=>.ok (N++[(s,t)])
 | some _=>.bad 13 p
def zM:List GS→Nm mT→Nm mT
 | [],N=>N
 | .mk k _ _ name _ _ _ _ _::r,N=>zM r (if k=1∨k=2 then Dt N name else N)
section
variable (F:Kn) (f:GF)
mutual
def yZ (last:Bool) (N:Nm mT):GS→TR (Nm mT)
 | .mk k p m name ty args body els _ =>
  if k=1 then(Gf F N args).bind fun t=>Ap N name ⟨t,true⟩ p
  else if k=2 then(Ap N name ⟨ty,false⟩ p).bind fun N'=>(rG (decide (ty.len≤16384)) 18 p).bind fun _=>.ok N'
  else if k=3 then(Gf F N args).bind fun v=>(vV N name p).bind fun t=>(rG (t.ty.len == 0 && !t.fixed && t.ty.elem == v.elem) 14 p).bind fun _=>(rG (q9 v.label t.ty.label) 15 p).bind fun _=>.ok N
  else if k=4 then(CI F N 0 args).bind fun _=>(Gf F N args.tail).bind fun v=>(vV N name p).bind fun t=>(rG (decide (0 < t.ty.len) && !t.fixed && v.elem == 0) 14 p).bind fun _=>(rG (q9 v.label t.ty.label) 15 p).bind fun _=>.ok N
  else if k=5 then(CI F N 1 args).bind fun _=>(tG N body).bind fun N1=>(tG (zM body N1) els).bind fun N2=>.ok (zM els N2)
  else if k=6 then(CI F N 0 args).bind fun _=>(Ap N name ⟨GT.zero,true⟩ p).bind fun N1=>(rG (decide (m≤65536)) 18 p).bind fun _=>(tG N1 body).bind fun N2=>.ok (Dt (zM body N2) name)
  else if k=7 then(match args with
   | x::_=>(Cd F N x).bind fun _=>.ok N
   | []=>.ok N)
  else if k=8 then(Gf F N args).bind fun v=>(rG (last && f.has && v.elem == f.result.elem) 14 p).bind fun _=>(rG (q9 v.label f.result.label) 15 p).bind fun _=>.ok N
  else .ok N
def tG (N:Nm mT):List GS→TR (Nm mT)
 | []=>.ok N
 | x::r=>(yZ false N x).bind fun N'=>tG N' r
end
def yI (N:Nm mT):List GS→TR (Nm mT)
 | []=>.ok N
 | x::r=>(yZ F f r.isEmpty N x).bind fun N'=>yI N' r
end
def vD (N:Nm mT):List GP→TR (Nm mT)
 | []=>.ok N
 | q::r=>(Ap N q.name ⟨q.ty,!q.out⟩ q.pos).bind fun N'=>(rG (!q.out || decide (0 < q.ty.len)) 14 q.pos).bind fun _=>(rG (decide (q.ty.len≤16384)) 18 q.pos).bind fun _=>vD N' r
def D6 (n:Int):Int:=min n 65537
section
variable (F:Kn)
mutual
def Ai:GE→Int
 | .mk k _ _ name args=>1+oX args 0+(if k=4 then(match look F name with | some (_,c)=>c | none=>0) else 0)
def oX:List GE→Int→Int
 | [],n=>n
 | x::r,n=>oX r (D6 (n+Ai x))
end
mutual
def Bj:GS→Int
 | .mk k _ m _ ty args body els _=>(1+oX F args 0+ty.len)+(if k=6 then(m+1) * (1+oY body 0) else oY body 0)+oY els 0
def oY:List GS→Int→Int
 | [],n=>n
 | x::r,n=>oY r (D6 (n+Bj x))
end
end
def tU:List GS→Bool→Bool
 | [],b=>b
 | .mk k _ _ _ _ _ _ _ _::r,_=>tU r (k == 8)
def AE (F:Kn) (f:GF):TR Kn:=match look F f.name with
 | some _=>.bad 13 f.pos
 | none=>(vD [] f.params).bind fun N=>(yI F f N f.body).bind fun _=>(rG (!f.has || tU f.body false) 14 f.pos).bind fun _=>.ok (F++[(f.name,(f,D6 (1+oY F f.body 0)))])
def uF (F:Kn):List GF→TR Kn
 | []=>.ok F
 | f::r=>(AE F f).bind fun F'=>uF F' r
def Bo (t:GT):Int:=if t.len=0 then 4 else if t.elem=2 then Int.tdiv (t.len+3) 4 * 4 else 4 * t.len
def EU:List GP→Int→Int→TR (Int×Int)
 | [],i,o=>.ok (i,o)
 | q::r,i,o=>(rG (q.ty.elem != 1) 17 q.pos).bind fun _=>if q.out then EU r i (min (o+Bo q.ty) 65537) else EU r (min (i+Bo q.ty) 65537) o
def Bf:List UInt8:=[109,97,105,110]
def DF (l:List GF):TR Unit:=match l.getLast? with
 | none=>.bad 17 0
 | some f=>(rG (f.name == Bf) 17 0).bind fun _=>(rG (!f.has) 17 f.pos).bind fun _=>(EU f.params 0 0).bind fun io=>rG (decide (io.1≤65536) && decide (io.2≤65536)) 18 f.pos
def Be (l:List GF):TR (Int×Int):=if (qE l).2≠0 then .bad (qE l).2 0 else
 (uF [] l).bind fun F=>(DF l).bind fun _=>.ok ((match look F Bf with | some (_,c)=>c | none=>0),(match l.getLast? with | some f=>f.pos | none=>0))
def rD (l:List GF):Int×Int:=match Be l with
 | .bad e p=>(e,p)
 | .ok (c,pos)=>if 65536 < c then(18,pos) else(0,0)
def Bt (l:List GF):Int:=match Be l with
 | .bad _ _=>0
 | .ok (c,_)=>c
end
noncomputable section
open Go Hk
def aiR (K:kW) (a0 a1 a2:kM) (pv:Option kM) (h0:kP):Option kP :=
 ((zL 141 (.agg [(.int .i64 0),(.int .i64 0)]) (Option.getD pv .niliface)).bind fun t0=>(lI 0 t0).bind fun t1=>(lI 1 t0).bind fun t2=>kR (lL 2 h0 (.agg [(.int .i64 0),(.int .i64 0)])) fun t3 h4=>(kS 2 h4 t3 t1).bind fun h5=>(lH t2 ((kO 0 t3).bind fun t6=>(kU true 2 h5 t6).bind fun t7=>(kS 1 (nL (k9 [0] [t6]) h5) a0 (.int .i64 0)).bind fun h8=>(kS 1 (nL (k9 [0] [t6]) (lQ (k9 [0] [t6]) h5 h8)) a1 (.int .i64 0)).bind fun h9=>(kS 2 (lQ (k9 [0] [t6]) (lQ (k9 [0] [t6]) h5 h8) h9) a2 t7).bind fun h10=>kT (aa1 h5) .normal ([]:List kM) h10) (kT (aa1 h5) .normal ([]:List kM) h5)).bind fun r11=>(fun h12=>Ex.uB r11.1 (some (.normal,[],h12)))  r11.2.2).bind fun r=>Ex.Wj r.1 (l_ (aa1 h0) r.2.2)
def acE (K:kW) (caps:List kM) (pv:Option kM) (h0:kP):Option kP:=aiR K (ac7 caps 0 .junk) (ac7 caps 1 .junk) (ac7 caps 2 .junk) pv h0
def Nx (K:kW) (m:Nat) (s:List kM×kP):Option R :=
 uq8 s fun aE aF aG aH aD aB aC aA aI=>aq .lss aA aC ((kZ 8 aB aA).bind fun aO=>(kU true 8 aI aO).bind fun aP=>kR (lL 8 aI (.agg [(.int .i64 0),(.str []),(.slice [] .nil),(.bool false),(.int .i64 0),(.int .i64 0),(.int .i64 0),(.slice [] .nil)])) fun aK aL=>(kS 8 aL aK aP).bind fun aJ=>(kU true 8 aJ aK).bind fun aQ=>kV (K 92 [(kM.kQ aD),(kM.kQ aQ)] aJ) (fun aT aN=>(kX .add aA (.int .i64 1)).bind fun aR=>some (.normal,[aE,aF,aG,aH,aD,aB,aC,aR],aN)) (fun aS aM=>some ((.pan aS),[aE,aF,aG,aH,aD,aB,aC,aA],aM))) (some ((.exit 0),[aE,aF,aG,aH,aD,aB,aC,aA],aI))
def m45 (K:kW) (a0:kM) (h0:kP):Option (nO×kP) :=
 (kR (lL 1 h0 a0) fun t0 h1=>kR (lL 1 h1 (.int .i64 0)) fun t2 h3=>kR (lL 1 h3 (.int .i64 0)) fun t4 h5=>kR (lL 2 h5 (.agg [(.int .i64 0),(.int .i64 0)])) fun t6 h7=>(kU true 1 h7 t0).bind fun t8=>qX K 14 t8 h7 fun t9 aL=>(lI 0 t9).bind fun b_=>(lI 1 t9).bind fun aZ=>aq .neq aZ (.int .i64 0) ((lT [(.int .i64 0),(.int .i64 0)] [(0,1),(1,1)] [(0,aZ)]).bind fun bK=>(kS 1 aL t2 (.int .i64 0)).bind fun bC=>(kS 1 bC t4 (.int .i64 0)).bind fun bD=>(kS 2 bD t6 bK).bind fun bE=>some (.ret,[t2,t4,t6],bE)) (((fun(bL:kM) (bF:kP)=>(lT [.nilmap,.nilmap,(.int .i64 0),(.str []),(.slice [] .nil),(.bool false),(.int .i64 0),(.int .i64 0),(.int .i64 0),(.slice [] .nil)] [(0,1),(1,1),(2,8)] [(0,bL)]).bind fun bM=>kR (lL 10 bF bM) fun bN aM=>fq 0 t0 aM fun a_=>(mO a_).bind fun bO=>(mJ (Nx K (aa1 aM)) ([t0,t2,t4,t6,bN,a_,bO,(.int .i64 0)],aM)).bind fun aX=>uq8 aX.2 fun aD aA aB aC aF aU aV aW aN=>Ex.lW aX.1 none (fun bA=>Ex.inBlock 0 bA (fq 0 aD aN fun bP=>kV (K 93 [(kM.kQ aF),(kM.kQ bP)] aN) (fun cA aG=>(k_ aF).bind fun bQ=>fq 0 bQ aG fun bR=>bif oL .string (.str [109,97,105,110]) then(q7 (.agg [(.int .i64 0),(.str []),(.slice [] .nil),(.bool false),(.int .i64 0),(.int .i64 0),(.int .i64 0),(.slice [] .nil),(.int .i64 0)]) false aG bR (.str [109,97,105,110])).bind fun bS=>(sO false 1 8 bS).bind fun bT=>(kO 0 aD).bind fun aR=>(kU false 1 aG aR).bind fun bU=>(kO 0 aD).bind fun aS=>(kU false 1 aG aS).bind fun bV=>(mO bV).bind fun bW=>(kX .sub bW (.int .i64 1)).bind fun bX=>(kZ 8 bU bX).bind fun bY=>(kO 0 bY).bind fun aT=>(kU false 1 aG aT).bind fun bZ=>(lT [(.int .i64 0),(.int .i64 0)] [(0,1),(1,1)] []).bind fun b8=>(kS 1 (nL (k9 [0,1,2] [aR,aS,aT]) aG) aA bT).bind fun bH=>(kS 1 (lQ (k9 [0,1,2] [aR,aS,aT]) aG bH) aB bZ).bind fun bI=>(kS 2 bI aC b8).bind fun bJ=>some (.ret,[aA,aB,aC],bJ) else none) (fun b9 bG=>some ((.pan b9),[aA,aB,aC],bG))) (fun bB=>some (bB,[aA,aB,aC],aN)))) (.map (aa1 aL)) (aL++[.map []])).bind fun aK=>Ex.Rm aK.1 (Option.map (fun hh=>(.ret,aK.2.1,hh)) (acE K [t2,t4,t6] none aK.2.2)) (fun vv=>Option.map (fun hh=>(.ret,[t2,t4,t6],hh)) (acE K [t2,t4,t6] (some vv) aK.2.2)))).bind fun aY=>AA aY.2 fun aH aI aJ aE=>Ex.nA aY.1 ((kU false 1 aE aH).bind fun aO=>(kU false 1 aE aI).bind fun aP=>(kU true 2 aE aJ).bind fun aQ=>lZ (aa1 h0) (.tuple [aO,aP,aQ]) aE)
theorem aAR (K:kW) (a0:kM) (h0:kP):o6 Tryz.prog mK mJ K 45 [a0] h0=m45 (lU mK K) a0 h0:=by kernel_rfl
def Ea (K:kW) (m:Nat) (s:List kM×kP):Option R :=
 Eu s fun aD aE aB aC aA aL=>aq .lss aA aC ((kZ 6 aB aA).bind fun aX=>(kU true 6 aL aX).bind fun aY=>kR (lL 6 aL (.agg [(.int .i64 0),(.str []),(.int .i64 0),(.int .i64 0),(.int .i64 0),(.bool false)])) fun aF aT=>(kS 6 aT aF aY).bind fun aI=>fq 1 aF aI fun aZ=>(kO 2 aF).bind fun a_=>(kU true 3 aI a_).bind fun bA=>fq 5 aF aI fun bB=>(vR .not bB).bind fun bC=>(lT [(.int .i64 0),(.int .i64 0),(.int .i64 0),(.bool false)] [(0,3),(3,1)] [(0,bA),(1,bC)]).bind fun bD=>fq 0 aF aI fun bE=>kV (K 132 [(kM.kQ aD),(kM.kQ aZ),(kM.kQ bD),(kM.kQ bE)] aI) (fun bW aM=>fq 5 aF aM fun bF=>(vR .not bF).bind fun aJ=>(lS false aJ ((kO 2 aF).bind fun bG=>lC bG aM) (lC (.tuple []) aM)).bind (nV (fun bH aQ=>(lS false aJ ((kO 1 bH).bind fun bI=>lC bI aQ) (lC (.tuple []) aQ)).bind (nV (fun bJ aN=>(lS false aJ ((kU false 1 aN bJ).bind fun bK=>lC bK aN) (lC (.tuple []) aN)).bind (nV (fun bL aR=>(lS false aJ ((kX .gtr bL (.int .i64 0)).bind fun bM=>lC bM aR) (lC (.tuple []) aR)).bind (nV (fun bN aS=>(lO aJ (.bool true) bN).bind fun bO=>fq 0 aF aS fun bP=>kV (K 131 [(kM.kQ bO),(kM.kQ (.int .i64 14)),(kM.kQ bP)] aS) (fun bX aO=>(kO 2 aF).bind fun bQ=>fq 1 bQ aO fun bR=>(kX .leq bR (.int .i64 16384)).bind fun bS=>fq 0 aF aO fun bT=>kV (K 131 [(kM.kQ bS),(kM.kQ (.int .i64 18)),(kM.kQ bT)] aO) (fun aW aK=>(kX .add aA (.int .i64 1)).bind fun aP=>kT m .normal [aD,aE,aB,aC,aP] aK) (fun bV aV=>kT m (.pan bV) [aD,aE,aB,aC,aA] aV)) (fun aH aG=>kT m (.pan aH) [aD,aE,aB,aC,aA] aG)) (fun aH aG=>kT m (.pan aH) [aD,aE,aB,aC,aA] aG))) (fun aH aG=>kT m (.pan aH) [aD,aE,aB,aC,aA] aG))) (fun aH aG=>kT m (.pan aH) [aD,aE,aB,aC,aA] aG))) (fun aH aG=>kT m (.pan aH) [aD,aE,aB,aC,aA] aG))) (fun bU aU=>kT m (.pan bU) [aD,aE,aB,aC,aA] aU)) (kT m (.exit 0) [aD,aE,aB,aC,aA] aL)
def ND (K:kW) (m:Nat) (s:List kM×kP):Option R :=
 Bx s fun aD aE aF aB aC aA aG=>aq .lss aA aC ((kZ 11 aB aA).bind fun aM=>(kU true 11 aG aM).bind fun aN=>kR (lL 11 aG (.agg [(.int .i64 0),(.int .i64 0),(.int .i64 0),(.str []),(.int .i64 0),(.int .i64 0),(.int .i64 0),(.slice [] .nil),(.slice [] .nil),(.slice [] .nil),(.bool false)])) fun aI aK=>(kS 11 aK aI aN).bind fun aH=>(kU true 11 aH aI).bind fun aO=>fq 7 aE aH fun aP=>(mO aP).bind fun aQ=>(kX .sub aQ (.int .i64 1)).bind fun aR=>(kX .eql aA aR).bind fun aS=>kV (K 133 [(kM.kQ aD),(kM.kQ aO),(kM.kQ aS)] aH) (fun aX aJ=>fq 0 aI aJ fun aT=>(kX .eql aT (.int .i64 8)).bind fun aU=>(kX .add aA (.int .i64 1)).bind fun aV=>kT m .normal [aD,aE,aU,aB,aC,aV] aJ) (fun aW aL=>kT m (.pan aW) [aD,aE,aF,aB,aC,aA] aL)) (kT m (.exit 2) [aD,aE,aF,aB,aC,aA] aG)
def m92 (K:kW) (a0 a1:kM) (h0:kP):Option (nO×kP) :=
 (kR (lL 8 h0 a1) fun t2 h3=>(k_ a0).bind fun t6=>(kO 0 t6).bind fun t7=>(kU false 1 h3 t7).bind fun t8=>(kO 1 t2).bind fun t9=>(kU false 1 h3 t9).bind fun b9=>bif oL .string b9 then(q7 (.agg [(.int .i64 0),(.str []),(.slice [] .nil),(.bool false),(.int .i64 0),(.int .i64 0),(.int .i64 0),(.slice [] .nil),(.int .i64 0)]) true h3 t8 b9).bind fun b_=>(lI 0 b_).bind fun cD=>(lI 1 b_).bind fun cE=>kR (lL 9 h3 (.agg [(.int .i64 0),(.str []),(.slice [] .nil),(.bool false),(.int .i64 0),(.int .i64 0),(.int .i64 0),(.slice [] .nil),(.int .i64 0)])) fun cF bY=>IA (k9 [0,1,2] [t7,t9,t8]) h3 bY ((kS 9 bY cF cD).bind fun bZ=>(vR .not cE).bind fun cH=>fq 0 t2 bZ fun cI=>kV (K 131 [(kM.kQ cH),(kM.kQ (.int .i64 13)),(kM.kQ cI)] bZ) (fun cR aY=>(kU true 8 aY t2).bind fun cJ=>(fun(cK:kM) (bJ:kP)=>IA (k9 [0] [t2]) aY bJ ((k_ a0).bind fun cL=>(kO 1 cL).bind fun cM=>(kS 1 bJ cM cK).bind fun b8=>IA (k9 [0] [t2]) bJ b8 ((k_ a0).bind fun cN=>(kO 2 cN).bind fun cO=>(kS 8 b8 cO cJ).bind fun bK=>fq 2 t2 bK fun cA=>(mO cA).bind fun cP=>(mJ (Ea K (aa1 bK)) ([a0,t2,cA,cP,(.int .i64 0)],bK)).bind fun aS=>Eu aS.2 fun aN aD aZ a_ bA aE=>Ex.lW aS.1 none (fun bE=>Ex.inBlock 0 bE (fq 7 aD aE fun aV=>(mO aV).bind fun bL=>(mJ (ND K (aa1 aE)) ([aN,aD,(.bool false),aV,bL,(.int .i64 0)],aE)).bind fun aT=>Bx aT.2 fun aB aA aO bB bC bD aF=>Ex.lW aT.1 none (fun bG=>Ex.inBlock 2 bG (fq 3 aA aF fun bM=>(vR .not bM).bind fun aW=>(lS false aW (lC aO aF) (lC (.tuple []) aF)).bind (nV (fun bN aP=>(lO aW (.bool true) bN).bind fun bO=>fq 0 aA aP fun bP=>kV (K 131 [(kM.kQ bO),(kM.kQ (.int .i64 14)),(kM.kQ bP)] aP) (fun cG aC=>(k_ aB).bind fun bQ=>(kO 0 bQ).bind fun aJ=>(kU false 1 aC aJ).bind fun bR=>(kO 1 aA).bind fun aK=>(kU false 1 aC aK).bind fun aX=>(kU true 8 aC aA).bind fun bS=>fq 7 aA aC fun bT=>kV (K 135 [(kM.kQ aB),(kM.kQ bT)] aC) (fun bU aI=>IA (k9 [0,1,2] [aJ,aK,aA]) aC aI ((kX .add (.int .i64 1) bU).bind fun bV=>kV (K 134 [(kM.kQ aB),(kM.kQ bV)] aI) (fun bW aQ=>IA (k9 [0,1,2] [aJ,aK,aA]) aI aQ ((lT [(.int .i64 0),(.str []),(.slice [] .nil),(.bool false),(.int .i64 0),(.int .i64 0),(.int .i64 0),(.slice [] .nil),(.int .i64 0)] [(0,8),(8,1)] [(0,bS),(1,bW)]).bind fun bX=>bif oL .string aX then(Aa aQ bR aX bX).bind fun bI=>some (.normal,([]:List kM),bI) else none)) (fun aM aH=>some ((.pan aM),([]:List kM),aH)))) (fun aM aH=>some ((.pan aM),([]:List kM),aH))) (fun aL aG=>some ((.pan aL),([]:List kM),aG))) (fun aL aG=>some ((.pan aL),([]:List kM),aG)))) (fun bH=>some (bH,([]:List kM),aF)))) (fun bF=>some (bF,([]:List kM),aE)))))) (.map (aa1 aY)) (aY++[.map []])) (fun cQ cB=>some ((.pan cQ),([]:List kM),cB))) else none).bind fun aU=>(fun aR=>Ex.uY aU.1 (some (.ret (.tuple []),aR)) (fun v=>some (nO.pan v,aR)))  aU.2.2
theorem Se (K:kW) (a0 a1:kM) (h0:kP):o6 Tryz.prog mK mJ K 92 [a0,a1] h0=m92 (lU mK K) a0 a1 h0:=by kernel_rfl
def Jk (K:kW) (m:Nat) (s:List kM×kP):Option R :=
 Bx s fun aD aE aF aB aC aA aS=>aq .lss aA aC ((kZ 6 aB aA).bind fun bC=>(kU true 6 aS bC).bind fun bD=>kR (lL 6 aS (.agg [(.int .i64 0),(.str []),(.int .i64 0),(.int .i64 0),(.int .i64 0),(.bool false)])) fun aO aX=>(kS 6 aX aO bD).bind fun aT=>(kO 2 aO).bind fun bE=>fq 0 bE aT fun bF=>(kX .neq bF (.int .i64 1)).bind fun bG=>fq 0 aO aT fun bH=>kV (K 131 [(kM.kQ bG),(kM.kQ (.int .i64 17)),(kM.kQ bH)] aT) (fun bV aM=>fq 5 aO aM fun bI=>(lH bI ((kO 2 aO).bind fun bJ=>(kU true 3 aM bJ).bind fun bK=>kV (K 136 [(kM.kQ bK)] aM) (fun bL a_=>(kX .add aF bL).bind fun bM=>(Hj bM (.int .i64 65537)).bind fun bN=>kT (aa1 aM) .normal [aD,aE,bN,aB,aC,aA] a_) (fun bT aZ=>kT (aa1 aM) (.pan bT) [aD,aE,aF,aB,aC,aA] aZ)) ((kO 2 aO).bind fun bO=>(kU true 3 aM bO).bind fun bP=>kV (K 136 [(kM.kQ bP)] aM) (fun bQ bB=>(kX .add aE bQ).bind fun bR=>(Hj bR (.int .i64 65537)).bind fun aU=>kT (aa1 aM) .normal [aD,aU,aF,aB,aC,aA] bB) (fun bU bA=>kT (aa1 aM) (.pan bU) [aD,aE,aF,aB,aC,aA] bA))).bind fun aP=>Bx aP.2 fun aJ aK aL aG aH aI aN=>Ex.lW aP.1 ((kX .add aI (.int .i64 1)).bind fun aV=>kT m .normal [aJ,aK,aL,aG,aH,aV] aN) (fun aQ=>Ex.inBlock 1 aQ ((kX .add aI (.int .i64 1)).bind fun aW=>kT m .normal [aJ,aK,aL,aG,aH,aW] aN) (fun aR=>kT m aR [aJ,aK,aL,aG,aH,aI] aN))) (fun bS aY=>kT m (.pan bS) [aD,aE,aF,aB,aC,aA] aY)) (kT m (.exit 0) [aD,aE,aF,aB,aC,aA] aS)
def m93 (K:kW) (a0 a1:kM) (h0:kP):Option (nO×kP) :=
 ((mO a1).bind fun t2=>(kX .gtr t2 (.int .i64 0)).bind fun t3=>(lS true t3 (lC a1 h0) (lC (.tuple []) h0)).bind (nV (fun t4 h5=>(lS true t3 (lC a1 h5) (lC (.tuple []) h5)).bind (nV (fun t6 h7=>(lS true t3 ((mO t6).bind fun t8=>lC t8 h7) (lC (.tuple []) h7)).bind (nV (fun t9 bA=>(lS true t3 ((kX .sub t9 (.int .i64 1)).bind fun bJ=>lC bJ bA) (lC (.tuple []) bA)).bind (nV (fun bK bB=>(lS true t3 ((kZ 8 t4 bK).bind fun bM=>lC bM bB) (lC (.tuple []) bB)).bind (nV (fun bN bC=>(lS true t3 ((kO 1 bN).bind fun bO=>lC bO bC) (lC (.tuple []) bC)).bind (nV (fun bP aT=>(lS true t3 ((kU false 1 aT bP).bind fun bQ=>lC bQ aT) (lC (.tuple []) aT)).bind (nV (fun bR bD=>(lS true t3 ((kX .eql bR (.str [109,97,105,110])).bind fun bS=>lC bS bD) (lC (.tuple []) bD)).bind (nV (fun bT bG=>(lO t3 bT (.bool false)).bind fun bU=>kV (K 131 [(kM.kQ bU),(kM.kQ (.int .i64 17)),(kM.kQ (.int .i64 0))] bG) (fun cB bE=>(mO a1).bind fun bV=>(kX .sub bV (.int .i64 1)).bind fun bW=>(kZ 8 a1 bW).bind fun bX=>(kU true 8 bE bX).bind fun bY=>kR (lL 8 bE (.agg [(.int .i64 0),(.str []),(.slice [] .nil),(.bool false),(.int .i64 0),(.int .i64 0),(.int .i64 0),(.slice [] .nil)])) fun aM bH=>(kS 8 bH aM bY).bind fun aU=>fq 3 aM aU fun bZ=>(vR .not bZ).bind fun b8=>fq 0 aM aU fun b9=>kV (K 131 [(kM.kQ b8),(kM.kQ (.int .i64 17)),(kM.kQ b9)] aU) (fun cD aV=>fq 2 aM aV fun bF=>(mO bF).bind fun b_=>(mJ (Jk K (aa1 aV)) ([aM,(.int .i64 0),(.int .i64 0),bF,b_,(.int .i64 0)],aV)).bind fun aK=>Bx aK.2 fun aE aF aG aN aO aP aC=>Ex.lW aK.1 none (fun aQ=>Ex.inBlock 0 aQ ((kX .leq aF (.int .i64 65536)).bind fun aD=>(lS true aD (lC aG aC) (lC (.tuple []) aC)).bind (nV (fun aW aH=>(lS true aD ((kX .leq aW (.int .i64 65536)).bind fun aX=>lC aX aH) (lC (.tuple []) aH)).bind (nV (fun aY aI=>(lO aD aY (.bool false)).bind fun aZ=>fq 0 aE aI fun a_=>kV (K 131 [(kM.kQ aZ),(kM.kQ (.int .i64 18)),(kM.kQ a_)] aI) (fun bL aS=>some (.normal,([]:List kM),aS)) (fun aB aA=>some ((.pan aB),([]:List kM),aA))) (fun aB aA=>some ((.pan aB),([]:List kM),aA)))) (fun aB aA=>some ((.pan aB),([]:List kM),aA)))) (fun aR=>some (aR,([]:List kM),aC)))) (fun cA bI=>some ((.pan cA),([]:List kM),bI))) (fun v0 h1=>some ((.pan v0),([]:List kM),h1))) (fun v0 h1=>some ((.pan v0),([]:List kM),h1)))) (fun v0 h1=>some ((.pan v0),([]:List kM),h1)))) (fun v0 h1=>some ((.pan v0),([]:List kM),h1)))) (fun v0 h1=>some ((.pan v0),([]:List kM),h1)))) (fun v0 h1=>some ((.pan v0),([]:List kM),h1)))) (fun v0 h1=>some ((.pan v0),([]:List kM),h1)))) (fun v0 h1=>some ((.pan v0),([]:List kM),h1)))) (fun v0 h1=>some ((.pan v0),([]:List kM),h1)))).bind fun aL=>(fun aJ=>Ex.uY aL.1 (lZ (aa1 h0) (.tuple []) aJ) (fun v=>rE (aa1 h0) v aJ))  aL.2.2
theorem aBn (K:kW) (a0 a1:kM) (h0:kP):o6 Tryz.prog mK mJ K 93 [a0,a1] h0=m93 (lU mK K) a0 a1 h0:=by kernel_rfl
def ahR (K:kW) (a0 a1 a2:kM) (h0:kP):Option (nO×kP) :=
 ((vR .not a0).bind fun t2=>lH t2 ((lT [(.int .i64 0),(.int .i64 0)] [(0,1),(1,1)] [(0,a1),(1,a2)]).bind fun t5=>(lT [(.int .i64 0),(.int .i64 0)] [(0,2)] [(0,t5)]).bind fun t6=>EI (.iface 141 t6) h0 (fun v3 h4=>some ((.pan v3),([]:List kM),h4))) (some (.normal,([]:List kM),h0))).bind fun r7=>(fun h8=>Ex.uY r7.1 (lZ (aa1 h0) (.tuple []) h8) (fun v=>rE (aa1 h0) v h8))  r7.2.2
theorem YZ (K:kW) (a0 a1 a2:kM) (h0:kP):o6 Tryz.prog mK mJ K 131 [a0,a1,a2] h0=ahR (lU mK K) a0 a1 a2 h0:=by kernel_rfl
def aAc (K:kW) (a0 a1 a2 a3:kM) (h0:kP):Option (nO×kP) :=
 (kR (lL 4 h0 a2) fun t2 h3=>(k_ a0).bind fun t6=>fq 1 t6 h3 fun t8=>bif oL .string a1 then(q7 (.agg [(.int .i64 0),(.int .i64 0),(.int .i64 0),(.bool false)]) true h3 t8 a1).bind fun t9=>(lI 0 t9).bind fun aH=>(lI 1 t9).bind fun aI=>kR (lL 4 h3 (.agg [(.int .i64 0),(.int .i64 0),(.int .i64 0),(.bool false)])) fun aJ aD=>(kS 4 aD aJ aH).bind fun aE=>(vR .not aI).bind fun aK=>kV (K 131 [(kM.kQ aK),(kM.kQ (.int .i64 13)),(kM.kQ a3)] aE) (fun aP aA=>(k_ a0).bind fun aL=>fq 1 aL aA fun aM=>(kU true 4 aA t2).bind fun aN=>bif oL .string a1 then(Aa aA aM a1 aN).bind fun aG=>some (.normal,([]:List kM),aG) else none) (fun aO aF=>some ((.pan aO),([]:List kM),aF)) else none).bind fun aC=>(fun aB=>Ex.uY aC.1 (lZ (aa1 h0) (.tuple []) aB) (fun v=>rE (aa1 h0) v aB))  aC.2.2
theorem aqF (K:kW) (a0 a1 a2 a3:kM) (h0:kP):o6 Tryz.prog mK mJ K 132 [a0,a1,a2,a3] h0=aAc (lU mK K) a0 a1 a2 a3 h0:=by kernel_rfl
def zZ (K:kW) (a0 a1 a2:kM) (h0:kP):Option (nO×kP) :=
 (kR (lL 11 h0 a1) fun t2 h3=>fq 0 t2 h3 fun t7=>(kX .eql t7 (.int .i64 1)).bind fun iP=>(lH iP ((kO 3 t2).bind fun cE=>(kU false 1 h3 cE).bind fun iT=>fq 7 t2 h3 fun iX=>(kZ 5 iX (.int .i64 0)).bind fun iZ=>(kU true 5 h3 iZ).bind fun jA=>(kO 1 t2).bind fun cF=>(kU false 1 h3 cF).bind fun jD=>kV (K 164 [(kM.kQ a0),(kM.kQ jA)] (nL (k9 [0,1] [cE,cF]) h3)) (fun jE iE=>(lT [(.int .i64 0),(.int .i64 0),(.int .i64 0),(.bool false)] [(0,3),(3,1)] [(0,jE),(1,(.bool true))]).bind fun jG=>kV (K 132 [(kM.kQ a0),(kM.kQ iT),(kM.kQ jG),(kM.kQ jD)] (lQ (k9 [0,1] [cE,cF]) h3 iE)) (fun t24 iF=>kT (aa1 h3) .normal ([]:List kM) iF) (fun gV cQ=>kT (aa1 h3) (.pan gV) ([]:List kM) cQ)) (fun v h'=>(fun gV cQ=>kT (aa1 h3) (.pan gV) ([]:List kM) cQ) v (lQ (k9 [0,1] [cE,cF]) h3 h'))) ((kX .eql t7 (.int .i64 2)).bind fun jI=>(lH jI (fq 3 t2 h3 fun jK=>(kO 4 t2).bind fun jL=>(kU true 3 h3 jL).bind fun jM=>(lT [(.int .i64 0),(.int .i64 0),(.int .i64 0),(.bool false)] [(0,3),(3,1)] [(0,jM),(1,(.bool false))]).bind fun jN=>fq 1 t2 h3 fun jO=>kV (K 132 [(kM.kQ a0),(kM.kQ jK),(kM.kQ jN),(kM.kQ jO)] h3) (fun t38 dI=>(kO 4 t2).bind fun jP=>fq 1 jP dI fun jQ=>(kX .leq jQ (.int .i64 16384)).bind fun jR=>fq 1 t2 dI fun jS=>kV (K 131 [(kM.kQ jR),(kM.kQ (.int .i64 18)),(kM.kQ jS)] dI) (fun t48 iI=>kT (aa1 h3) .normal ([]:List kM) iI) (fun kJ iH=>kT (aa1 h3) (.pan kJ) ([]:List kM) iH)) (fun kI iG=>kT (aa1 h3) (.pan kI) ([]:List kM) iG)) ((kX .eql t7 (.int .i64 3)).bind fun jT=>(lH jT (fq 7 t2 h3 fun jU=>(kZ 5 jU (.int .i64 0)).bind fun jV=>(kU true 5 h3 jV).bind fun jW=>kV (K 164 [(kM.kQ a0),(kM.kQ jW)] h3) (fun jX iK=>kR (lL 3 iK (.agg [(.int .i64 0),(.int .i64 0),(.int .i64 0)])) fun gU iL=>(kS 3 iL gU jX).bind fun dJ=>fq 3 t2 dJ fun jY=>fq 1 t2 dJ fun jZ=>kV (K 165 [(kM.kQ a0),(kM.kQ jY),(kM.kQ jZ)] dJ) (fun j4 iN=>kR (lL 4 iN (.agg [(.int .i64 0),(.int .i64 0),(.int .i64 0),(.bool false)])) fun cD iO=>(kS 4 iO cD j4).bind fun dK=>(kO 0 cD).bind fun j5=>fq 1 j5 dK fun j6=>(kX .eql j6 (.int .i64 0)).bind fun cG=>(lS true cG ((kO 3 cD).bind fun j7=>lC j7 dK) (lC (.tuple []) dK)).bind (nV (fun j8 dL=>(lS true cG ((kU false 1 dL j8).bind fun j9=>lC j9 dL) (lC (.tuple []) dL)).bind (nV (fun j_ iA=>(lS true cG ((vR .not j_).bind fun kA=>lC kA iA) (lC (.tuple []) iA)).bind (nV (fun kB iB=>(lO cG kB (.bool false)).bind fun aU=>(lS true aU ((kO 0 cD).bind fun kC=>lC kC iB) (lC (.tuple []) iB)).bind (nV (fun kD iC=>(lS true aU ((kO 0 kD).bind fun kE=>lC kE iC) (lC (.tuple []) iC)).bind (nV (fun kF dM=>(lS true aU ((kU false 1 dM kF).bind fun kG=>lC kG dM) (lC (.tuple []) dM)).bind (nV (fun kH iD=>(lS true aU ((kO 0 gU).bind fun dN=>lC dN iD) (lC (.tuple []) iD)).bind (nV (fun dO aJ=>(lS true aU ((kU false 1 aJ dO).bind fun dP=>lC dP aJ) (lC (.tuple []) aJ)).bind (nV (fun dQ aX=>(lS true aU ((kX .eql kH dQ).bind fun dR=>lC dR aX) (lC (.tuple []) aX)).bind (nV (fun dU aY=>(lO aU dU (.bool false)).bind fun dV=>fq 1 t2 aY fun dW=>kV (K 131 [(kM.kQ dV),(kM.kQ (.int .i64 14)),(kM.kQ dW)] aY) (fun iQ aF=>fq 2 gU aF fun dX=>(kO 0 cD).bind fun dY=>fq 2 dY aF fun dZ=>(kO 1 t2).bind fun aH=>(kU false 1 aF aH).bind fun d_=>kV (K 166 [(kM.kQ dX),(kM.kQ dZ)] (nL (k9 [0] [aH]) aF)) (fun eA cR=>kV (K 131 [(kM.kQ eA),(kM.kQ (.int .i64 15)),(kM.kQ d_)] (lQ (k9 [0] [aH]) aF cR)) (fun iR cS=>kT (aa1 h3) .normal ([]:List kM) cS) (fun aV aK=>kT (aa1 h3) (.pan aV) ([]:List kM) aK)) (fun v h'=>(fun aV aK=>kT (aa1 h3) (.pan aV) ([]:List kM) aK) v (lQ (k9 [0] [aH]) aF h'))) (fun aE aD=>kT (aa1 h3) (.pan aE) ([]:List kM) aD)) (fun aE aD=>kT (aa1 h3) (.pan aE) ([]:List kM) aD))) (fun aE aD=>kT (aa1 h3) (.pan aE) ([]:List kM) aD))) (fun aE aD=>kT (aa1 h3) (.pan aE) ([]:List kM) aD))) (fun aE aD=>kT (aa1 h3) (.pan aE) ([]:List kM) aD))) (fun aE aD=>kT (aa1 h3) (.pan aE) ([]:List kM) aD))) (fun aE aD=>kT (aa1 h3) (.pan aE) ([]:List kM) aD))) (fun aE aD=>kT (aa1 h3) (.pan aE) ([]:List kM) aD))) (fun aE aD=>kT (aa1 h3) (.pan aE) ([]:List kM) aD))) (fun aE aD=>kT (aa1 h3) (.pan aE) ([]:List kM) aD))) (fun kL iM=>kT (aa1 h3) (.pan kL) ([]:List kM) iM)) (fun kK iJ=>kT (aa1 h3) (.pan kK) ([]:List kM) iJ)) ((kX .eql t7 (.int .i64 4)).bind fun eB=>(lH eB ((kU true 11 h3 t2).bind fun eC=>kV (K 167 [(kM.kQ a0),(kM.kQ eC)] h3) (fun iS cU=>kT (aa1 h3) .normal ([]:List kM) cU) (fun gW cT=>kT (aa1 h3) (.pan gW) ([]:List kM) cT)) ((kX .eql t7 (.int .i64 5)).bind fun eD=>(lH eD (fq 7 t2 h3 fun eE=>(kZ 5 eE (.int .i64 0)).bind fun eF=>(kU true 5 h3 eF).bind fun eG=>kV (K 168 [(kM.kQ a0),(kM.kQ eG),(kM.kQ (.int .i64 1))] h3) (fun iU aZ=>fq 8 t2 aZ fun eH=>kV (K 169 [(kM.kQ a0),(kM.kQ eH)] aZ) (fun iV a_=>fq 9 t2 a_ fun eI=>kV (K 169 [(kM.kQ a0),(kM.kQ eI)] a_) (fun iW cY=>kT (aa1 h3) .normal ([]:List kM) cY) (fun gZ cX=>kT (aa1 h3) (.pan gZ) ([]:List kM) cX)) (fun gY cW=>kT (aa1 h3) (.pan gY) ([]:List kM) cW)) (fun gX cV=>kT (aa1 h3) (.pan gX) ([]:List kM) cV)) ((kX .eql t7 (.int .i64 6)).bind fun eJ=>(lH eJ (fq 7 t2 h3 fun eK=>(kZ 5 eK (.int .i64 0)).bind fun eL=>(kU true 5 h3 eL).bind fun eM=>kV (K 168 [(kM.kQ a0),(kM.kQ eM),(kM.kQ (.int .i64 0))] h3) (fun iY aL=>fq 3 t2 aL fun eN=>(lT [(.int .i64 0),(.int .i64 0),(.int .i64 0)] [(0,1),(1,1),(2,1)] []).bind fun eO=>(lT [(.int .i64 0),(.int .i64 0),(.int .i64 0),(.bool false)] [(0,3),(3,1)] [(0,eO),(1,(.bool true))]).bind fun eP=>fq 1 t2 aL fun eQ=>kV (K 132 [(kM.kQ a0),(kM.kQ eN),(kM.kQ eP),(kM.kQ eQ)] aL) (fun i_ aM=>fq 2 t2 aM fun eR=>(kX .leq eR (.int .i64 65536)).bind fun eS=>fq 1 t2 aM fun eT=>kV (K 131 [(kM.kQ eS),(kM.kQ (.int .i64 18)),(kM.kQ eT)] aM) (fun jB bA=>fq 8 t2 bA fun eU=>kV (K 169 [(kM.kQ a0),(kM.kQ eU)] bA) (fun jC aN=>(k_ a0).bind fun eV=>fq 1 eV aN fun eX=>fq 3 t2 aN fun cB=>bif oL .string cB then(DV aN eX cB).bind fun dA=>kT (aa1 h3) .normal ([]:List kM) dA else none) (fun hO c_=>kT (aa1 h3) (.pan hO) ([]:List kM) c_)) (fun hI c7=>kT (aa1 h3) (.pan hI) ([]:List kM) c7)) (fun hD c6=>kT (aa1 h3) (.pan hD) ([]:List kM) c6)) (fun g_ cZ=>kT (aa1 h3) (.pan g_) ([]:List kM) cZ)) ((kX .eql t7 (.int .i64 7)).bind fun eY=>(lH eY (fq 7 t2 h3 fun eZ=>(kZ 5 eZ (.int .i64 0)).bind fun e_=>(kU true 5 h3 e_).bind fun fB=>kV (K 170 [(kM.kQ a0),(kM.kQ fB)] h3) (fun jF dC=>kT (aa1 h3) .normal ([]:List kM) dC) (fun hQ dB=>kT (aa1 h3) (.pan hQ) ([]:List kM) dB)) ((kX .eql t7 (.int .i64 8)).bind fun fC=>(lH fC (fq 7 t2 h3 fun fD=>(kZ 5 fD (.int .i64 0)).bind fun fE=>(kU true 5 h3 fE).bind fun fF=>kV (K 164 [(kM.kQ a0),(kM.kQ fF)] h3) (fun fH dE=>kR (lL 3 dE (.agg [(.int .i64 0),(.int .i64 0),(.int .i64 0)])) fun aT dF=>(kS 3 dF aT fH).bind fun bB=>(lS true a2 (lC a0 bB) (lC (.tuple []) bB)).bind (nV (fun fI bC=>(lS true a2 ((k_ fI).bind fun fJ=>lC fJ bC) (lC (.tuple []) bC)).bind (nV (fun fK bD=>(lS true a2 ((kO 2 fK).bind fun fL=>lC fL bD) (lC (.tuple []) bD)).bind (nV (fun fM bE=>(lS true a2 ((kO 3 fM).bind fun fN=>lC fN bE) (lC (.tuple []) bE)).bind (nV (fun fO aO=>(lS true a2 ((kU false 1 aO fO).bind fun fQ=>lC fQ aO) (lC (.tuple []) aO)).bind (nV (fun fR bF=>(lO a2 fR (.bool false)).bind fun aC=>(lS true aC ((kO 0 aT).bind fun fS=>lC fS bF) (lC (.tuple []) bF)).bind (nV (fun fU aP=>(lS true aC ((kU false 1 aP fU).bind fun fV=>lC fV aP) (lC (.tuple []) aP)).bind (nV (fun fX bG=>(lS true aC (lC a0 bG) (lC (.tuple []) bG)).bind (nV (fun fY bH=>(lS true aC ((k_ fY).bind fun fZ=>lC fZ bH) (lC (.tuple []) bH)).bind (nV (fun f_ bI=>(lS true aC ((kO 2 f_).bind fun gA=>lC gA bI) (lC (.tuple []) bI)).bind (nV (fun gB bJ=>(lS true aC ((kO 4 gB).bind fun gC=>lC gC bJ) (lC (.tuple []) bJ)).bind (nV (fun gD bK=>(lS true aC ((kO 0 gD).bind fun gE=>lC gE bK) (lC (.tuple []) bK)).bind (nV (fun gF aQ=>(lS true aC ((kU false 1 aQ gF).bind fun gG=>lC gG aQ) (lC (.tuple []) aQ)).bind (nV (fun gH bL=>(lS true aC ((kX .eql fX gH).bind fun gI=>lC gI bL) (lC (.tuple []) bL)).bind (nV (fun gJ bM=>(lO aC gJ (.bool false)).bind fun gK=>fq 1 t2 bM fun gL=>kV (K 131 [(kM.kQ gK),(kM.kQ (.int .i64 14)),(kM.kQ gL)] bM) (fun jH aG=>fq 2 aT aG fun gM=>(k_ a0).bind fun gN=>(kO 2 gN).bind fun gO=>(kO 4 gO).bind fun gP=>fq 2 gP aG fun gQ=>(kO 1 t2).bind fun aI=>(kU false 1 aG aI).bind fun gR=>kV (K 166 [(kM.kQ gM),(kM.kQ gQ)] (nL (k9 [0] [aI]) aG)) (fun gT dG=>kV (K 131 [(kM.kQ gT),(kM.kQ (.int .i64 15)),(kM.kQ gR)] (lQ (k9 [0] [aI]) aG dG)) (fun jJ dH=>kT (aa1 h3) .normal ([]:List kM) dH) (fun aW aR=>kT (aa1 h3) (.pan aW) ([]:List kM) aR)) (fun v h'=>(fun aW aR=>kT (aa1 h3) (.pan aW) ([]:List kM) aR) v (lQ (k9 [0] [aI]) aG h'))) (fun aB aA=>kT (aa1 h3) (.pan aB) ([]:List kM) aA)) (fun aB aA=>kT (aa1 h3) (.pan aB) ([]:List kM) aA))) (fun aB aA=>kT (aa1 h3) (.pan aB) ([]:List kM) aA))) (fun aB aA=>kT (aa1 h3) (.pan aB) ([]:List kM) aA))) (fun aB aA=>kT (aa1 h3) (.pan aB) ([]:List kM) aA))) (fun aB aA=>kT (aa1 h3) (.pan aB) ([]:List kM) aA))) (fun aB aA=>kT (aa1 h3) (.pan aB) ([]:List kM) aA))) (fun aB aA=>kT (aa1 h3) (.pan aB) ([]:List kM) aA))) (fun aB aA=>kT (aa1 h3) (.pan aB) ([]:List kM) aA))) (fun aB aA=>kT (aa1 h3) (.pan aB) ([]:List kM) aA))) (fun aB aA=>kT (aa1 h3) (.pan aB) ([]:List kM) aA))) (fun aB aA=>kT (aa1 h3) (.pan aB) ([]:List kM) aA))) (fun aB aA=>kT (aa1 h3) (.pan aB) ([]:List kM) aA))) (fun aB aA=>kT (aa1 h3) (.pan aB) ([]:List kM) aA))) (fun aB aA=>kT (aa1 h3) (.pan aB) ([]:List kM) aA))) (fun h_ dD=>kT (aa1 h3) (.pan h_) ([]:List kM) dD)) (kT (aa1 h3) .normal ([]:List kM) h3)).bind fun bV=>(fun bN=>Ex.lW bV.1 (kT (aa1 h3) .normal ([]:List kM) bN) (fun cH=>kT (aa1 h3) cH ([]:List kM) bN))  bV.2.2)).bind fun bW=>(fun bO=>Ex.lW bW.1 (kT (aa1 h3) .normal ([]:List kM) bO) (fun cI=>kT (aa1 h3) cI ([]:List kM) bO))  bW.2.2)).bind fun bX=>(fun bP=>Ex.lW bX.1 (kT (aa1 h3) .normal ([]:List kM) bP) (fun cJ=>kT (aa1 h3) cJ ([]:List kM) bP))  bX.2.2)).bind fun bY=>(fun bQ=>Ex.lW bY.1 (kT (aa1 h3) .normal ([]:List kM) bQ) (fun cK=>kT (aa1 h3) cK ([]:List kM) bQ))  bY.2.2)).bind fun bZ=>(fun bR=>Ex.lW bZ.1 (kT (aa1 h3) .normal ([]:List kM) bR) (fun cL=>kT (aa1 h3) cL ([]:List kM) bR))  bZ.2.2)).bind fun b8=>(fun bS=>Ex.lW b8.1 (kT (aa1 h3) .normal ([]:List kM) bS) (fun cM=>kT (aa1 h3) cM ([]:List kM) bS))  b8.2.2)).bind fun b9=>(fun bT=>Ex.lW b9.1 (kT (aa1 h3) .normal ([]:List kM) bT) (fun cN=>kT (aa1 h3) cN ([]:List kM) bT))  b9.2.2)).bind fun b_=>(fun aS=>Ex.lW b_.1 (some (.normal,([]:List kM),aS)) (fun cO=>Ex.inBlock 0 cO (some (.normal,([]:List kM),aS)) (fun cP=>some (cP,([]:List kM),aS))))  b_.2.2).bind fun cA=>(fun bU=>Ex.uY cA.1 (lZ (aa1 h0) (.tuple []) bU) (fun v=>rE (aa1 h0) v bU))  cA.2.2
theorem wT (K:kW) (a0 a1 a2:kM) (h0:kP):o6 Tryz.prog mK mJ K 133 [a0,a1,a2] h0=zZ (lU mK K) a0 a1 a2 h0:=by kernel_rfl
def aFa (K:kW) (a0 a1:kM) (h0:kP):Option (nO×kP) :=
 ((Hj a1 (.int .i64 65537)).bind fun t0=>some (.ret,[t0],h0)).bind fun r1=>sL r1.2 fun aA h3=>Ex.nA r1.1 (lZ (aa1 h0) aA h3)
theorem aqG (K:kW) (a0 a1:kM) (h0:kP):o6 Tryz.prog mK mJ K 134 [a0,a1] h0=aFa (lU mK K) a0 a1 h0:=by kernel_rfl
def HK (K:kW) (m:Nat) (s:List kM×kP):Option R :=
 Bx s fun aC aI aM aE aB aA h7=>aq .lss aA aB ((kZ 11 aE aA).bind fun t9=>(kU true 11 h7 t9).bind fun a_=>kR (lL 11 h7 (.agg [(.int .i64 0),(.int .i64 0),(.int .i64 0),(.str []),(.int .i64 0),(.int .i64 0),(.int .i64 0),(.slice [] .nil),(.slice [] .nil),(.slice [] .nil),(.bool false)])) fun aF aX=>(kS 11 aX aF a_).bind fun aK=>fq 7 aF aK fun bA=>(kO 4 aF).bind fun bB=>(kO 1 bB).bind fun aR=>(kU false 1 aK aR).bind fun bC=>o_ K 171 aC bA (nL (k9 [0] [aR]) aK) fun bD aS=>(kX .add (.int .i64 1) bD).bind fun bE=>(kX .add bE bC).bind fun bF=>(kX .add aM bF).bind fun aV=>(kO 8 aF).bind fun bG=>(kU false 1 (lQ (k9 [0] [aR]) aK aS) bG).bind fun bH=>o_ K 135 aC bH (lQ (k9 [0] [aR]) aK aS) fun aW aJ=>fq 0 aF aJ fun bI=>(kX .eql bI (.int .i64 6)).bind fun bJ=>(lH bJ (fq 2 aF aJ fun bK=>(kX .add bK (.int .i64 1)).bind fun bL=>(kX .add (.int .i64 1) aW).bind fun bM=>(kX .mul bL bM).bind fun bN=>kT (aa1 aJ) .normal [aC,aI,aV,aF,bN,aE,aB,aA] aJ) (kT (aa1 aJ) .normal [aC,aI,aV,aF,aW,aE,aB,aA] aJ)).bind fun aU=>uq8 aU.2 fun aD aL aN aO aP aQ aG aH aT=>Ex.uB aU.1 ((kX .add aN aP).bind fun bO=>fq 9 aO aT fun bP=>o_ K 135 aD bP aT fun bQ aY=>(kX .add bO bQ).bind fun bR=>o_ K 134 aD bR aY fun bS aZ=>(kX .add aH (.int .i64 1)).bind fun bT=>kT m .normal [aD,aL,bS,aQ,aG,bT] aZ)) (kT m (.exit 0) [aC,aI,aM,aE,aB,aA] h7)
def aAd (K:kW) (a0 a1:kM) (h0:kP):Option (nO×kP) :=
 ((mO a1).bind fun t0=>(mJ (HK K (aa1 h0)) ([a0,(.int .i64 0),(.int .i64 0),a1,t0,(.int .i64 0)],h0)).bind fun aG=>Bx aG.2 fun aI aA aC aJ aD aE aF=>Ex.lW aG.1 none (fun aK=>Ex.inBlock 0 aK (some (.ret,[aC],aF)) (fun aL=>some (aL,[aA],aF)))).bind fun aH=>sL aH.2 fun aB aM=>Ex.nA aH.1 (lZ (aa1 h0) aB aM)
theorem Y0 (K:kW) (a0 a1:kM) (h0:kP):o6 Tryz.prog mK mJ K 135 [a0,a1] h0=aAd (lU mK K) a0 a1 h0:=by kernel_rfl
def aqH (K:kW) (a0:kM) (h0:kP):Option (nO×kP) :=
 (kR (lL 3 h0 a0) fun t0 h1=>fq 1 t0 h1 fun t3=>aq .eql t3 (.int .i64 0) (some (.ret,[(.int .i64 4)],h1)) (fq 0 t0 h1 fun t6=>aq .eql t6 (.int .i64 2) (fq 1 t0 h1 fun t9=>(kX .add t9 (.int .i64 3)).bind fun aD=>(kX .quo aD (.int .i64 4)).bind fun aE=>(kX .mul aE (.int .i64 4)).bind fun aF=>some (.ret,[aF],h1)) (fq 1 t0 h1 fun aG=>(kX .mul (.int .i64 4) aG).bind fun aH=>some (.ret,[aH],h1)))).bind fun aB=>sL aB.2 fun aA aC=>Ex.nA aB.1 (lZ (aa1 h0) aA aC)
theorem aqI (K:kW) (a0:kM) (h0:kP):o6 Tryz.prog mK mJ K 136 [a0] h0=aqH (lU mK K) a0 h0:=by kernel_rfl
def FD (K:kW) (m:Nat) (s:List kM×kP):Option R :=
 uq8 s fun aE aF aG aD aH aB aC aA aI=>aq .lss aA aC ((kZ 5 aB aA).bind fun aU=>(kU true 5 aI aU).bind fun aV=>kR (lL 5 aI (.agg [(.int .i64 0),(.int .i64 0),(.int .i64 0),(.str []),(.slice [] .nil)])) fun aN aO=>(kS 5 aO aN aV).bind fun aL=>(kU true 5 aL aN).bind fun aW=>kV (K 164 [(kM.kQ aE),(kM.kQ aW)] aL) (fun aX aQ=>kR (lL 3 aQ (.agg [(.int .i64 0),(.int .i64 0),(.int .i64 0)])) fun aK aR=>(kS 3 aR aK aX).bind fun aJ=>fq 2 aD aJ fun aY=>fq 2 aK aJ fun aZ=>(CO aY aZ).bind fun a_=>(kO 2 aD).bind fun bA=>(kS 1 aJ bA a_).bind fun aM=>fq 0 aK aM fun bB=>kR (kY 1 1 [(.int .i64 0)] [(0,bB)] aM) fun bC aS=>kR (mH 1 8 aS aH bC) fun bD aT=>(kX .add aA (.int .i64 1)).bind fun bE=>kT m .normal [aE,aF,aG,aD,bD,aB,aC,bE] aT) (fun bF aP=>kT m (.pan bF) [aE,aF,aG,aD,aH,aB,aC,aA] aP)) (kT m (.exit 1) [aE,aF,aG,aD,aH,aB,aC,aA] aI)
def Nr (K:kW) (a0 a1:kM) (h0:kP):Option (nO×kP) :=
 (kR (lL 5 h0 a1) fun t2 h3=>kR (lL 3 h3 (.agg [(.int .i64 0),(.int .i64 0),(.int .i64 0)])) fun t4 h5=>fq 0 t2 h5 fun t9=>aq .eql t9 (.int .i64 1) ((lT [(.int .i64 0),(.int .i64 0),(.int .i64 0)] [(0,1),(1,1),(2,1)] []).bind fun cH=>(kS 3 h5 t4 cH).bind fun bU=>some (.ret,[t4],bU)) (aq .eql t9 (.int .i64 2) (fq 3 t2 h5 fun cK=>fq 1 t2 h5 fun cL=>kV (K 165 [(kM.kQ a0),(kM.kQ cK),(kM.kQ cL)] h5) (fun cM bW=>kR (lL 4 bW (.agg [(.int .i64 0),(.int .i64 0),(.int .i64 0),(.bool false)])) fun bK bX=>(kS 4 bX bK cM).bind fun aX=>(kO 0 bK).bind fun cN=>fq 1 cN aX fun cO=>(kX .eql cO (.int .i64 0)).bind fun cP=>fq 1 t2 aX fun cQ=>kV (K 131 [(kM.kQ cP),(kM.kQ (.int .i64 14)),(kM.kQ cQ)] aX) (fun dM bQ=>(kO 0 bK).bind fun cR=>(kU true 3 bQ cR).bind fun cS=>(kS 3 bQ t4 cS).bind fun bZ=>some (.ret,[t4],bZ)) (fun dI bY=>some ((.pan dI),[t4],bY))) (fun dH bV=>some ((.pan dH),[t4],bV))) (aq .eql t9 (.int .i64 3) (fq 3 t2 h5 fun cT=>fq 4 t2 h5 fun cU=>(kZ 5 cU (.int .i64 0)).bind fun cV=>(kU true 5 h5 cV).bind fun cW=>fq 1 t2 h5 fun cX=>kV (K 195 [(kM.kQ a0),(kM.kQ cT),(kM.kQ cW),(kM.kQ cX)] h5) (fun cY b9=>(sO true 3 0 cY).bind fun cZ=>(sO false 1 2 cZ).bind fun c6=>(lT [(.int .i64 0),(.int .i64 0),(.int .i64 0)] [(0,1),(1,1),(2,1)] [(2,c6)]).bind fun c7=>(kS 3 b9 t4 c7).bind fun b_=>some (.ret,[t4],b_)) (fun dJ b8=>some ((.pan dJ),[t4],b8))) (aq .eql t9 (.int .i64 4) ((kU true 5 h5 t2).bind fun c_=>kV (K 170 [(kM.kQ a0),(kM.kQ c_)] h5) (fun dA cB=>kR (lL 8 cB (.agg [(.int .i64 0),(.str []),(.slice [] .nil),(.bool false),(.int .i64 0),(.int .i64 0),(.int .i64 0),(.slice [] .nil)])) fun bL cD=>(kS 8 cD bL dA).bind fun aY=>fq 3 bL aY fun dB=>fq 1 t2 aY fun dC=>kV (K 131 [(kM.kQ dB),(kM.kQ (.int .i64 14)),(kM.kQ dC)] aY) (fun dN bR=>(kO 4 bL).bind fun dD=>(kU true 3 bR dD).bind fun dE=>(kS 3 bR t4 dE).bind fun cF=>some (.ret,[t4],cF)) (fun dL cE=>some ((.pan dL),[t4],cE))) (fun dK cA=>some ((.pan dK),[t4],cA))) ((lT [(.int .i64 0),(.int .i64 0),(.int .i64 0)] [(0,1),(1,1),(2,1)] []).bind fun dF=>kR (lL 3 h5 (.agg [(.int .i64 0),(.int .i64 0),(.int .i64 0)])) fun bT cG=>(kS 3 cG bT dF).bind fun bS=>(fun(dG:kM) (aZ:kP)=>fq 4 t2 aZ fun aL=>(mO aL).bind fun a_=>(mJ (FD K (aa1 aZ)) ([a0,t2,t4,bT,dG,aL,a_,(.int .i64 0)],aZ)).bind fun U7=>uq8 U7.2 fun bP aB aA aC aH aN aO aP aD=>Ex.lW U7.1 none (fun aQ=>Ex.inBlock 1 aQ (fq 0 aB aD fun bA=>kV (K 196 [(kM.kQ bA),(kM.kQ aH)] aD) (fun aM aI=>(lI 0 aM).bind fun bB=>(lI 1 aM).bind fun bC=>fq 1 aB aI fun bD=>kV (K 131 [(kM.kQ bC),(kM.kQ (.int .i64 14)),(kM.kQ bD)] aI) (fun cI aE=>fq 2 aB aE fun bE=>(kX .lss bE (.int .i64 32)).bind fun bF=>fq 1 aB aE fun bG=>kV (K 131 [(kM.kQ bF),(kM.kQ (.int .i64 18)),(kM.kQ bG)] aE) (fun cJ aV=>(kO 0 aC).bind fun bH=>(kS 1 aV bH bB).bind fun aJ=>(kU true 3 aJ aC).bind fun bI=>(kS 3 aJ aA bI).bind fun aW=>some (.ret,[aA],aW)) (fun bO aU=>some ((.pan bO),[aA],aU))) (fun bN aT=>some ((.pan bN),[aA],aT))) (fun bM aS=>some ((.pan bM),[aA],aS))) (fun aR=>some (aR,[aA],aD)))) (.slice [] (.own (aa1 bS))) (bS++[.front 0 0])))))).bind fun aK=>sL aK.2 fun aG aF=>Ex.uY aK.1 ((kU true 3 aF aG).bind fun bJ=>lZ (aa1 h0) bJ aF) (fun v=>rE (aa1 h0) v aF)
theorem aq3 (K:kW) (a0 a1:kM) (h0:kP):o6 Tryz.prog mK mJ K 164 [a0,a1] h0=Nr (lU mK K) a0 a1 h0:=by kernel_rfl
def aAn (K:kW) (a0 a1 a2:kM) (h0:kP):Option (nO×kP) :=
 (kR (lL 4 h0 (.agg [(.int .i64 0),(.int .i64 0),(.int .i64 0),(.bool false)])) fun t2 h3=>(k_ a0).bind fun t6=>fq 1 t6 h3 fun t8=>bif oL .string a1 then(q7 (.agg [(.int .i64 0),(.int .i64 0),(.int .i64 0),(.bool false)]) true h3 t8 a1).bind fun t9=>(lI 0 t9).bind fun aJ=>(lI 1 t9).bind fun aK=>kR (lL 4 h3 (.agg [(.int .i64 0),(.int .i64 0),(.int .i64 0),(.bool false)])) fun aE aF=>(kS 4 aF aE aJ).bind fun aG=>kV (K 131 [(kM.kQ aK),(kM.kQ (.int .i64 12)),(kM.kQ a2)] aG) (fun aO aC=>(kU true 4 aC aE).bind fun aL=>(kS 4 aC t2 aL).bind fun aI=>some (.ret,[t2],aI)) (fun aN aH=>some ((.pan aN),[t2],aH)) else none).bind fun aD=>sL aD.2 fun aA aB=>Ex.uY aD.1 ((kU true 4 aB aA).bind fun aM=>lZ (aa1 h0) aM aB) (fun v=>rE (aa1 h0) v aB)
theorem aq4 (K:kW) (a0 a1 a2:kM) (h0:kP):o6 Tryz.prog mK mJ K 165 [a0,a1,a2] h0=aAn (lU mK K) a0 a1 a2 h0:=by kernel_rfl
def aAo (K:kW) (a0 a1:kM) (h0:kP):Option (nO×kP) :=
 ((kX .eql a0 (.int .i64 0)).bind fun t0=>gq false t0 (lC a1 h0) h0 fun t1 h2=>gq false t0 ((kX .eql t1 (.int .i64 1)).bind fun t3=>lC t3 h2) h2 fun t4 h5=>(lO t0 (.bool true) t4).bind fun t6=>some (.ret,[t6],h5)).bind fun r7=>sL r7.2 fun aA h9=>Ex.nA r7.1 (lZ (aa1 h0) aA h9)
theorem aq5 (K:kW) (a0 a1:kM) (h0:kP):o6 Tryz.prog mK mJ K 166 [a0,a1] h0=aAo (lU mK K) a0 a1 h0:=by kernel_rfl
def UI (K:kW) (a0 a1:kM) (h0:kP):Option (nO×kP) :=
 (kR (lL 11 h0 a1) fun t2 h3=>fq 7 t2 h3 fun t7=>(kZ 5 t7 (.int .i64 0)).bind fun t8=>(kU true 5 h3 t8).bind fun t9=>kV (K 168 [(kM.kQ a0),(kM.kQ t9),(kM.kQ (.int .i64 0))] h3) (fun cE aH=>fq 7 t2 aH fun bC=>(kZ 5 bC (.int .i64 1)).bind fun bD=>(kU true 5 aH bD).bind fun bE=>kV (K 164 [(kM.kQ a0),(kM.kQ bE)] aH) (fun bF aW=>kR (lL 3 aW (.agg [(.int .i64 0),(.int .i64 0),(.int .i64 0)])) fun aN aX=>(kS 3 aX aN bF).bind fun aI=>fq 3 t2 aI fun bG=>fq 1 t2 aI fun bH=>kV (K 165 [(kM.kQ a0),(kM.kQ bG),(kM.kQ bH)] aI) (fun bI aZ=>kR (lL 4 aZ (.agg [(.int .i64 0),(.int .i64 0),(.int .i64 0),(.bool false)])) fun aD a_=>(kS 4 a_ aD bI).bind fun aJ=>(kO 0 aD).bind fun bJ=>fq 1 bJ aJ fun bK=>(kX .gtr bK (.int .i64 0)).bind fun aE=>(lS true aE ((kO 3 aD).bind fun bL=>lC bL aJ) (lC (.tuple []) aJ)).bind (nV (fun bM aK=>(lS true aE ((kU false 1 aK bM).bind fun bN=>lC bN aK) (lC (.tuple []) aK)).bind (nV (fun bO aP=>(lS true aE ((vR .not bO).bind fun bP=>lC bP aP) (lC (.tuple []) aP)).bind (nV (fun bQ aQ=>(lO aE bQ (.bool false)).bind fun aF=>(lS true aF ((kO 0 aN).bind fun bR=>lC bR aQ) (lC (.tuple []) aQ)).bind (nV (fun bS aL=>(lS true aF ((kU false 1 aL bS).bind fun bT=>lC bT aL) (lC (.tuple []) aL)).bind (nV (fun bU aR=>(lS true aF ((kX .eql bU (.int .i64 0)).bind fun bV=>lC bV aR) (lC (.tuple []) aR)).bind (nV (fun bW aS=>(lO aF bW (.bool false)).bind fun bX=>fq 1 t2 aS fun bY=>kV (K 131 [(kM.kQ bX),(kM.kQ (.int .i64 14)),(kM.kQ bY)] aS) (fun cF aC=>fq 2 aN aC fun bZ=>(kO 0 aD).bind fun b8=>fq 2 b8 aC fun b9=>(kO 1 t2).bind fun aG=>(kU false 1 aC aG).bind fun b_=>kV (K 166 [(kM.kQ bZ),(kM.kQ b9)] (nL (k9 [0] [aG]) aC)) (fun cA bA=>kV (K 131 [(kM.kQ cA),(kM.kQ (.int .i64 15)),(kM.kQ b_)] (lQ (k9 [0] [aG]) aC bA)) (fun cG bB=>some (.normal,([]:List kM),bB)) (fun aO aM=>some ((.pan aO),([]:List kM),aM))) (fun v h'=>(fun aO aM=>some ((.pan aO),([]:List kM),aM)) v (lQ (k9 [0] [aG]) aC h'))) (fun aB aA=>some ((.pan aB),([]:List kM),aA))) (fun aB aA=>some ((.pan aB),([]:List kM),aA)))) (fun aB aA=>some ((.pan aB),([]:List kM),aA)))) (fun aB aA=>some ((.pan aB),([]:List kM),aA)))) (fun aB aA=>some ((.pan aB),([]:List kM),aA)))) (fun aB aA=>some ((.pan aB),([]:List kM),aA)))) (fun aB aA=>some ((.pan aB),([]:List kM),aA)))) (fun cD aY=>some ((.pan cD),([]:List kM),aY))) (fun cB aV=>some ((.pan cB),([]:List kM),aV))) (fun v4 h5=>some ((.pan v4),([]:List kM),h5))).bind fun aU=>(fun aT=>Ex.uY aU.1 (lZ (aa1 h0) (.tuple []) aT) (fun v=>rE (aa1 h0) v aT))  aU.2.2
theorem aq6 (K:kW) (a0 a1:kM) (h0:kP):o6 Tryz.prog mK mJ K 167 [a0,a1] h0=UI (lU mK K) a0 a1 h0:=by kernel_rfl
def aq7 (K:kW) (a0 a1 a2:kM) (h0:kP):Option (nO×kP) :=
 (kR (lL 5 h0 a1) fun t2 h3=>(kU true 5 h3 t2).bind fun t6=>kV (K 164 [(kM.kQ a0),(kM.kQ t6)] h3) (fun t7 h8=>kR (lL 3 h8 (.agg [(.int .i64 0),(.int .i64 0),(.int .i64 0)])) fun t9 aE=>(kS 3 aE t9 t7).bind fun aA=>fq 0 t9 aA fun aI=>(kX .eql aI a2).bind fun aJ=>fq 1 t2 aA fun aK=>kV (K 131 [(kM.kQ aJ),(kM.kQ (.int .i64 14)),(kM.kQ aK)] aA) (fun aQ aB=>fq 2 t9 aB fun aL=>(kX .eql aL (.int .i64 0)).bind fun aM=>fq 1 t2 aB fun aN=>kV (K 131 [(kM.kQ aM),(kM.kQ (.int .i64 15)),(kM.kQ aN)] aB) (fun aR aH=>some (.normal,([]:List kM),aH)) (fun aP aG=>some ((.pan aP),([]:List kM),aG))) (fun aO aF=>some ((.pan aO),([]:List kM),aF))) (fun v4 h5=>some ((.pan v4),([]:List kM),h5))).bind fun aD=>(fun aC=>Ex.uY aD.1 (lZ (aa1 h0) (.tuple []) aC) (fun v=>rE (aa1 h0) v aC))  aD.2.2
theorem aq8 (K:kW) (a0 a1 a2:kM) (h0:kP):o6 Tryz.prog mK mJ K 168 [a0,a1,a2] h0=aq7 (lU mK K) a0 a1 a2 h0:=by kernel_rfl
def HP (K:kW) (m:Nat) (s:List kM×kP):Option R :=
 Eu s fun aB aE aC aD aA h8=>aq .lss aA aD ((kZ 11 aC aA).bind fun aK=>(kU true 11 h8 aK).bind fun aL=>kR (lL 11 h8 (.agg [(.int .i64 0),(.int .i64 0),(.int .i64 0),(.str []),(.int .i64 0),(.int .i64 0),(.int .i64 0),(.slice [] .nil),(.slice [] .nil),(.slice [] .nil),(.bool false)])) fun aG aH=>(kS 11 aH aG aL).bind fun aF=>(kU true 11 aF aG).bind fun aM=>kV (K 133 [(kM.kQ aB),(kM.kQ aM),(kM.kQ (.bool false))] aF) (fun aP aJ=>(kX .add aA (.int .i64 1)).bind fun aN=>kT m .normal [aB,aE,aC,aD,aN] aJ) (fun aO aI=>kT m (.pan aO) [aB,aE,aC,aD,aA] aI)) (kT m (.exit 0) [aB,aE,aC,aD,aA] h8)
def FE (K:kW) (m:Nat) (s:List kM×kP):Option R :=
 B5 s fun aD aB aC aA aN=>aq .lss aA aC ((kZ 11 aB aA).bind fun aY=>(kU true 11 aN aY).bind fun aZ=>kR (lL 11 aN (.agg [(.int .i64 0),(.int .i64 0),(.int .i64 0),(.str []),(.int .i64 0),(.int .i64 0),(.int .i64 0),(.slice [] .nil),(.slice [] .nil),(.slice [] .nil),(.bool false)])) fun aL aW=>(kS 11 aW aL aZ).bind fun aO=>fq 0 aL aO fun a_=>(kX .eql a_ (.int .i64 1)).bind fun aM=>(lS false aM ((kO 0 aL).bind fun bA=>lC bA aO) (lC (.tuple []) aO)).bind (nV (fun bB aP=>(lS false aM ((kU false 1 aP bB).bind fun bC=>lC bC aP) (lC (.tuple []) aP)).bind (nV (fun bD aR=>(lS false aM ((kX .eql bD (.int .i64 2)).bind fun bE=>lC bE aR) (lC (.tuple []) aR)).bind (nV (fun bF aI=>(lO aM (.bool true) bF).bind fun bG=>(lH bG ((k_ aD).bind fun bH=>fq 1 bH aI fun bI=>fq 3 aL aI fun aT=>bif oL .string aT then(DV aI bI aT).bind fun aX=>kT (aa1 aI) .normal [aD,aB,aC,aA] aX else none) (kT (aa1 aI) .normal [aD,aB,aC,aA] aI)).bind fun aS=>B5 aS.2 fun aH aE aF aG aQ=>Ex.lW aS.1 ((kX .add aG (.int .i64 1)).bind fun bJ=>kT m .normal [aH,aE,aF,bJ] aQ) (fun aU=>Ex.inBlock 3 aU ((kX .add aG (.int .i64 1)).bind fun bK=>kT m .normal [aH,aE,aF,bK] aQ) (fun aV=>kT m aV [aH,aE,aF,aG] aQ))) (fun aK aJ=>kT m (.pan aK) [aD,aB,aC,aA] aJ))) (fun aK aJ=>kT m (.pan aK) [aD,aB,aC,aA] aJ))) (fun aK aJ=>kT m (.pan aK) [aD,aB,aC,aA] aJ))) (kT m (.exit 2) [aD,aB,aC,aA] aN)
def aAp (K:kW) (a0 a1:kM) (h0:kP):Option (nO×kP) :=
 ((mO a1).bind fun t2=>(mJ (HP K (aa1 h0)) ([a0,a1,a1,t2,(.int .i64 0)],h0)).bind fun aJ=>Eu aJ.2 fun aC aA aN aO aE aD=>Ex.lW aJ.1 none (fun aP=>Ex.inBlock 0 aP ((mO aA).bind fun aT=>(mJ (FE K (aa1 aD)) ([aC,aA,aT,(.int .i64 0)],aD)).bind fun aK=>B5 aK.2 fun aM aF aG aH aI=>Ex.lW aK.1 none (fun aR=>Ex.inBlock 2 aR (some (.normal,([]:List kM),aI)) (fun aS=>some (aS,([]:List kM),aI)))) (fun aQ=>some (aQ,([]:List kM),aD)))).bind fun aL=>(fun aB=>Ex.uY aL.1 (lZ (aa1 h0) (.tuple []) aB) (fun v=>rE (aa1 h0) v aB))  aL.2.2
theorem aq9 (K:kW) (a0 a1:kM) (h0:kP):o6 Tryz.prog mK mJ K 169 [a0,a1] h0=aAp (lU mK K) a0 a1 h0:=by kernel_rfl
def HS (K:kW) (m:Nat) (s:List kM×kP):Option R :=
 uq7 s fun aD aE aF aG aB aC aA aI=>aq .lss aA aC ((kZ 6 aB aA).bind fun aN=>(kU true 6 aI aN).bind fun aO=>kR (lL 6 aI (.agg [(.int .i64 0),(.str []),(.int .i64 0),(.int .i64 0),(.int .i64 0),(.bool false)])) fun aJ aK=>(kS 6 aK aJ aO).bind fun aH=>(kU true 6 aH aJ).bind fun aP=>fq 4 aE aH fun aQ=>(kZ 5 aQ aA).bind fun aR=>(kU true 5 aH aR).bind fun aS=>kV (K 197 [(kM.kQ aD),(kM.kQ aP),(kM.kQ aS)] aH) (fun aV aM=>(kX .add aA (.int .i64 1)).bind fun aT=>kT m .normal [aD,aE,aF,aG,aB,aC,aT] aM) (fun aU aL=>kT m (.pan aU) [aD,aE,aF,aG,aB,aC,aA] aL)) (kT m (.exit 0) [aD,aE,aF,aG,aB,aC,aA] aI)
def ahV (K:kW) (a0 a1:kM) (h0:kP):Option (nO×kP) :=
 (kR (lL 5 h0 a1) fun t2 h3=>kR (lL 8 h3 (.agg [(.int .i64 0),(.str []),(.slice [] .nil),(.bool false),(.int .i64 0),(.int .i64 0),(.int .i64 0),(.slice [] .nil)])) fun t4 h5=>(k_ a0).bind fun t8=>(kO 0 t8).bind fun t9=>(kU false 1 h5 t9).bind fun aI=>(kO 3 t2).bind fun aJ=>(kU false 1 h5 aJ).bind fun aQ=>bif oL .string aQ then(q7 (.agg [(.int .i64 0),(.str []),(.slice [] .nil),(.bool false),(.int .i64 0),(.int .i64 0),(.int .i64 0),(.slice [] .nil),(.int .i64 0)]) true h5 aI aQ).bind fun aR=>(lI 0 aR).bind fun bA=>(lI 1 aR).bind fun bB=>kR (lL 9 (nL (k9 [0,1,2] [t9,aJ,aI]) h5) (.agg [(.int .i64 0),(.str []),(.slice [] .nil),(.bool false),(.int .i64 0),(.int .i64 0),(.int .i64 0),(.slice [] .nil),(.int .i64 0)])) fun aE aX=>(kS 9 (lQ (k9 [0,1,2] [t9,aJ,aI]) h5 aX) aE bA).bind fun aN=>fq 1 t2 aN fun bC=>kV (K 131 [(kM.kQ bB),(kM.kQ (.int .i64 12)),(kM.kQ bC)] aN) (fun bR aD=>(kO 0 aE).bind fun bD=>fq 2 bD aD fun bE=>(mO bE).bind fun bF=>fq 4 t2 aD fun bG=>(mO bG).bind fun bH=>(kX .eql bF bH).bind fun bI=>fq 1 t2 aD fun bJ=>kV (K 131 [(kM.kQ bI),(kM.kQ (.int .i64 16)),(kM.kQ bJ)] aD) (fun bS aF=>(kO 0 aE).bind fun bK=>fq 2 bK aF fun aS=>(mO aS).bind fun bL=>(mJ (HS K (aa1 aF)) ([a0,t2,t4,aE,aS,bL,(.int .i64 0)],aF)).bind fun aO=>uq7 aO.2 fun aT aU aA aC aK aL aM aG=>Ex.lW aO.1 none (fun aV=>Ex.inBlock 0 aV ((kO 0 aC).bind fun bM=>(kU true 8 aG bM).bind fun bN=>(kS 8 aG aA bN).bind fun a_=>some (.ret,[aA],a_)) (fun aW=>some (aW,[aA],aG)))) (fun bQ aZ=>some ((.pan bQ),[t4],aZ))) (fun bP aY=>some ((.pan bP),[t4],aY)) else none).bind fun aP=>sL aP.2 fun aB aH=>Ex.uY aP.1 ((kU true 8 aH aB).bind fun bO=>lZ (aa1 h0) bO aH) (fun v=>rE (aa1 h0) v aH)
theorem arA (K:kW) (a0 a1:kM) (h0:kP):o6 Tryz.prog mK mJ K 170 [a0,a1] h0=ahV (lU mK K) a0 a1 h0:=by kernel_rfl
def FF (K:kW) (m:Nat) (s:List kM×kP):Option R :=
 Bx s fun aB aH aJ aC aD aA h7=>aq .lss aA aD ((kZ 5 aC aA).bind fun t9=>(kU true 5 h7 t9).bind fun aV=>kR (lL 5 h7 (.agg [(.int .i64 0),(.int .i64 0),(.int .i64 0),(.str []),(.slice [] .nil)])) fun aN aS=>(kS 5 aS aN aV).bind fun aO=>fq 4 aN aO fun aW=>o_ K 171 aB aW aO fun aX aE=>(kX .add (.int .i64 1) aX).bind fun aY=>(kX .add aJ aY).bind fun aQ=>fq 0 aN aE fun aZ=>(kX .eql aZ (.int .i64 4)).bind fun a_=>(lH a_ ((k_ aB).bind fun bA=>fq 0 bA aE fun bB=>fq 3 aN aE fun aR=>bif oL .string aR then(q7 (.agg [(.int .i64 0),(.str []),(.slice [] .nil),(.bool false),(.int .i64 0),(.int .i64 0),(.int .i64 0),(.slice [] .nil),(.int .i64 0)]) false aE bB aR).bind fun bC=>(sO false 1 8 bC).bind fun bD=>(kX .add aQ bD).bind fun bE=>kT (aa1 aE) .normal [aB,aH,bE,aC,aD,aA] aE else none) (kT (aa1 aE) .normal [aB,aH,aQ,aC,aD,aA] aE)).bind fun aP=>Bx aP.2 fun aF aI aK aL aM aG aT=>Ex.uB aP.1 (o_ K 134 aF aK aT fun bF aU=>(kX .add aG (.int .i64 1)).bind fun bG=>kT m .normal [aF,aI,bF,aL,aM,bG] aU)) (kT m (.exit 0) [aB,aH,aJ,aC,aD,aA] h7)
def aAr (K:kW) (a0 a1:kM) (h0:kP):Option (nO×kP) :=
 ((mO a1).bind fun t0=>(mJ (FF K (aa1 h0)) ([a0,(.int .i64 0),(.int .i64 0),a1,t0,(.int .i64 0)],h0)).bind fun aF=>Bx aF.2 fun aH aA aC aI aJ aD aE=>Ex.lW aF.1 none (fun aK=>Ex.inBlock 0 aK (some (.ret,[aC],aE)) (fun aL=>some (aL,[aA],aE)))).bind fun aG=>sL aG.2 fun aB aM=>Ex.nA aG.1 (lZ (aa1 h0) aB aM)
theorem Y8 (K:kW) (a0 a1:kM) (h0:kP):o6 Tryz.prog mK mJ K 171 [a0,a1] h0=aAr (lU mK K) a0 a1 h0:=by kernel_rfl
def arM (K:kW) (a0 a1 a2 a3:kM) (h0:kP):Option (nO×kP) :=
 (kR (lL 5 h0 a2) fun t2 h3=>kR (lL 4 h3 (.agg [(.int .i64 0),(.int .i64 0),(.int .i64 0),(.bool false)])) fun t4 h5=>(kU true 5 h5 t2).bind fun t8=>kV (K 168 [(kM.kQ a0),(kM.kQ t8),(kM.kQ (.int .i64 0))] h5) (fun t9 aG=>kV (K 165 [(kM.kQ a0),(kM.kQ a1),(kM.kQ a3)] aG) (fun aM aI=>kR (lL 4 aI (.agg [(.int .i64 0),(.int .i64 0),(.int .i64 0),(.bool false)])) fun aC aJ=>(kS 4 aJ aC aM).bind fun aD=>(kO 0 aC).bind fun aN=>fq 1 aN aD fun aO=>(kX .gtr aO (.int .i64 0)).bind fun aP=>kV (K 131 [(kM.kQ aP),(kM.kQ (.int .i64 14)),(kM.kQ a3)] aD) (fun aU aE=>(kU true 4 aE aC).bind fun aQ=>(kS 4 aE t4 aQ).bind fun aL=>some (.ret,[t4],aL)) (fun aT aK=>some ((.pan aT),[t4],aK))) (fun aS aH=>some ((.pan aS),[t4],aH))) (fun v6 h7=>some ((.pan v6),[t4],h7))).bind fun aF=>sL aF.2 fun aA aB=>Ex.uY aF.1 ((kU true 4 aB aA).bind fun aR=>lZ (aa1 h0) aR aB) (fun v=>rE (aa1 h0) v aB)
theorem arN (K:kW) (a0 a1 a2 a3:kM) (h0:kP):o6 Tryz.prog mK mJ K 195 [a0,a1,a2,a3] h0=arM (lU mK K) a0 a1 a2 a3 h0:=by kernel_rfl
def FG (K:kW) (m:Nat) (s:List kM×kP):Option R :=
 uq8 s fun aE aF aG aH aC aD aB aA h9=>aq .lss aA aB ((kZ 1 aD aA).bind fun aK=>(kU false 1 h9 aK).bind fun aL=>gq true aC (lC aL h9) h9 fun aM aI=>gq true aC ((kX .eql aM (.int .i64 0)).bind fun aN=>lC aN aI) aI fun aO aJ=>(lO aC aO (.bool false)).bind fun aP=>(kX .add aA (.int .i64 1)).bind fun aQ=>kT m .normal [aE,aF,aG,aH,aP,aD,aB,aQ] aJ) (kT m (.exit 0) [aE,aF,aG,aH,aC,aD,aB,aA] h9)
def ab7 (K:kW) (a0 a1:kM) (h0:kP):Option (nO×kP) :=
 ((mO a1).bind fun t0=>(mJ (FG K (aa1 h0)) ([a0,a1,(.int .i64 0),(.bool false),(.bool true),a1,t0,(.int .i64 0)],h0)).bind fun a_=>uq8 a_.2 fun aB aA aG aI aE bB aP aQ aF=>Ex.lW a_.1 none (fun bC=>Ex.inBlock 0 bC (aq .eql aB (.int .i64 7) ((kZ 1 aA (.int .i64 0)).bind fun bG=>(kU false 1 aF bG).bind fun bH=>(kX .eql bH (.int .i64 1)).bind fun bI=>some (.ret,[(.int .i64 1),bI],aF)) (aq .eql aB (.int .i64 26) ((kZ 1 aA (.int .i64 0)).bind fun bJ=>(kU false 1 aF bJ).bind fun bK=>(kX .eql bK (.int .i64 1)).bind fun bL=>some (.ret,[(.int .i64 0),bL],aF)) ((kX .eql aB (.int .i64 11)).bind fun aM=>gq false aM (lC aB aF) aF fun bM aR=>gq false aM ((kX .eql bM (.int .i64 12)).bind fun bN=>lC bN aR) aR fun bO aS=>(lO aM (.bool true) bO).bind fun aN=>gq false aN (lC aB aS) aS fun bP aT=>gq false aN ((kX .eql bP (.int .i64 13)).bind fun bQ=>lC bQ aT) aT fun bR aC=>(lO aN (.bool true) bR).bind fun bS=>lH bS ((kZ 1 aA (.int .i64 0)).bind fun bT=>(kU false 1 aC bT).bind fun bU=>(kZ 1 aA (.int .i64 0)).bind fun bV=>(kU false 1 aC bV).bind fun bW=>(kZ 1 aA (.int .i64 1)).bind fun bX=>(kU false 1 aC bX).bind fun bY=>(kX .eql bW bY).bind fun bZ=>some (.ret,[bU,bZ],aC)) (aq .eql aB (.int .i64 25) ((kZ 1 aA (.int .i64 1)).bind fun b8=>(kU false 1 aC b8).bind fun b9=>(kZ 1 aA (.int .i64 0)).bind fun b_=>(kU false 1 aC b_).bind fun cA=>(kX .eql cA (.int .i64 1)).bind fun aD=>gq true aD (lC aA aC) aC fun cB aU=>gq true aD ((kZ 1 cB (.int .i64 1)).bind fun cD=>lC cD aU) aU fun cE aK=>gq true aD ((kU false 1 aK cE).bind fun cF=>lC cF aK) aK fun cG aV=>gq true aD (lC aA aV) aV fun cH aW=>gq true aD ((kZ 1 cH (.int .i64 2)).bind fun cI=>lC cI aW) aW fun cJ aL=>gq true aD ((kU false 1 aL cJ).bind fun cK=>lC cK aL) aL fun cL aX=>gq true aD ((kX .eql cG cL).bind fun cM=>lC cM aX) aX fun cN bE=>(lO aD cN (.bool false)).bind fun cO=>some (.ret,[b9,cO],bE)) ((kX .geq aB (.int .i64 17)).bind fun aO=>gq true aO (lC aB aC) aC fun cP aY=>gq true aO ((kX .leq cP (.int .i64 22)).bind fun cQ=>lC cQ aY) aY fun cR aZ=>(lO aO cR (.bool false)).bind fun cS=>lH cS (some (.ret,[(.int .i64 1),aE],aZ)) (some (.ret,[(.int .i64 0),aE],aZ))))))) (fun bD=>some (bD,[aG,aI],aF)))).bind fun bA=>wL bA.2 fun aH aJ bF=>Ex.nA bA.1 (lZ (aa1 h0) (.tuple [aH,aJ]) bF)
theorem arO (K:kW) (a0 a1:kM) (h0:kP):o6 Tryz.prog mK mJ K 196 [a0,a1] h0=ab7 (lU mK K) a0 a1 h0:=by kernel_rfl
def Je (K:kW) (a0 a1 a2:kM) (h0:kP):Option (nO×kP) :=
 (kR (lL 6 h0 a1) fun t2 h3=>kR (lL 5 h3 a2) fun t4 h5=>(kO 2 t2).bind fun t8=>fq 1 t8 h5 fun dP=>aq .eql dP (.int .i64 0) ((kU true 5 h5 t4).bind fun dR=>kV (K 164 [(kM.kQ a0),(kM.kQ dR)] h5) (fun dU dG=>kR (lL 3 dG (.agg [(.int .i64 0),(.int .i64 0),(.int .i64 0)])) fun c7 dH=>(kS 3 dH c7 dU).bind fun bG=>fq 0 c7 bG fun dW=>(kO 2 t2).bind fun dX=>fq 0 dX bG fun dY=>(kX .eql dW dY).bind fun dZ=>fq 1 t4 bG fun d_=>kV (K 131 [(kM.kQ dZ),(kM.kQ (.int .i64 14)),(kM.kQ d_)] bG) (fun fM aO=>fq 2 c7 aO fun eA=>(kO 2 t2).bind fun eB=>fq 2 eB aO fun eC=>(kO 1 t4).bind fun bI=>(kU false 1 aO bI).bind fun eD=>kV (K 166 [(kM.kQ eA),(kM.kQ eC)] (nL (k9 [0] [bI]) aO)) (fun eE dJ=>kV (K 131 [(kM.kQ eE),(kM.kQ (.int .i64 15)),(kM.kQ eD)] (lQ (k9 [0] [bI]) aO dJ)) (fun fN dK=>some (.ret,([]:List kM),dK)) (fun c_ bL=>some ((.pan c_),([]:List kM),bL))) (fun v h'=>(fun c_ bL=>some ((.pan c_),([]:List kM),bL)) v (lQ (k9 [0] [bI]) aO h'))) (fun fJ dI=>some ((.pan fJ),([]:List kM),dI))) (fun fI dF=>some ((.pan fI),([]:List kM),dF))) (fq 0 t4 h5 fun eF=>(kX .eql eF (.int .i64 2)).bind fun eG=>fq 1 t4 h5 fun eH=>kV (K 131 [(kM.kQ eG),(kM.kQ (.int .i64 14)),(kM.kQ eH)] h5) (fun fO bM=>fq 3 t4 bM fun eI=>fq 1 t4 bM fun eJ=>kV (K 165 [(kM.kQ a0),(kM.kQ eI),(kM.kQ eJ)] bM) (fun eK dN=>kR (lL 4 dN (.agg [(.int .i64 0),(.int .i64 0),(.int .i64 0),(.bool false)])) fun aP dO=>(kS 4 dO aP eK).bind fun bH=>(kO 0 aP).bind fun eL=>fq 0 eL bH fun eM=>(kO 2 t2).bind fun eN=>fq 0 eN bH fun eO=>(kX .eql eM eO).bind fun aI=>(lS true aI ((kO 0 aP).bind fun eP=>lC eP bH) (lC (.tuple []) bH)).bind (nV (fun eQ dA=>(lS true aI ((kO 1 eQ).bind fun eR=>lC eR dA) (lC (.tuple []) dA)).bind (nV (fun eS bN=>(lS true aI ((kU false 1 bN eS).bind fun eT=>lC eT bN) (lC (.tuple []) bN)).bind (nV (fun eU dB=>(lS true aI ((kO 2 t2).bind fun eV=>lC eV dB) (lC (.tuple []) dB)).bind (nV (fun eX dC=>(lS true aI ((kO 1 eX).bind fun eY=>lC eY dC) (lC (.tuple []) dC)).bind (nV (fun eZ bO=>(lS true aI ((kU false 1 bO eZ).bind fun e_=>lC e_ bO) (lC (.tuple []) bO)).bind (nV (fun fB dD=>(lS true aI ((kX .eql eU fB).bind fun fC=>lC fC dD) (lC (.tuple []) dD)).bind (nV (fun fD dE=>(lO aI fD (.bool false)).bind fun aQ=>(lS true aQ ((kO 5 t2).bind fun fE=>lC fE dE) (lC (.tuple []) dE)).bind (nV (fun fF bP=>(lS true aQ ((kU false 1 bP fF).bind fun fH=>lC fH bP) (lC (.tuple []) bP)).bind (nV (fun bQ aR=>(lS true aQ (lC bQ aR) (lC (.tuple []) aR)).bind (nV (fun aN aS=>(lS true aN ((kO 3 aP).bind fun bR=>lC bR aS) (lC (.tuple []) aS)).bind (nV (fun bS aJ=>(lS true aN ((kU false 1 aJ bS).bind fun bT=>lC bT aJ) (lC (.tuple []) aJ)).bind (nV (fun bU aT=>(lS true aQ ((lO aN bU (.bool false)).bind fun bV=>lC bV aT) (lC (.tuple []) aT)).bind (nV (fun bW aU=>(lS true aQ ((vR .not bW).bind fun bX=>lC bX aU) (lC (.tuple []) aU)).bind (nV (fun bY aV=>(lO aQ bY (.bool false)).bind fun bZ=>fq 1 t4 aV fun b8=>kV (K 131 [(kM.kQ bZ),(kM.kQ (.int .i64 14)),(kM.kQ b8)] aV) (fun dQ aF=>(kO 0 aP).bind fun b9=>fq 2 b9 aF fun b_=>(kO 2 t2).bind fun cA=>fq 2 cA aF fun cB=>(kO 1 t4).bind fun aH=>(kU false 1 aF aH).bind fun cD=>kV (K 166 [(kM.kQ b_),(kM.kQ cB)] (nL (k9 [0] [aH]) aF)) (fun aG aW=>(lS true aG ((kO 5 t2).bind fun cE=>lC cE (lQ (k9 [0] [aH]) aF aW)) (lC (.tuple []) (lQ (k9 [0] [aH]) aF aW))).bind (nV (fun cF aK=>(lS true aG ((kU false 1 aK cF).bind fun cG=>lC cG aK) (lC (.tuple []) aK)).bind (nV (fun cH aX=>(lS true aG ((vR .not cH).bind fun cI=>lC cI aX) (lC (.tuple []) aX)).bind (nV (fun cJ aY=>(lS true aG (lC cJ aY) (lC (.tuple []) aY)).bind (nV (fun aE aZ=>(lS false aE ((kO 0 aP).bind fun cK=>lC cK aZ) (lC (.tuple []) aZ)).bind (nV (fun cL a_=>(lS false aE ((kO 2 cL).bind fun cM=>lC cM a_) (lC (.tuple []) a_)).bind (nV (fun cN aL=>(lS false aE ((kU false 1 aL cN).bind fun cO=>lC cO aL) (lC (.tuple []) aL)).bind (nV (fun cP bA=>(lS false aE ((kO 2 t2).bind fun cQ=>lC cQ bA) (lC (.tuple []) bA)).bind (nV (fun cR bB=>(lS false aE ((kO 2 cR).bind fun cS=>lC cS bB) (lC (.tuple []) bB)).bind (nV (fun cT aM=>(lS false aE ((kU false 1 aM cT).bind fun cU=>lC cU aM) (lC (.tuple []) aM)).bind (nV (fun cV bC=>(lS false aE ((kX .eql cP cV).bind fun cW=>lC cW bC) (lC (.tuple []) bC)).bind (nV (fun cX bD=>(lS true aG ((lO aE (.bool true) cX).bind fun cY=>lC cY bD) (lC (.tuple []) bD)).bind (nV (fun cZ bJ=>(lO aG cZ (.bool false)).bind fun c6=>kV (K 131 [(kM.kQ c6),(kM.kQ (.int .i64 15)),(kM.kQ cD)] bJ) (fun dV bK=>some (.normal,([]:List kM),bK)) (fun aB aA=>some ((.pan aB),([]:List kM),aA))) (fun aB aA=>some ((.pan aB),([]:List kM),aA)))) (fun aB aA=>some ((.pan aB),([]:List kM),aA)))) (fun aB aA=>some ((.pan aB),([]:List kM),aA)))) (fun aB aA=>some ((.pan aB),([]:List kM),aA)))) (fun aB aA=>some ((.pan aB),([]:List kM),aA)))) (fun aB aA=>some ((.pan aB),([]:List kM),aA)))) (fun aB aA=>some ((.pan aB),([]:List kM),aA)))) (fun aB aA=>some ((.pan aB),([]:List kM),aA)))) (fun aB aA=>some ((.pan aB),([]:List kM),aA)))) (fun aB aA=>some ((.pan aB),([]:List kM),aA)))) (fun aB aA=>some ((.pan aB),([]:List kM),aA)))) (fun aB aA=>some ((.pan aB),([]:List kM),aA)))) (fun v h'=>(fun aB aA=>some ((.pan aB),([]:List kM),aA)) v (lQ (k9 [0] [aH]) aF h'))) (fun aD aC=>some ((.pan aD),([]:List kM),aC))) (fun aD aC=>some ((.pan aD),([]:List kM),aC)))) (fun aD aC=>some ((.pan aD),([]:List kM),aC)))) (fun aD aC=>some ((.pan aD),([]:List kM),aC)))) (fun aD aC=>some ((.pan aD),([]:List kM),aC)))) (fun aD aC=>some ((.pan aD),([]:List kM),aC)))) (fun aD aC=>some ((.pan aD),([]:List kM),aC)))) (fun aD aC=>some ((.pan aD),([]:List kM),aC)))) (fun aD aC=>some ((.pan aD),([]:List kM),aC)))) (fun aD aC=>some ((.pan aD),([]:List kM),aC)))) (fun aD aC=>some ((.pan aD),([]:List kM),aC)))) (fun aD aC=>some ((.pan aD),([]:List kM),aC)))) (fun aD aC=>some ((.pan aD),([]:List kM),aC)))) (fun aD aC=>some ((.pan aD),([]:List kM),aC)))) (fun aD aC=>some ((.pan aD),([]:List kM),aC)))) (fun fL dM=>some ((.pan fL),([]:List kM),dM))) (fun fK dL=>some ((.pan fK),([]:List kM),dL)))).bind fun bF=>(fun bE=>Ex.uY bF.1 (lZ (aa1 h0) (.tuple []) bE) (fun v=>rE (aa1 h0) v bE))  bF.2.2
theorem arP (K:kW) (a0 a1 a2:kM) (h0:kP):o6 Tryz.prog mK mJ K 197 [a0,a1,a2] h0=Je (lU mK K) a0 a1 a2 h0:=by kernel_rfl
def m20 (K:kW) (a0:kM) (h0:kP):Option (nO×kP) :=
 (kR (lL 1 h0 a0) fun t0 h1=>kR (lL 2 h1 (.agg [(.int .i64 0),(.int .i64 0)])) fun t2 h3=>(kU true 1 h3 t0).bind fun t4=>qX K 45 t4 h3 fun t5 h6=>(lI 0 t5).bind fun t7=>(lI 1 t5).bind fun t8=>(lI 2 t5).bind fun t9=>kR (lL 2 h6 (.agg [(.int .i64 0),(.int .i64 0)])) fun aE aF=>(kS 2 aF aE t9).bind fun aB=>aq .gtr t7 (.int .i64 65536) ((lT [(.int .i64 0),(.int .i64 0)] [(0,1),(1,1)] [(0,(.int .i64 18)),(1,t8)]).bind fun aI=>(kS 2 aB t2 aI).bind fun aG=>some (.ret,[t2],aG)) ((kU true 2 aB aE).bind fun aJ=>(kS 2 aB t2 aJ).bind fun aH=>some (.ret,[t2],aH))).bind fun aD=>sL aD.2 fun aA aC=>Ex.nA aD.1 ((kU true 2 aC aA).bind fun aK=>lZ (aa1 h0) aK aC)
theorem aAw (K:kW) (a0:kM) (h0:kP):o6 Tryz.prog mK mJ K 20 [a0] h0=m20 (lU mK K) a0 h0:=by kernel_rfl
def m22 (K:kW) (a0:kM) (h0:kP):Option (nO×kP) :=
 (kR (lL 1 h0 a0) fun t0 h1=>(kU true 1 h1 t0).bind fun t2=>qX K 45 t2 h1 fun t3 h4=>(lI 0 t3).bind fun t5=>(lI 1 t3).bind fun t6=>(lI 2 t3).bind fun t7=>kR (lL 2 h4 (.agg [(.int .i64 0),(.int .i64 0)])) fun t8 h9=>(kS 2 h9 t8 t7).bind fun aC=>some (.ret,[t5],aC)).bind fun aB=>sL aB.2 fun aA aD=>Ex.nA aB.1 (lZ (aa1 h0) aA aD)
theorem aAy (K:kW) (a0:kM) (h0:kP):o6 Tryz.prog mK mJ K 22 [a0] h0=m22 (lU mK K) a0 h0:=by kernel_rfl
def m9 (K:kW) (a0:kM) (h0:kP):Option (nO×kP) :=
 (qX K 25 a0 h0 fun t0 h1=>(lI 0 t0).bind fun t2=>(lI 1 t0).bind fun t3=>kR (lL 1 h1 (.agg [(.slice [] .nil)])) fun t4 h5=>kR (lL 2 h5 (.agg [(.int .i64 0),(.int .i64 0)])) fun t6 h7=>(kS 1 h7 t4 t2).bind fun h8=>(kS 2 h8 t6 t3).bind fun h9=>fq 0 t6 h9 fun bQ=>aq .neq bQ (.int .i64 0) (kq0 K 24 h9 fun bR bF=>some (.ret,[bR],bF)) ((kU true 1 h9 t4).bind fun bS=>qX K 20 bS h9 fun bT bG=>kR (lL 2 bG (.agg [(.int .i64 0),(.int .i64 0)])) fun aI bH=>(kS 2 bH aI bT).bind fun aT=>(kU true 1 aT t4).bind fun bU=>qX K 27 bU aT fun bV bI=>kR (lL 1 bI (.agg [(.slice [] .nil)])) fun aB bJ=>(kS 1 bJ aB bV).bind fun aU=>(kU true 1 aU aB).bind fun bW=>qX K 20 bW aU fun bX bK=>kR (lL 2 bK (.agg [(.int .i64 0),(.int .i64 0)])) fun aJ bL=>(kS 2 bL aJ bX).bind fun aM=>fq 0 aI aM fun bY=>(kX .eql bY (.int .i64 0)).bind fun aC=>gq true aC ((kO 0 aJ).bind fun bZ=>lC bZ aM) aM fun b8 aN=>gq true aC ((kU false 1 aN b8).bind fun b9=>lC b9 aN) aN fun b_ aV=>gq true aC ((kX .neq b_ (.int .i64 0)).bind fun cA=>lC cA aV) aV fun cB aW=>gq true aC (lC cB aW) aW fun aD aO=>gq false aD ((kU true 1 aO t4).bind fun cD=>lC cD aO) aO fun cE aP=>gq false aD ((kU true 1 aP aB).bind fun cF=>lC cF aP) aP fun cG aG=>gq false aD (kV (K 22 [(kM.kQ cE)] (nL (k9 [0] [aB]) aG)) (fun cH bM=>lC cH (lQ (k9 [0] [aB]) aG bM)) (fun v h'=>yP v (lQ (k9 [0] [aB]) aG h'))) aG fun cI aX=>gq false aD (kV (K 22 [(kM.kQ cG)] aX) (fun cJ bN=>lC cJ bN) yP) aX fun cK aY=>gq false aD ((kX .neq cI cK).bind fun cL=>lC cL aY) aY fun cM aZ=>gq true aC ((lO aD (.bool true) cM).bind fun cN=>lC cN aZ) aZ fun cO aH=>(lO aC cO (.bool false)).bind fun cP=>lH cP (some (.ret,[(.bool false)],aH)) (fq 0 aJ aH fun cQ=>(kX .neq cQ (.int .i64 15)).bind fun aE=>gq true aE ((kO 0 aI).bind fun cR=>lC cR aH) aH fun cS aQ=>gq true aE ((kU false 1 aQ cS).bind fun cT=>lC cT aQ) aQ fun cU a_=>gq true aE ((kX .eql cU (.int .i64 15)).bind fun cV=>lC cV a_) a_ fun cW bA=>gq true aE (lC cW bA) bA fun aK aR=>gq false aK ((kU true 2 aR aI).bind fun cX=>lC cX aR) aR fun cY aS=>gq false aK ((kU true 2 aS aJ).bind fun cZ=>lC cZ aS) aS fun c6 bB=>gq false aK ((rW [.i,.i] cY c6).bind fun c7=>lC (.bool c7) bB) bB fun c_ bC=>gq true aE ((lO aK (.bool true) c_).bind fun dA=>lC dA bC) bC fun dB bD=>(lO aE dB (.bool false)).bind fun bE=>gq true bE (kV (K 24 [] bD) (fun dC bO=>lC dC bO) yP) bD fun dD bP=>(lO bE dD (.bool false)).bind fun dE=>some (.ret,[dE],bP)))).bind fun aF=>sL aF.2 fun aA aL=>Ex.nA aF.1 (lZ (aa1 h0) aA aL)
theorem aFx (K:kW) (a0:kM) (h0:kP):o6 Tryz.prog mK mJ K 9 [a0] h0=m9 (lU mK K) a0 h0:=by kernel_rfl
def R7 (K:kW) (m:Nat) (s:List kM×kP):Option R :=
 uq7 s fun aC aD aE aF aA aG aB aH=>fq 2 aA aH fun aO=>(mO aO).bind fun aP=>aq .lss aB aP (fq 2 aA aH fun aQ=>(kZ 6 aQ aB).bind fun aR=>(kU true 6 aH aR).bind fun aS=>kR (lL 6 aH (.agg [(.int .i64 0),(.str []),(.int .i64 0),(.int .i64 0),(.int .i64 0),(.bool false)])) fun aI aK=>(kS 6 aK aI aS).bind fun aL=>(kO 2 aI).bind fun aT=>(kO 2 aT).bind fun aU=>(kS 1 aL aU (.int .i64 0)).bind fun aJ=>(kU true 6 aJ aI).bind fun aV=>kR (kY 1 6 [(.int .i64 0),(.str []),(.int .i64 0),(.int .i64 0),(.int .i64 0),(.bool false)] [(0,aV)] aJ) fun aW aM=>kR (mH 6 56 aM aG aW) fun aX aN=>(kX .add aB (.int .i64 1)).bind fun aY=>kT m .normal [aC,aD,aE,aF,aA,aX,aY] aN) (kT m (.exit 2) [aC,aD,aE,aF,aA,aG,aB] aH)
def R8 (K:kW) (m:Nat) (s:List kM×kP):Option R :=
 B5 s fun aC aM aN aD aL=>fq 0 aC aL fun bH=>(mO bH).bind fun bI=>aq .lss aD bI ((fq 0 aC aL fun bJ=>(kZ 8 bJ aD).bind fun bK=>(kU true 8 aL bK).bind fun bL=>kR (lL 8 aL (.agg [(.int .i64 0),(.str []),(.slice [] .nil),(.bool false),(.int .i64 0),(.int .i64 0),(.int .i64 0),(.slice [] .nil)])) fun aX bB=>(kS 8 bB aX bL).bind fun aQ=>(fun(bM:kM) (aR:kP)=>(mJ (R7 K (aa1 aR)) ([aC,aM,aN,aD,aX,bM,(.int .i64 0)],aR)).bind fun aV=>uq7 aV.2 fun aE aG aB aJ aA aO aY aS=>Ex.lW aV.1 none (fun aZ=>Ex.inBlock 2 aZ ((kO 2 aA).bind fun bN=>(kS 1 aS bN aO).bind fun bC=>(kO 4 aA).bind fun bO=>(kO 2 bO).bind fun bP=>(kS 1 bC bP (.int .i64 0)).bind fun aT=>fq 7 aA aT fun bQ=>qX K 54 bQ aT fun bR bD=>(kO 7 aA).bind fun bS=>(kS 1 bD bS bR).bind fun aP=>fq 0 aB aP fun bT=>(kU true 8 aP aA).bind fun bU=>kR (kY 1 8 [(.int .i64 0),(.str []),(.slice [] .nil),(.bool false),(.int .i64 0),(.int .i64 0),(.int .i64 0),(.slice [] .nil)] [(0,bU)] aP) fun bV bE=>kR (mH 8 104 bE bT bV) fun bW bF=>(kO 0 aB).bind fun bX=>(kS 1 bF bX bW).bind fun bG=>kT (aa1 aL) .normal [aE,aG,aB,aJ] bG) (fun a_=>kT (aa1 aL) a_ [aE,aG,aB,aJ] aS))) (.slice [] (.own (aa1 aQ))) (aQ++[.front 0 0])).bind fun aW=>B5 aW.2 fun aF aH aI aK aU=>Ex.inBlock 1 aW.1 ((kX .add aK (.int .i64 1)).bind fun bY=>kT m .normal [aF,aH,aI,bY] aU) (fun bA=>kT m bA [aF,aH,aI,aK] aU)) (kT m (.exit 0) [aC,aM,aN,aD] aL)
def m27 (K:kW) (a0:kM) (h0:kP):Option (nO×kP) :=
 (kR (lL 1 h0 a0) fun t0 h1=>kR (lL 1 h1 (.agg [(.slice [] .nil)])) fun t2 h3=>kR (lL 1 h3 (.agg [(.slice [] .nil)])) fun t4 h5=>(mJ (R8 K (aa1 h5)) ([t0,t2,t4,(.int .i64 0)],h5)).bind fun aI=>B5 aI.2 fun aJ aA aE aK aG=>Ex.lW aI.1 none (fun aL=>Ex.inBlock 0 aL ((kU true 1 aG aE).bind fun aN=>(kS 1 aG aA aN).bind fun aF=>some (.ret,[aA],aF)) (fun aM=>some (aM,[aA],aG)))).bind fun aD=>sL aD.2 fun aB aC=>Ex.nA aD.1 ((kU true 1 aC aB).bind fun aH=>lZ (aa1 h0) aH aC)
theorem aAC (K:kW) (a0:kM) (h0:kP):o6 Tryz.prog mK mJ K 27 [a0] h0=m27 (lU mK K) a0 h0:=by kernel_rfl
def R9 (K:kW) (m:Nat) (s:List kM×kP):Option R :=
 B5 s fun aA aD aE aB h8=>(mO aA).bind fun t9=>aq .lss aB t9 ((kZ 11 aA aB).bind fun aO=>(kU true 11 h8 aO).bind fun aP=>kR (lL 11 h8 (.agg [(.int .i64 0),(.int .i64 0),(.int .i64 0),(.str []),(.int .i64 0),(.int .i64 0),(.int .i64 0),(.slice [] .nil),(.slice [] .nil),(.slice [] .nil),(.bool false)])) fun aC aI=>(kS 11 aI aC aP).bind fun aJ=>(kO 4 aC).bind fun aQ=>(kO 2 aQ).bind fun aR=>(kS 1 aJ aR (.int .i64 0)).bind fun aF=>fq 8 aC aF fun aS=>qX K 54 aS aF fun aT aK=>(kO 8 aC).bind fun aU=>(kS 1 aK aU aT).bind fun aG=>fq 9 aC aG fun aV=>qX K 54 aV aG fun aW aL=>(kO 9 aC).bind fun aX=>(kS 1 aL aX aW).bind fun aH=>(kU true 11 aH aC).bind fun aY=>kR (kY 1 11 [(.int .i64 0),(.int .i64 0),(.int .i64 0),(.str []),(.int .i64 0),(.int .i64 0),(.int .i64 0),(.slice [] .nil),(.slice [] .nil),(.slice [] .nil),(.bool false)] [(0,aY)] aH) fun aZ aM=>kR (mH 11 144 aM aE aZ) fun a_ aN=>(kX .add aB (.int .i64 1)).bind fun bA=>kT m .normal [aA,aD,a_,bA] aN) (kT m (.exit 0) [aA,aD,aE,aB] h8)
def m54 (K:kW) (a0:kM) (h0:kP):Option (nO×kP) :=
 ((fun(t1:kM) (h0:kP)=>(fun(t3:kM) (h2:kP)=>(mJ (R9 K (aa1 h2)) ([a0,t1,t3,(.int .i64 0)],h2)).bind fun aE=>B5 aE.2 fun aG aA aC aH aD=>Ex.lW aE.1 none (fun aI=>Ex.inBlock 0 aI (some (.ret,[aC],aD)) (fun aJ=>some (aJ,[aA],aD)))) (.slice [] (.own (aa1 h0))) (h0++[.front 0 0])) (.slice [] (.own (aa1 h0))) (h0++[.front 0 0])).bind fun aF=>sL aF.2 fun aB aK=>Ex.nA aF.1 (lZ (aa1 h0) aB aK)
theorem aiB (K:kW) (a0:kM) (h0:kP):o6 Tryz.prog mK mJ K 54 [a0] h0=m54 (lU mK K) a0 h0:=by kernel_rfl
def m24 (K:kW) (h0:kP):Option (nO×kP) :=
 (qX K 12 (.str [102,110,32,109,97,105,110,40,115,101,99,32,107,58,32,117,56,91,52,93,44,32,111,117,116,32,112,117,98,32,111,58,32,117,51,50,91,49,93,41,32,123,32,111,91,48,93,32,61,32,107,91,48,93,59,32,125]) h0 fun t0 h1=>(lI 0 t0).bind fun t2=>(lI 1 t0).bind fun t3=>kR (lL 1 h1 (.agg [(.slice [] .nil)])) fun t4 h5=>kR (lL 2 h5 (.agg [(.int .i64 0),(.int .i64 0)])) fun t6 h7=>(kS 1 h7 t4 t2).bind fun h8=>(kS 2 h8 t6 t3).bind fun h9=>qX K 12 (.str [102,110,32,109,97,105,110,40,115,101,99,32,107,58,32,117,56,91,52,93,44,32,111,117,116,32,115,101,99,32,111,58,32,117,51,50,91,49,93,41,32,123,32,111,91,48,93,32,61,32,107,91,48,93,59,32,125]) h9 fun aN aO=>(lI 0 aN).bind fun aW=>(lI 1 aN).bind fun aX=>kR (lL 1 aO (.agg [(.slice [] .nil)])) fun aF aP=>kR (lL 2 aP (.agg [(.int .i64 0),(.int .i64 0)])) fun aY aQ=>(kS 1 aQ aF aW).bind fun aR=>(kS 2 aR aY aX).bind fun aG=>(kU true 1 aG t4).bind fun aZ=>qX K 20 aZ aG fun a_ aD=>(lT [(.int .i64 0),(.int .i64 0)] [(0,1),(1,1)] [(0,(.int .i64 15)),(1,(.int .i64 43))]).bind fun bA=>(rW [.i,.i] a_ bA).bind fun aA=>gq true (.bool aA) ((kU true 1 aD aF).bind fun bB=>lC bB aD) aD fun bC aH=>gq true (.bool aA) (kV (K 20 [(kM.kQ bC)] aH) (fun bD aS=>lC bD aS) yP) aH fun bE aI=>gq true (.bool aA) ((lT [(.int .i64 0),(.int .i64 0)] [(0,1),(1,1)] []).bind fun bF=>lC bF aI) aI fun bG aJ=>gq true (.bool aA) ((rW [.i,.i] bE bG).bind fun bH=>lC (.bool bH) aJ) aJ fun bI aE=>(lO (.bool aA) bI (.bool false)).bind fun aC=>gq true aC ((kU true 1 aE aF).bind fun bJ=>lC bJ aE) aE fun bK aK=>gq true aC (kV (K 22 [(kM.kQ bK)] aK) (fun bL aT=>lC bL aT) yP) aK fun bM aL=>gq true aC ((kX .eql bM (.int .i64 5)).bind fun bN=>lC bN aL) aL fun bO aU=>(lO aC bO (.bool false)).bind fun bP=>some (.ret,[bP],aU)).bind fun aM=>sL aM.2 fun aB aV=>Ex.nA aM.1 (lZ (aa1 h0) aB aV)
theorem aAz (K:kW) (h0:kP):o6 Tryz.prog mK mJ K 24 [] h0=m24 (lU mK K) h0:=by kernel_rfl
end
section
open Go Hk
def mT.cells (t:mT):List kM:=[.int .i64 t.ty.elem,.int .i64 t.ty.len,.int .i64 t.ty.label,.bool t.fixed]
def CF (N:Nm mT):List (kM×kM):=N.map fun p=>(.str p.1,.agg p.2.cells)
def CE (F:Kn):List (kM×kM):=F.map fun p=>(.str p.1,.agg (p.2.1.cells++[.int .i64 p.2.2]))
def Af (a n:Nat) (f:GF):List kM:=.map a::.map n::f.cells
def TQ (A:List lG) (F:Kn) (f:GF) (Q:List lG) (N:Nm mT) (B:List lG):kP:=A++(.map (CE F)::.cells (Af A.length (A.length+2+Q.length) f)::(Q++(.map (CF N)::B)))
def TN (A Q B:List lG):Nat:=A.length+3+Q.length+B.length
structure KT (A Q B:List lG):Prop where
 a:∀n,TN A Q B≤n→Da n A
 q:∀n,TN A Q B≤n→Da n Q
 b:∀n,TN A Q B≤n→Da n B
section
variable {A Q B C:List lG}{F:Kn}{f:GF}{N N':Nm mT}{k:Nat}
theorem Mb:TN A Q (B++C)=TN A Q B+C.length:=by simp [TN]; omega
theorem KT.app (h:KT A Q B) (hC:Da (TN A Q B+C.length) C):KT A Q (B++C):=by
 refine⟨fun n hn=>?_,fun n hn=>?_,fun n hn=>?_⟩
 ·rw [Mb] at hn
  exact(h.a (TN A Q B) (ab6 _)).mono (by omega)
 ·rw [Mb] at hn
  exact(h.q (TN A Q B) (ab6 _)).mono (by omega)
 ·rw [Mb] at hn
  exact Fp ((h.b (TN A Q B) (ab6 _)).mono (by omega)) (hC.mono hn)
theorem aeJ:TQ A F f Q N B++C=TQ A F f Q N (B++C):=by simp [TQ]
theorem VO:(TQ A F f Q N B).length=TN A Q B:=by simp [TQ,TN]; omega
theorem Md:TQ A F f Q N B=(A++(.map (CE F)::.cells (Af A.length (A.length+2+Q.length) f)::(Q++[.map (CF N)])))++B:=by simp [TQ]
theorem QU:(A++(lG.map (CE F)::lG.cells (Af A.length (A.length+2+Q.length) f)::(Q++[lG.map (CF N)]))).length=A.length+3+Q.length:=by simp; omega
theorem J8:(TQ A F f Q N (B++C))[TN A Q B+k]?=C[k]?:=by
 rw [Md,←ag1,ac3 (by rw [ab5,QU]; unfold TN; omega),ab5,QU]
 unfold TN
 rw [show A.length+3+Q.length+B.length+k - (A.length+3+Q.length+B.length)=k by omega]
theorem aeO:mY (TQ A F f Q N (B++C)) (TN A Q B+k)=mY C k:=by unfold mY; rw [J8]
theorem anH:mY (TQ A F f Q N (B++C)) (TN A Q B)=mY C 0:=aeO (k:=0)
theorem Tt:qL (TQ A F f Q N (B++C)) (TN A Q B+k)=qL C k:=by unfold qL; rw [J8]
theorem Mc {x:lG}:List.set (TQ A F f Q N (B++C)) (TN A Q B+k) x=TQ A F f Q N (B++C.set k x):=by
 rw [Md,Md,←ag1,←ag1,al4 _ _ (by rw [ab5,QU]; unfold TN; omega),ab5,QU]
 unfold TN
 rw [show A.length+3+Q.length+B.length+k - (A.length+3+Q.length+B.length)=k by omega]
theorem anL {x:lG}:List.set (TQ A F f Q N (B++C)) (TN A Q B) x=TQ A F f Q N (B++C.set 0 x):=Mc (k:=0)
theorem aIw:mY (TQ A F f Q N B) (A.length+1)=some (Af A.length (A.length+2+Q.length) f):=by
 unfold mY TQ
 rw [ac3 (by omega),show A.length+1 - A.length=1 by omega]; rfl
theorem aD2:y_ (TQ A F f Q N B) (.map A.length)=some (CE F):=by
 unfold y_ TQ
 simp only [ac3 (ab6 _),Nat.sub_self,List.getElem?_cons_zero]
theorem VP:(TQ A F f Q N B)[A.length+2+Q.length]?=some (.map (CF N)):=by
 unfold TQ
 rw [ac3 (by omega),show A.length+2+Q.length - A.length=Q.length+2 by omega,List.getElem?_cons_succ,List.getElem?_cons_succ,ac3 (ab6 _),Nat.sub_self]; rfl
theorem aIx:y_ (TQ A F f Q N B) (.map (A.length+2+Q.length))=some (CF N):=by
 unfold y_; simp only [VP]
theorem XZ:List.set (TQ A F f Q N B) (A.length+2+Q.length) (.map (CF N'))=TQ A F f Q N' B:=by
 unfold TQ
 rw [al4 _ _ (by omega),show A.length+2+Q.length - A.length=Q.length+2 by omega,List.set_cons_succ,List.set_cons_succ,al4 _ _ (ab6 _),Nat.sub_self]; rfl
theorem yF {α:Type}(enc:α→kM) (s:List UInt8):∀l:Nm α,CM (.str s) (l.map fun p=>(.str p.1,enc p.2))=some ((look l s).map enc)
 | []=>rfl
 | (k,v)::r=>by
  have ih:=yF enc s r
  show(match F5 (kM.str s) (kM.str k) with | some true=>some (some (enc v)) | some false=>CM (.str s) (r.map fun(p:List UInt8×α)=>(kM.str p.1,enc p.2)) | none=>none)=some ((if k=s then some v else look r s).map enc)
  by_cases h:k=s
  ·subst h; simp [F5]
  ·have h':¬s=k:=fun e=>h e.symm
   have hb:(s == k)=false:=by simp [h']
   simp [F5,h,hb,ih]
theorem Mw {α:Type}(enc:α→kM) (s:List UInt8) (v:α):∀l:Nm α,look l s=none→BE (.str s) (enc v) (l.map fun p=>(.str p.1,enc p.2))=(l++[(s,v)]).map fun p=>(.str p.1,enc p.2)
 | [],_=>rfl
 | (k,w)::r,h=>by
  have h:(if k=s then some w else look r s)=none:=h
  by_cases hk:k=s
  ·rw [if_pos hk] at h; cases h
  ·rw [if_neg hk] at h
   have ih:=Mw enc s v r h
   have h':¬s=k:=fun e=>hk e.symm
   show(match F5 (kM.str s) (kM.str k) with | some true=>(kM.str k,enc v)::(r.map fun(p:List UInt8×α)=>(kM.str p.1,enc p.2)) | _=>(kM.str k,enc w)::BE (.str s) (enc v) (r.map fun(p:List UInt8×α)=>(kM.str p.1,enc p.2)))=_
   have hb:(s == k)=false:=by simp [h']
   simp [F5,hb,ih]
theorem TG {α:Type}(enc:α→kM) (s:List UInt8):∀l:Nm α,BD (.str s) (l.map fun p=>(.str p.1,enc p.2))=(Dt l s).map fun p=>(.str p.1,enc p.2)
 | []=>rfl
 | (k,w)::r=>by
  have ih:=TG enc s r
  show(match F5 (kM.str s) (kM.str k) with | some true=>(r.map fun(p:List UInt8×α)=>(kM.str p.1,enc p.2)) | _=>(kM.str k,enc w)::BD (.str s) (r.map fun(p:List UInt8×α)=>(kM.str p.1,enc p.2)))=(if k=s then r else(k,w)::Dt r s).map fun(p:List UInt8×α)=>(kM.str p.1,enc p.2)
  by_cases hk:k=s
  ·subst hk; simp [F5]
  ·have h':¬s=k:=fun e=>hk e.symm
   have hb:(s == k)=false:=by simp [h']
   simp [F5,hb,hk,ih]
theorem anI {z:kM}{s:List UInt8}:q7 z true (TQ A F f Q N B) (.map (A.length+2+Q.length)) (.str s)=some (match look N s with | some t=>.tuple [.agg t.cells,.bool true] | none=>.tuple [z,.bool false]):=by
 unfold q7
 rw [aIx]
 simp only [CF,yF (fun t:mT=>kM.agg t.cells)]
 cases look N s <;> rfl
theorem aeS {z:kM}{s:List UInt8}:q7 z true (TQ A F f Q N B) (.map A.length) (.str s)=some (match look F s with | some t=>.tuple [.agg (t.1.cells++[.int .i64 t.2]),.bool true] | none=>.tuple [z,.bool false]):=by
 unfold q7
 rw [aD2]
 simp only [CE,yF (fun t:GF×Int=>kM.agg (t.1.cells++[.int .i64 t.2]))]
 cases look F s <;> rfl
theorem aeR {z:kM}{s:List UInt8}:q7 z false (TQ A F f Q N B) (.map A.length) (.str s)=some (match look F s with | some t=>.agg (t.1.cells++[.int .i64 t.2]) | none=>z):=by
 unfold q7
 rw [aD2]
 simp only [CE,yF (fun t:GF×Int=>kM.agg (t.1.cells++[.int .i64 t.2]))]
 cases look F s <;> rfl
theorem axF {s:List UInt8}{t:mT}(h:look N s=none):Aa (TQ A F f Q N B) (.map (A.length+2+Q.length)) (.str s) (.agg t.cells)=some (TQ A F f Q (N++[(s,t)]) B):=by
 unfold Aa
 simp only [VP]
 simp only [CF,yF (fun t:mT=>kM.agg t.cells),Mw (fun t:mT=>kM.agg t.cells) s t N h]
 exact congrArg some XZ
theorem aeL {s:List UInt8}:DV (TQ A F f Q N B) (.map (A.length+2+Q.length)) (.str s)=some (TQ A F f Q (Dt N s) B):=by
 unfold DV
 simp only [VP]
 simp only [CF,yF (fun t:mT=>kM.agg t.cells),TG (fun t:mT=>kM.agg t.cells)]
 rw [if_pos ⟨rfl,rfl⟩]
 exact congrArg some XZ
end
end
section
open Go Hk
section
variable {A Q B C:List lG}{F:Kn}{f:GF}{N N':Nm mT}{k:Nat}
theorem Tu:oB (TQ A F f Q N (B++C)) (TN A Q B+k)=TQ A F f Q N (B++oB C k):=by
 unfold oB
 rw [J8]
 cases C[k]? with
 | none=>rfl
 | some b=>cases b <;> first | rfl | exact Mc
theorem Z9:oB (TQ A F f Q N (B++C)) (TN A Q B)=TQ A F f Q N (B++oB C 0):=Tu (k:=0)
theorem Me {C':List lG}:mM (TQ A F f Q N (B++C)) (TQ A F f Q N' (B++C')) (TN A Q B+k)=TQ A F f Q N' (B++mM C C' k):=by
 unfold mM
 rw [J8]
 cases C[k]? with
 | none=>rfl
 | some b=>cases b <;> first | rfl | exact Mc
theorem Tv {C':List lG}:mM (TQ A F f Q N (B++C)) (TQ A F f Q N' (B++C')) (TN A Q B)=TQ A F f Q N' (B++mM C C' 0):=Me (k:=0)
theorem Im {m i:Nat}{h:kP}(hi:i < m):kM.mP m h (.map i)=.map i:=by simp [kM.mP,kM.nP,kM.pE,qA,hi]
theorem aw4 {n a b:Nat}(ha:a < n) (hb:b < n):B6 n (Af a b f):=fun m x hm=>by
 have h1:=Im (m:=m) (i:=a) (h:=x) (by omega)
 have h2:=Im (m:=m) (i:=b) (h:=x) (by omega)
 simp [Af,GF.cells,h1,h2,kM.mE]
theorem K_ {n:Nat}{N:Nm mT}:Da n [.map (CF N)]:=fun m x hm=>by
 have:(CF N).all (fun e=>e.2.nP m)=true:=by
  simp [CF,kM.nP,mT.cells,kM.pE,qA]
 simp [pF,this]
theorem Tk {n:Nat}{F:Kn}:Da n [.map (CE F)]:=fun m x hm=>by
 have:(CE F).all (fun e=>e.2.nP m)=true:=by
  simp [CE,kM.nP,GF.cells,kM.pE,qA]
 simp [pF,this]
theorem aeU (h:KT A Q B) {m:Nat}{x:kP}(hm:TN A Q B≤m):nK m x (TQ A F f Q N B)=some (TQ A F f Q N B):=by
 unfold TQ
 have hm':A.length+3+Q.length+B.length≤m:=hm
 refine sM (h.a m hm m x (ab6 _)) ?_
 show nK m x ([.map (CE F)]++([.cells (Af A.length (A.length+2+Q.length) f)]++(Q++([.map (CF N)]++B))))=_
 exact sM (Tk m x (ab6 _)) (sM (IF (aw4 (by omega) (by omega)) DR m x (ab6 _)) (sM (h.q m hm m x (ab6 _)) (sM (K_ m x (ab6 _)) (h.b m hm m x (ab6 _)))))
theorem wX (h:KT A Q B):l_ (TN A Q B) (TQ A F f Q N (B++C))=some (TQ A F f Q N B):=by
 have e:TQ A F f Q N (B++C)=TQ A F f Q N B++C:=aeJ.symm
 unfold Hk.l_
 rw [e]
 conv=>lhs; rw [show TN A Q B=(TQ A F f Q N B).length from VO.symm,List.take_left]
 exact aeU h (by rw [VO]; exact ab6 _)
theorem tQ (h:KT A Q B):l_ (TN A Q B) (TQ A F f Q N B)=some (TQ A F f Q N B):=by
 have:=wX (F:=F) (f:=f) (N:=N) (C:=[]) h
 rwa [List.append_nil] at this
theorem anG {v:kM}(h:KT A Q B):lZ (TN A Q B) v (TQ A F f Q N (B++C))=some (.ret (v.vK (TN A Q B) (TQ A F f Q N (B++C))).kQ,TQ A F f Q N B):=by simp [lZ,wX h]
theorem anF {v:kM}(h:KT A Q B):rE (TN A Q B) v (TQ A F f Q N (B++C))=some (.pan (v.vK (TN A Q B) (TQ A F f Q N (B++C))).kQ,TQ A F f Q N B):=by simp [rE,wX h]
theorem aeN {v:kM}(h:KT A Q B):lZ (TN A Q B) v (TQ A F f Q N B)=some (.ret (v.vK (TN A Q B) (TQ A F f Q N B)).kQ,TQ A F f Q N B):=by simp [lZ,tQ h]
theorem aeM {v:kM}(h:KT A Q B):rE (TN A Q B) v (TQ A F f Q N B)=some (.pan (v.vK (TN A Q B) (TQ A F f Q N B)).kQ,TQ A F f Q N B):=by simp [rE,tQ h]
end
def AD (e p:Int):kM:=.iface 141 (.agg [.int .i64 e,.int .i64 p])
theorem agG {m:Nat}{h:kP}{e p:Int}:kM.vK m h (.iface 141 (.agg [.int .i64 e,.int .i64 p]))=.iface 141 (.agg [.int .i64 e,.int .i64 p]):=(rfl)
theorem Wo {e p:Int}:(kM.iface 141 (.agg [.int .i64 e,.int .i64 p])).kQ=.iface 141 (.agg [.int .i64 e,.int .i64 p]):=(rfl)
def TR.res {α:Type}(enc:α→kM) (h:kP):TR α→nO×kP
 | .ok v=>(.ret (enc v),h)
 | .bad e p=>(.pan (AD e p),h)
section
variable {α:Type}{enc:α→kM}{v:α}{e p:Int}{h:kP}
theorem aGS:(TR.ok v).res enc h=(.ret (enc v),h):=rfl
theorem aCt:(TR.bad e p:TR α).res enc h=(.pan (AD e p),h):=rfl
end
def aG0:GT→kM:=fun t=>.agg t.cells
def akS:mT→kM:=fun t=>.agg t.cells
def fEn:GF→kM:=fun f=>.agg f.cells
attribute [simp] Tu Z9 Me Tv Mb VO aeJ aeO anH J8 Mc anL Tt aIw anI aeS aeR anG anF aeN aeM KT.app aGS aCt tP IV AD agG Wo aG0 akS fEn Af mT.cells GT.cells GF.cells oL EI
section
variable {A Q B:List lG}{F:Kn}{f:GF}{N:Nm mT}
theorem MF (hK:KT A Q B) (b:Bool) (e p:Int):KK 131 [.bool b,.int .i64 e,.int .i64 p] (TQ A F f Q N B)=some ((rG b e p).res tP (TQ A F f Q N B)):=by
 refine lA (YZ _ _ _ _ _) ?_
 unfold rG
 cases b
 ·simp -implicitDefEqProofs [ahR,hK]
 ·simp -implicitDefEqProofs [ahR,hK]
theorem ayN (a b:Int) (h:kP):KK 166 [.int .i64 a,.int .i64 b] h=some (.ret (.bool (q9 a b)),h):=by
 refine lD rfl rfl (lA (aq5 _ _ _ _) ?_)
 unfold q9
 by_cases h1:a=0
 ·simp -implicitDefEqProofs [aAo,h1,kN]
 ·by_cases h2:b=1 <;> simp -implicitDefEqProofs [aAo,h1,h2,kN]
theorem afM (hK:KT A Q B) (s:List UInt8) (p:Int):KK 165 [.ptr (A.length+1) 0,.str s,.int .i64 p] (TQ A F f Q N B)=some ((vV N s p).res akS (TQ A F f Q N B)):=by
 refine lA (aq4 _ _ _ _ _) ?_
 have h131:=fun B hK b e p=>MF (A:=A) (Q:=Q) (F:=F) (f:=f) (N:=N) (B:=B) hK b e p
 unfold vV
 cases hl:look N s with
 | none=>simp -implicitDefEqProofs [aAn,hK,hl,h131,rG]
 | some t=>simp -implicitDefEqProofs [aAn,hK,hl,h131,rG]
end
end
section
open Go Hk
section
variable {A Q B:List lG}{F:Kn}{f:GF}{N:Nm mT}
theorem anJ {s:List UInt8}{t:mT}(h:look N s=none):Aa (TQ A F f Q N B) (.map (A.length+2+Q.length)) (.str s) (.agg [.int .i64 t.ty.elem,.int .i64 t.ty.len,.int .i64 t.ty.label,.bool t.fixed])=some (TQ A F f Q (N++[(s,t)]) B):=axF h
theorem an9 (hK:KT A Q B) (s:List UInt8) (t:mT) (p:Int):∃N',KK 132 [.ptr (A.length+1) 0,.str s,.agg t.cells,.int .i64 p] (TQ A F f Q N B)=some (match Ap N s t p with
  | .ok N1=>(.ret (.tuple []),TQ A F f Q N1 B)
  | .bad e q=>(.pan (AD e q),TQ A F f Q N' B)):=by
 refine⟨N,lA (aqF _ _ _ _ _ _) ?_⟩
 have h131:=fun B hK b e p=>MF (A:=A) (Q:=Q) (F:=F) (f:=f) (N:=N) (B:=B) hK b e p
 unfold Ap
 cases hl:look N s with
 | none =>
  have hp:=fun B=>anJ (A:=A) (Q:=Q) (F:=F) (f:=f) (B:=B) (t:=t) hl
  simp -implicitDefEqProofs [aAc,hK,hl,h131,rG,hp]
 | some u=>simp -implicitDefEqProofs [aAc,hK,hl,h131,rG]
def QW (A Q:List lG) (F:Kn) (f:GF) (N:Nm mT) (x:GE):Prop:=∀B,KT A Q B→KK 164 [.ptr (A.length+1) 0,.agg x.cells] (TQ A F f Q N B)=some ((xB F N x).res aG0 (TQ A F f Q N B))
def Ia (F:Kn) (N:Nm mT) (elem:Int) (x:GE):TR Unit:=(xB F N x).bind fun t=>(rG (t.elem == elem) 14 x.pos).bind fun _=>rG (t.label == 0) 15 x.pos
theorem aoB (hK:KT A Q B) (x:GE) (elem:Int) (hv:QW A Q F f N x):KK 168 [.ptr (A.length+1) 0,.agg x.cells,.int .i64 elem] (TQ A F f Q N B)=some ((Ia F N elem x).res tP (TQ A F f Q N B)):=by
 refine lA (aq8 _ _ _ _ _) ?_
 have h131:=fun B hK b e p=>MF (A:=A) (Q:=Q) (F:=F) (f:=f) (N:=N) (B:=B) hK b e p
 unfold QW at hv
 unfold Ia
 obtain⟨k,p,n,nm,args⟩:=x
 simp only [GE.cells] at hv ⊢
 cases hr:xB F N (.mk k p n nm args) with
 | bad e q =>
  rw [hr] at hv
  simp -implicitDefEqProofs [aq7,hK,hv,TR.bind]
 | ok t =>
  rw [hr] at hv
  obtain⟨el,ln,lb⟩:=t
  by_cases h1:el=elem
  ·by_cases h2:lb=0 <;> simp -implicitDefEqProofs [aq7,hK,hv,h131,h1,h2,rG,TR.bind,GE.pos]
  ·simp -implicitDefEqProofs [aq7,hK,hv,h131,h1,rG,TR.bind,GE.pos]
def ahA (F:Kn) (N:Nm mT) (name:List UInt8) (x:GE) (p:Int):TR mT:=(Ia F N 0 x).bind fun _=>(vV N name p).bind fun t=>(rG (decide (0 < t.ty.len)) 14 p).bind fun _=>.ok t
theorem aJe (hK:KT A Q B) (name:List UInt8) (x:GE) (p:Int) (hv:QW A Q F f N x):KK 195 [.ptr (A.length+1) 0,.str name,.agg x.cells,.int .i64 p] (TQ A F f Q N B)=some ((ahA F N name x p).res akS (TQ A F f Q N B)):=by
 refine lA (arN _ _ _ _ _ _) ?_
 have h131:=fun B hK b e p=>MF (A:=A) (Q:=Q) (F:=F) (f:=f) (N:=N) (B:=B) hK b e p
 have h168:=fun B hK=>aoB (A:=A) (Q:=Q) (F:=F) (f:=f) (N:=N) (B:=B) hK x 0 hv
 have h165:=fun B hK=>afM (A:=A) (Q:=Q) (F:=F) (f:=f) (N:=N) (B:=B) hK name p
 unfold ahA
 obtain⟨k,q,n,nm,args⟩:=x
 simp only [GE.cells] at h168 ⊢
 cases hr:Ia F N 0 (.mk k q n nm args) with
 | bad e q =>
  rw [hr] at h168
  simp -implicitDefEqProofs [arM,hK,h168,TR.bind]
 | ok u =>
  rw [hr] at h168
  cases hn:vV N name p with
  | bad e q =>
   rw [hn] at h165
   simp -implicitDefEqProofs [arM,hK,h168,h165,TR.bind]
  | ok t =>
   rw [hn] at h165
   obtain⟨⟨el,ln,lb⟩,fx⟩:=t
   by_cases h1:0 < ln <;> simp -implicitDefEqProofs [arM,hK,h168,h165,h131,h1,rG,TR.bind]
def YE (F:Kn) (N:Nm mT) (q:GP) (x:GE):TR Unit:=if q.ty.len=0 then(xB F N x).bind fun t=>(rG (t.elem == q.ty.elem) 14 x.pos).bind fun _=>rG (q9 t.label q.ty.label) 15 x.pos else Mx N q x.kind x.pos x.name
set_option maxHeartbeats 4000000 in
theorem aJg (hK:KT A Q B) (q:GP) (x:GE) (hv:QW A Q F f N x):KK 197 [.ptr (A.length+1) 0,.agg q.cells,.agg x.cells] (TQ A F f Q N B)=some ((YE F N q x).res tP (TQ A F f Q N B)):=by
 refine lA (arP _ _ _ _ _) ?_
 have h131:=fun B hK b e p=>MF (A:=A) (Q:=Q) (F:=F) (f:=f) (N:=N) (B:=B) hK b e p
 have h166:=ayN
 unfold QW at hv
 unfold YE
 obtain⟨k,p,n,nm,args⟩:=x
 obtain⟨qp,qn,⟨qe,ql,qb⟩,qo⟩:=q
 simp only [GE.cells,GP.cells] at hv ⊢
 by_cases hq:ql=0
 ·subst hq
  rw [if_pos rfl]
  cases hr:xB F N (.mk k p n nm args) with
  | bad e q =>
   rw [hr] at hv
   simp -implicitDefEqProofs [Je,hK,hv,TR.bind]
  | ok t =>
   rw [hr] at hv
   obtain⟨el,ln,lb⟩:=t
   by_cases h1:el=qe
   ·cases h2:q9 lb qb <;> simp -implicitDefEqProofs [Je,hK,hv,h131,h166,h1,h2,rG,TR.bind,GE.pos]
   ·simp -implicitDefEqProofs [Je,hK,hv,h131,h166,h1,rG,TR.bind,GE.pos]
 ·rw [if_neg hq]
  have h165:=fun B hK=>afM (A:=A) (Q:=Q) (F:=F) (f:=f) (N:=N) (B:=B) hK nm p
  unfold Mx
  by_cases hk:k=2
  ·cases hn:vV N nm p with
   | bad e q =>
    rw [hn] at h165
    simp -implicitDefEqProofs [Je,hK,hq,h165,h131,hk,rG,TR.bind,GE.pos,GE.kind,GE.name,hn]
   | ok t =>
    rw [hn] at h165
    obtain⟨⟨el,ln,lb⟩,fx⟩:=t
    by_cases h1:el=qe
    ·by_cases h2:ln=ql
     ·cases qo
      ·cases h3:q9 lb qb <;> simp -implicitDefEqProofs [Je,hK,hq,h165,h131,h166,hk,h1,h2,h3,rG,TR.bind,GE.pos,GE.kind,GE.name,hn]
      ·cases fx
       ·cases h3:q9 lb qb
        ·simp -implicitDefEqProofs [Je,hK,hq,h165,h131,h166,hk,h1,h2,h3,rG,TR.bind,GE.pos,GE.kind,GE.name,hn]
        ·by_cases h4:lb=qb
         ·have h4:=eq_true h4
          simp -implicitDefEqProofs [Je,hK,hq,h165,h131,h166,hk,h1,h2,h3,h4,rG,TR.bind,GE.pos,GE.kind,GE.name,hn]
         ·simp -implicitDefEqProofs [Je,hK,hq,h165,h131,h166,hk,h1,h2,h3,h4,rG,TR.bind,GE.pos,GE.kind,GE.name,hn]
       ·simp -implicitDefEqProofs [Je,hK,hq,h165,h131,h166,hk,h1,h2,rG,TR.bind,GE.pos,GE.kind,GE.name,hn]
     ·simp -implicitDefEqProofs [Je,hK,hq,h165,h131,h166,hk,h1,h2,rG,TR.bind,GE.pos,GE.kind,GE.name,hn]
    ·simp -implicitDefEqProofs [Je,hK,hq,h165,h131,h166,hk,h1,rG,TR.bind,GE.pos,GE.kind,GE.name,hn]
  ·simp -implicitDefEqProofs [Je,hK,hq,h131,hk,rG,TR.bind,GE.pos,GE.kind,GE.name]
end
end
section
open Go Hk
def Al (l:List Int):List (List kM):=l.map fun e=>[.int .i64 e]
theorem Qm (l:List Int) (hl:l.length≤1000000) (k:Int):∀(u:List Int) (i:Nat) (w:Bool),l.drop i=u→i≤l.length →
  mJ (FG KK 0) ([.int .i64 k,.slice (Al l) .no,.int .i64 0,.bool false,.bool w,.slice (Al l) .no,.int .i64 (l.length:Int),.int .i64 (i:Int)],[])=some (.exit 0,[.int .i64 k,.slice (Al l) .no,.int .i64 0,.bool false,.bool (w && u.all (· == 0)),.slice (Al l) .no,.int .i64 (l.length:Int),.int .i64 (l.length:Int)],[])
 | [],i,w,hd,hi=>by
  have hge:l.length≤i:=by simpa using hd
  have e:i=l.length:=by omega
  subst e
  rw [l9]
  simp -implicitDefEqProofs [FG,kT,l_]
 | c::u,i,w,hd,hi=>by
  have hlt:i < l.length:=by
   rcases Nat.lt_or_ge i l.length with hx | hx
   ·exact hx
   ·rw [aj0 hx] at hd; cases hd
  have hc:l[i]'hlt=c:=by
   have:=ae6 hlt
   rw [hd] at this
   exact(List.cons.inj this).1.symm
  have hd2:l.drop (i+1)=u:=by
   have:=ae6 hlt
   rw [hd] at this
   exact(List.cons.inj this).2.symm
  have w1:=rR (a:=i) (by omega)
  have ih:=fun w=>Qm l hl k u (i+1) w hd2 hlt
  simp only [Al,af8,ab9] at ih ⊢
  rw [l9]
  cases w
  ·simp -implicitDefEqProofs [FG,hlt,hc,kT,l_,w1,ih]
  ·by_cases h0:c=0
   ·simp -implicitDefEqProofs [FG,hlt,hc,h0,kT,l_,w1,ih]
   ·simp -implicitDefEqProofs [FG,hlt,hc,h0,kT,l_,w1,ih]
theorem aJf (k n:Int) (name:List UInt8) (l:List Int) (hk:rL k n name l.length=true) (h5:5≤k) (h:kP):KK 196 [.int .i64 k,.slice (Al l) .no] h=some (.ret (.tuple [.int .i64 (Qs k l).1,.bool (Qs k l).2]),h):=by
 have hr:1≤k∧k≤26:=by
  unfold rL tS at hk
  split at hk
  ·cases hk
  ·rename_i m hm
   split at hm
   ·cases hm
   ·omega
 have hlen:l.length=(if k=25 then 3 else if k≤7∨k=14∨k=15∨k=16∨k=26 then 1 else 2):=by
  have hc:k=5∨k=6∨k=7∨k=8∨k=9∨k=10∨k=11∨k=12∨k=13∨k=14∨k=15∨k=16∨k=17∨k=18∨k=19∨k=20∨k=21∨k=22∨k=23∨k=24∨k=25∨k=26:=by omega
  rcases hc with rfl | rfl | rfl | rfl | rfl | rfl | rfl | rfl | rfl | rfl | rfl | rfl | rfl | rfl | rfl | rfl | rfl | rfl | rfl | rfl | rfl | rfl <;>
   (simp [rL,tS] at hk ⊢; omega)
 have hs:([kM.int .i64 k,.slice (Al l) .no].all (kM.nP 0))=true:=by simp [kM.nP,kM.pE,qA]
 refine lD rfl hs (lA (arO _ _ _ _) ?_)
 have hl:l.length≤1000000:=by rw [hlen]; split <;> (try split) <;> omega
 have lp:=Qm l hl k l 0 true rfl (ah8 _)
 simp only [Bool.true_and,ab9] at lp
 unfold Qs
 by_cases h25:k=25
 ·subst h25
  match l,hlen with
  | [a,b,c],_ =>
   simp only [Al,ai3,al1] at lp ⊢
   simp -implicitDefEqProofs at lp
   by_cases ha:a=1
   ·subst ha
    by_cases hb:b=c
    ·subst hb; simp -implicitDefEqProofs [ab7,lp,nZ,kN]
    ·simp -implicitDefEqProofs [ab7,lp,nZ,kN,hb]
   ·simp -implicitDefEqProofs [ab7,lp,nZ,kN,ha]
 ·rw [if_neg h25] at hlen
  by_cases h1:k≤7∨k=14∨k=15∨k=16∨k=26
  ·rw [if_pos h1] at hlen
   match l,hlen with
   | [a],_ =>
    simp only [Al,ai3,al1] at lp ⊢
    simp -implicitDefEqProofs at lp
    have hc:k=5∨k=6∨k=7∨k=14∨k=15∨k=16∨k=26:=by omega
    rcases hc with rfl | rfl | rfl | rfl | rfl | rfl | rfl <;> simp -implicitDefEqProofs [ab7,lp,nZ,kN] <;> rfl
  ·rw [if_neg h1] at hlen
   match l,hlen with
   | [a,b],_ =>
    simp only [Al,ai3,al1] at lp ⊢
    simp -implicitDefEqProofs at lp
    have hc:k=8∨k=9∨k=10∨k=11∨k=12∨k=13∨k=17∨k=18∨k=19∨k=20∨k=21∨k=22∨k=23∨k=24:=by omega
    rcases hc with rfl | rfl | rfl | rfl | rfl | rfl | rfl | rfl | rfl | rfl | rfl | rfl | rfl | rfl <;> simp -implicitDefEqProofs [ab7,lp,nZ,kN] <;> rfl
end
section
open Go Hk
def Fs (mb cb:lG) (A:List lG) (Q:List lG) (N:Nm mT) (B:List lG):kP:=A++(mb::cb::(Q++(.map (CF N)::B)))
section
variable {A Q B C C' B':List lG}{F:Kn}{f:GF}{N N':Nm mT}{k:Nat}{mb cb:lG}
theorem anM:Fs mb cb A Q N B++C=Fs mb cb A Q N (B++C):=by simp [Fs]
theorem anN:(Fs mb cb A Q N B).length=TN A Q B:=by simp [Fs,TN]; omega
theorem IH:Fs mb cb A Q N B=(A++(mb::cb::(Q++[.map (CF N)])))++B:=by simp [Fs]
theorem Lb:(A++(mb::cb::(Q++[lG.map (CF N)]))).length=A.length+3+Q.length:=by simp; omega
theorem axG:(Fs mb cb A Q N (B++C))[TN A Q B+k]?=C[k]?:=by
 rw [IH,←ag1,ac3 (by rw [ab5,Lb]; unfold TN; omega),ab5,Lb]
 unfold TN
 rw [show A.length+3+Q.length+B.length+k - (A.length+3+Q.length+B.length)=k by omega]
theorem X0 {x:lG}:List.set (Fs mb cb A Q N (B++C)) (TN A Q B+k) x=Fs mb cb A Q N (B++C.set k x):=by
 rw [IH,IH,←ag1,←ag1,al4 _ _ (by rw [ab5,Lb]; unfold TN; omega),ab5,Lb]
 unfold TN
 rw [show A.length+3+Q.length+B.length+k - (A.length+3+Q.length+B.length)=k by omega]
theorem PE:oB (Fs mb cb A Q N (B++C)) (TN A Q B+k)=Fs mb cb A Q N (B++oB C k):=by
 unfold oB
 rw [axG]
 cases C[k]? with
 | none=>rfl
 | some b=>cases b <;> first | rfl | exact X0
theorem VR:oB (Fs mb cb A Q N (B++C)) (TN A Q B)=Fs mb cb A Q N (B++oB C 0):=PE (k:=0)
theorem J9:mM (TQ A F f Q N (B++C)) (Fs mb cb A Q N (B++C')) (TN A Q B+k)=Fs mb cb A Q N (B++mM C C' k):=by
 unfold mM
 rw [J8]
 cases C[k]? with
 | none=>rfl
 | some b=>cases b <;> first | rfl | exact X0
theorem QV:mM (TQ A F f Q N (B++C)) (Fs mb cb A Q N (B++C')) (TN A Q B)=Fs mb cb A Q N (B++mM C C' 0):=J9 (k:=0)
theorem aeK:(TQ A F f Q N B)[A.length+1]?=some (.cells (Af A.length (A.length+2+Q.length) f)):=by
 unfold TQ
 rw [ac3 (by omega),show A.length+1 - A.length=1 by omega]; rfl
theorem aeT:(TQ A F f Q N B)[A.length]?=some (.map (CE F)):=by
 unfold TQ
 rw [ac3 (ab6 _),Nat.sub_self]; rfl
theorem aeP:oB (TQ A F f Q N B) (A.length+1)=Fs (.map (CE F)) .gone A Q N B:=by
 unfold oB
 rw [aeK]
 show List.set (TQ A F f Q N B) (A.length+1) .gone=_
 unfold TQ Fs
 rw [al4 _ _ (by omega),show A.length+1 - A.length=1 by omega]; rfl
theorem aeQ {es:List (kM×kM)}:oB (Fs (.map es) cb A Q N B) A.length=Fs .gone cb A Q N B:=by
 have h:(Fs (.map es) cb A Q N B)[A.length]?=some (.map es):=by
  unfold Fs
  rw [ac3 (ab6 _),Nat.sub_self]; rfl
 unfold oB
 rw [h]
 show List.set (Fs (.map es) cb A Q N B) A.length .gone=_
 unfold Fs
 rw [al4 _ _ (ab6 _),Nat.sub_self]; rfl
theorem VQ:mM (TQ A F f Q N B) (Fs mb cb A Q N' B') (A.length+1)=Fs mb (.cells (Af A.length (A.length+2+Q.length) f)) A Q N' B':=by
 unfold mM
 rw [aeK]
 show List.set (Fs mb cb A Q N' B') (A.length+1) (.cells (Af A.length (A.length+2+Q.length) f))=_
 unfold Fs
 rw [al4 _ _ (by omega),show A.length+1 - A.length=1 by omega]; rfl
theorem Mf:mM (TQ A F f Q N B) (Fs mb (.cells (Af A.length (A.length+2+Q.length) f)) A Q N' B') A.length=TQ A F f Q N' B':=by
 unfold mM
 rw [aeT]
 show List.set (Fs mb (.cells (Af A.length (A.length+2+Q.length) f)) A Q N' B') A.length (.map (CE F))=_
 unfold TQ Fs
 rw [al4 _ _ (ab6 _),Nat.sub_self]; rfl
theorem Tw:mM (TQ A F f Q N B) (Fs mb (.cells (.map A.length::.map (A.length+2+Q.length)::.int .i64 f.pos::.str f.name::.slice (f.params.map GP.cells) .no::.bool f.has::.int .i64 f.result.elem::.int .i64 f.result.len::.int .i64 f.result.label::[.slice (f.body.map GS.cells) .no])) A Q N' B') A.length=TQ A F f Q N' B':=Mf
theorem V4 {i:Nat}:pK (.map i)=some i:=(rfl)
theorem aeI {a b:Nat}:TN A Q B+a+b=TN A Q B+(a+b):=Nat.add_assoc _ _ _
end
attribute [simp] anM anN PE VR J9 QV aeP aeQ VQ Mf Tw V4 aeI
section
variable {A Q B:List lG}{F:Kn}{f:GF}{N:Nm mT}
def cC (A Q B : List lG) (k p n : Int) (nm : List UInt8) (args : List GE) (g : GF) (c : Int) : List lG :=
  [.cells [.int .i64 k, .int .i64 p, .int .i64 n, .str nm, .slice (args.map GE.cells) .no],
   .cells [.int .i64 0, .str [], .slice [] (.own (TN A Q B + 2)), .bool false, .int .i64 0, .int .i64 0, .int .i64 0, .slice [] (.own (TN A Q B + 3))], .front 0 0, .front 0 0,
   .cells [.int .i64 g.pos, .str g.name, .slice (g.params.map GP.cells) .no, .bool g.has, .int .i64 g.result.elem, .int .i64 g.result.len, .int .i64 g.result.label, .slice (g.body.map GS.cells) .no, .int .i64 c], .front 0 0, .front 0 0]
theorem Ql (hK:KT A Q B) (k p n:Int) (nm:List UInt8) (args:List GE) (g:GF) (c:Int) (hv:∀y∈args,QW A Q F f N y) (hl:args.length≤4611686018427387904) (hlen:g.params.length=args.length):∀(u:List GE) (v:List GP) (i:Nat),args.drop i=u→g.params.drop i=v→i≤args.length →
  ∃j:Int,mJ (HS KK (TN A Q B+7)) ([.ptr (A.length+1) 0,.ptr (TN A Q B) 0,.ptr (TN A Q B+1) 0,.ptr (TN A Q B+4) 0,.slice (g.params.map GP.cells) .no,.int .i64 (args.length:Int),.int .i64 (i:Int)],TQ A F f Q N (B++cC A Q B k p n nm args g c)) =
   some (match rT F N v u with
    | .ok _=>(.exit 0,[.ptr (A.length+1) 0,.ptr (TN A Q B) 0,.ptr (TN A Q B+1) 0,.ptr (TN A Q B+4) 0,.slice (g.params.map GP.cells) .no,.int .i64 (args.length:Int),.int .i64 (args.length:Int)],TQ A F f Q N (B++cC A Q B k p n nm args g c))
    | .bad e q=>(.pan (AD e q),[.ptr (A.length+1) 0,.ptr (TN A Q B) 0,.ptr (TN A Q B+1) 0,.ptr (TN A Q B+4) 0,.slice (g.params.map GP.cells) .no,.int .i64 (args.length:Int),.int .i64 j],TQ A F f Q N (B++cC A Q B k p n nm args g c)))
 | [],v,i,hd,hd2,hi=>by
  have hge:args.length≤i:=by simpa using hd
  have e:i=args.length:=by omega
  subst e
  have hv0:v=[]:=by rw [←hd2,←hlen]; simp
  subst hv0
  have hKC:KT A Q (B++cC A Q B k p n nm args g c):=hK.app (by simp [cC])
  have htr:=tQ (F:=F) (f:=f) (N:=N) hKC
  have hm:TN A Q (B++cC A Q B k p n nm args g c)=TN A Q B+7:=by simp [cC]
  rw [hm] at htr
  refine⟨0,?_⟩
  rw [l9]
  have q:∀h i,i < A.length+3+Q.length+B.length+7→kM.mP (TN A Q B+7) h (.ptr i 0)=.ptr i 0:=fun h i hi=>lE (by unfold TN; exact hi)
  have q0:=fun h=>q h (A.length+1) (by omega)
  have q1:=fun h=>q h (TN A Q B) (by unfold TN; omega)
  have q2:=fun h=>q h (TN A Q B+1) (by unfold TN; omega)
  have q3:=fun h=>q h (TN A Q B+4) (by unfold TN; omega)
  simp -implicitDefEqProofs [HS,rT,kT,htr,q0,q1,q2,q3]
 | x::u,[],i,hd,hd2,hi=>by
  have h1:g.params.length≤i:=by simpa using hd2
  rw [aj0 (by omega)] at hd
  cases hd
 | x::u,y::v,i,hd,hd2,hi=>by
  have hlt:i < args.length:=by
   rcases Nat.lt_or_ge i args.length with hx | hx
   ·exact hx
   ·rw [aj0 hx] at hd; cases hd
  have hlt2:i < g.params.length:=by omega
  have ha:=ae6 hlt
  rw [hd] at ha
  have hx:args[i]'hlt=x:=(List.cons.inj ha).1.symm
  have hd3:args.drop (i+1)=u:=(List.cons.inj ha).2.symm
  have hb:=ae6 hlt2
  rw [hd2] at hb
  have hy:g.params[i]'hlt2=y:=(List.cons.inj hb).1.symm
  have hd4:g.params.drop (i+1)=v:=(List.cons.inj hb).2.symm
  have hvx:=hv x (hx ▸ List.getElem_mem hlt)
  have h197:=fun B hK=>aJg (A:=A) (Q:=Q) (F:=F) (f:=f) (N:=N) (B:=B) hK y x hvx
  have w1:=rR (a:=i) (by omega)
  have hKC:KT A Q (B++cC A Q B k p n nm args g c):=hK.app (by simp [cC])
  have htr:=fun C=>wX (C:=C) (F:=F) (f:=f) (N:=N) hKC
  have hm:TN A Q (B++cC A Q B k p n nm args g c)=TN A Q B+7:=by simp [cC]
  rw [hm] at htr
  have q:∀h i,i < A.length+3+Q.length+B.length+7→kM.mP (TN A Q B+7) h (.ptr i 0)=.ptr i 0:=fun h i hi=>lE (by unfold TN; exact hi)
  have q0:=fun h=>q h (A.length+1) (by omega)
  have q1:=fun h=>q h (TN A Q B) (by unfold TN; omega)
  have q2:=fun h=>q h (TN A Q B+1) (by unfold TN; omega)
  have q3:=fun h=>q h (TN A Q B+4) (by unfold TN; omega)
  obtain⟨j,ih⟩:=Ql hK k p n nm args g c hv hl hlen u v (i+1) hd3 hd4 hlt
  have e:rT F N (y::v) (x::u)=(YE F N y x).bind fun _=>rT F N v u:=by rw [rT]; rfl
  rw [e]
  obtain⟨yp,yn,⟨ye,yl,yb⟩,yo⟩:=y
  obtain⟨xk,xp,xn,xm,xa⟩:=x
  simp only [cC,GP.cells,GE.cells,af8,ab9,ag1,ae7,ah4] at h197 htr ih ⊢
  cases hr:YE F N ⟨yp,yn,⟨ye,yl,yb⟩,yo⟩ (.mk xk xp xn xm xa) with
  | bad e2 q2' =>
   rw [hr] at h197
   refine⟨i,?_⟩
   rw [l9]
   simp -implicitDefEqProofs [HS,hlt,hlt2,hlen,hx,hy,GP.cells,GE.cells,h197,hK,TR.bind,kT,htr,q0,q1,q2,q3]
  | ok _ =>
   rw [hr] at h197
   refine⟨j,?_⟩
   rw [l9]
   simp -implicitDefEqProofs [HS,hlt,hlt2,hlen,hx,hy,GP.cells,GE.cells,h197,hK,TR.bind,kT,htr,q0,q1,q2,q3,w1,ih]
end
section
variable {A Q B:List lG}{F:Kn}{f:GF}{N:Nm mT}
theorem aEq (hK:KT A Q B) (x:GE) (hv:∀y∈x.args,QW A Q F f N y) (hl:x.args.length≤4611686018427387904):KK 170 [.ptr (A.length+1) 0,.agg x.cells] (TQ A F f Q N B)=some ((Cd F N x).res fEn (TQ A F f Q N B)):=by
 refine lA (arA _ _ _ _) ?_
 have h131:=fun B hK b e p=>MF (A:=A) (Q:=Q) (F:=F) (f:=f) (N:=N) (B:=B) hK b e p
 unfold Cd
 obtain⟨k,p,n,nm,args⟩:=x
 simp only [GE.cells,GE.name,GE.pos,GE.args] at hv hl ⊢
 cases hf:look F nm with
 | none=>simp -implicitDefEqProofs [ahV,hK,hf,h131,rG]
 | some a =>
  obtain⟨⟨gp,gn,gps,gh,⟨ge,gl,gb⟩,gbody⟩,c⟩:=a
  by_cases hlen:gps.length=args.length
  ·obtain⟨j,hlp⟩:=Ql hK k p n nm args ⟨gp,gn,gps,gh,⟨ge,gl,gb⟩,gbody⟩ c hv hl hlen args gps 0 rfl rfl (ah8 _)
   simp only [cC,ab9] at hlp
   cases hr:rT F N gps args with
   | bad e q =>
    rw [hr] at hlp
    simp -implicitDefEqProofs [ahV,hK,hf,h131,rG,hlen,GE.nN,TR.bind,hlp,hr]
   | ok _ =>
    rw [hr] at hlp
    simp -implicitDefEqProofs [ahV,hK,hf,h131,rG,hlen,GE.nN,TR.bind,hlp,hr]
  ·have hlen':((gps.length:Int)=args.length)=False:=eq_false (by omega)
   simp -implicitDefEqProofs [ahV,hK,hf,h131,rG,hlen,hlen',GE.nN,TR.bind]
end
end
section
open Go Hk
def FQ (A:List lG) (F:Kn) (w:kM) (f:List kM) (B:List lG):kP:=A++(.map (CE F)::.cells (.map A.length::w::f)::B)
def FN (A B:List lG):Nat:=A.length+2+B.length
structure FK (A B:List lG) (w:kM) (f:List kM):Prop where
 a:Da (FN A B) A
 b:Da (FN A B) B
 w:B6 (FN A B) (w::f)
 l:f.length=8
section
variable {A Q B C:List lG}{F:Kn}{f:List kM}{w:kM}{N N':Nm mT}{k:Nat}
theorem B7:FN A (B++C)=FN A B+C.length:=by simp [FN]; omega
theorem aw5 {n m:Nat}{cs:List kM}(h:B6 n cs) (hm:n≤m):B6 m cs:=fun a b c=>h a b (by omega)
theorem FK.app (h:FK A B w f) (hC:Da (FN A B+C.length) C):FK A (B++C) w f :=
 ⟨by rw [B7]; exact h.a.mono (by omega),by rw [B7]; exact Fp (h.b.mono (by omega)) hC,by rw [B7]; exact aw5 h.w (by omega),h.l⟩
theorem IC:FQ A F w f B++C=FQ A F w f (B++C):=by simp [FQ]
theorem Gl:(FQ A F w f B).length=FN A B:=by simp [FQ,FN]; omega
theorem LZ:FQ A F w f B=(A++[.map (CE F),.cells (.map A.length::w::f)])++B:=by simp [FQ]
theorem QQ:(A++[lG.map (CE F),lG.cells (.map A.length::w::f)]).length=A.length+2:=by simp
theorem LV:(FQ A F w f (B++C))[FN A B+k]?=C[k]?:=by
 rw [LZ,←ag1,ac3 (by rw [ab5,QQ]; unfold FN; omega),ab5,QQ]
 unfold FN
 rw [show A.length+2+B.length+k - (A.length+2+B.length)=k by omega]
theorem ID:(FQ A F w f (B++C))[FN A B]?=C[0]?:=LV (k:=0)
theorem LW:mY (FQ A F w f (B++C)) (FN A B+k)=mY C k:=by unfold mY; rw [LV]
theorem K9:mY (FQ A F w f (B++C)) (FN A B)=mY C 0:=LW (k:=0)
theorem EA:qL (FQ A F w f (B++C)) (FN A B+k)=qL C k:=by unfold qL; rw [LV]
theorem Fl:qL (FQ A F w f (B++C)) (FN A B)=qL C 0:=EA (k:=0)
theorem LX {x:lG}:List.set (FQ A F w f (B++C)) (FN A B+k) x=FQ A F w f (B++C.set k x):=by
 rw [LZ,LZ,←ag1,←ag1,al4 _ _ (by rw [ab5,QQ]; unfold FN; omega),ab5,QQ]
 unfold FN
 rw [show A.length+2+B.length+k - (A.length+2+B.length)=k by omega]
theorem Fm {x:lG}:List.set (FQ A F w f (B++C)) (FN A B) x=FQ A F w f (B++C.set 0 x):=LX (k:=0)
theorem aDT:mY (FQ A F w f B) (A.length+1)=some (.map A.length::w::f):=by
 unfold mY FQ
 rw [ac3 (by omega),show A.length+1 - A.length=1 by omega]; rfl
theorem XU {a:kM}{g:List kM}:List.set (FQ A F w f B) (A.length+1) (.cells (.map A.length::a::g))=FQ A F a g B:=by
 unfold FQ
 rw [al4 _ _ (by omega),show A.length+1 - A.length=1 by omega]; rfl
theorem aDU:y_ (FQ A F w f B) (.map A.length)=some (CE F):=by
 unfold y_ FQ
 simp only [ac3 (ab6 _),Nat.sub_self,List.getElem?_cons_zero]
theorem adV {z:kM}{s:List UInt8}:q7 z true (FQ A F w f B) (.map A.length) (.str s)=some (match look F s with | some t=>.tuple [.agg (t.1.cells++[.int .i64 t.2]),.bool true] | none=>.tuple [z,.bool false]):=by
 unfold q7
 rw [aDU]
 simp only [CE,yF (fun t:GF×Int=>kM.agg (t.1.cells++[.int .i64 t.2]))]
 cases look F s <;> rfl
theorem Tc {z:kM}{s:List UInt8}:q7 z false (FQ A F w f B) (.map A.length) (.str s)=some (match look F s with | some t=>.agg (t.1.cells++[.int .i64 t.2]) | none=>z):=by
 unfold q7
 rw [aDU]
 simp only [CE,yF (fun t:GF×Int=>kM.agg (t.1.cells++[.int .i64 t.2]))]
 cases look F s <;> rfl
theorem adW (h:FK A B w f) {m:Nat}{x:kP}(hm:FN A B≤m):nK m x (FQ A F w f B)=some (FQ A F w f B):=by
 unfold FQ
 have hm':A.length+2+B.length≤m:=hm
 refine sM (h.a m x hm) ?_
 show nK m x ([.map (CE F)]++([.cells (.map A.length::w::f)]++B))=_
 refine sM (Tk m x (ab6 _)) (sM (IF ?_ DR m x (ab6 _)) (h.b m x hm))
 intro m1 x1 h1
 have hw:=h.w m1 x1 (by omega)
 have h2:=Im (m:=m1) (i:=A.length) (h:=x1) (by omega)
 have h6:kM.mE (.map A.length)=true:=rfl
 rw [nI,h2,h6,hw]
 rfl
theorem Dm (h:FK A B w f):l_ (FN A B) (FQ A F w f (B++C))=some (FQ A F w f B):=by
 have e:FQ A F w f (B++C)=FQ A F w f B++C:=IC.symm
 unfold Hk.l_
 rw [e]
 conv=>lhs; rw [show FN A B=(FQ A F w f B).length from Gl.symm,List.take_left]
 exact adW h (by rw [Gl]; exact ab6 _)
theorem zF (h:FK A B w f):l_ (FN A B) (FQ A F w f B)=some (FQ A F w f B):=by
 have:=Dm (F:=F) (f:=f) (C:=[]) h
 rwa [List.append_nil] at this
theorem amH {v:kM}(h:FK A B w f):lZ (FN A B) v (FQ A F w f (B++C))=some (.ret (v.vK (FN A B) (FQ A F w f (B++C))).kQ,FQ A F w f B):=by simp [lZ,Dm h]
theorem amG {v:kM}(h:FK A B w f):rE (FN A B) v (FQ A F w f (B++C))=some (.pan (v.vK (FN A B) (FQ A F w f (B++C))).kQ,FQ A F w f B):=by simp [rE,Dm h]
theorem adU {v:kM}(h:FK A B w f):lZ (FN A B) v (FQ A F w f B)=some (.ret (v.vK (FN A B) (FQ A F w f B)).kQ,FQ A F w f B):=by simp [lZ,zF h]
theorem adT {v:kM}(h:FK A B w f):rE (FN A B) v (FQ A F w f B)=some (.pan (v.vK (FN A B) (FQ A F w f B)).kQ,FQ A F w f B):=by simp [rE,zF h]
theorem auH {g:GF}:FQ A F (.map (A.length+2+Q.length)) g.cells (Q++.map (CF N)::B)=TQ A F g Q N B:=by simp [FQ,TQ,Af]
theorem afZ {ids:List Nat}{x:Option R}:IA ids (FQ A F w f B) (FQ A F w f (B++C)) x=x:=by
 induction ids with
 | nil=>rfl
 | cons i r ih =>
  rw [IA,if_pos,ih]
  intro b hb
  rw [←IC]
  rw [List.getElem?_append_left]
  ·exact hb
  ·exact(List.getElem?_eq_some_iff.1 hb).1
theorem af1 {ids:List Nat}{h:kP}{x:Option R}:IA ids h h x=x:=by
 induction ids with
 | nil=>rfl
 | cons i r ih=>rw [IA,if_pos (fun _ h=>h),ih]
theorem aoK {ids:List Nat}{h:kP}{j:Nat}{b:lG}{x:Option R}(hj:∀i∈ids,i≠j):IA ids h (h.set j b) x=x:=by
 induction ids with
 | nil=>rfl
 | cons i r ih =>
  rw [IA,if_pos,ih (fun a ha=>hj a (by simp [ha]))]
  intro b' hb
  rw [List.getElem?_set_ne (Ne.symm (hj i (by simp)))]
  exact hb
theorem af0 {ids:List Nat}{x:Option R}{a:kM}{g:List kM}(hj:∀i∈ids,i≠A.length+1):IA ids (FQ A F w f B) (FQ A F a g B) x=x:=by
 have e:FQ A F a g B=List.set (FQ A F w f B) (A.length+1) (.cells (.map A.length::a::g)):=XU.symm
 rw [e]
 exact aoK hj
theorem aEp {h:kP}(ht:l_ h.length h=some h) (b:Bool) (e p:Int):KK 131 [.bool b,.int .i64 e,.int .i64 p] h=some ((rG b e p).res tP h):=by
 refine lA (YZ _ _ _ _ _) ?_
 unfold rG
 cases b
 ·simp -implicitDefEqProofs [ahR,rE,ht]
 ·simp -implicitDefEqProofs [ahR,lZ,ht]
theorem Yj (hK:FK A B w f) (b:Bool) (e p:Int):KK 131 [.bool b,.int .i64 e,.int .i64 p] (FQ A F w f B)=some ((rG b e p).res tP (FQ A F w f B)) :=
 aEp (by rw [Gl]; exact zF hK) b e p
end
section
variable {A Q B C:List lG}{F:Kn}{f:GF}{N N':Nm mT}
theorem aIy {cs:List kM}{D:List lG}:mY (TQ A F f (C++.cells cs::D) N B) (A.length+2+C.length)=some cs:=by
 unfold mY TQ
 rw [ac3 (by omega),show A.length+2+C.length - A.length=C.length+2 by omega,List.getElem?_cons_succ,List.getElem?_cons_succ,ag1,ac3 (ab6 _),Nat.sub_self]; rfl
theorem anK {s:List UInt8}{g:GF}{c:Int}(h:look F s=none):Aa (TQ A F f Q N B) (.map A.length) (.str s) (.agg (g.cells++[.int .i64 c]))=some (TQ A (F++[(s,(g,c))]) f Q N B):=by
 have hm:(TQ A F f Q N B)[A.length]?=some (.map (CE F)):=aeT
 unfold Aa
 simp only [hm]
 simp only [CE,yF (fun t:GF×Int=>kM.agg (t.1.cells++[.int .i64 t.2])),Mw (fun t:GF×Int=>kM.agg (t.1.cells++[.int .i64 t.2])) s (g,c) F h]
 refine congrArg some ?_
 unfold TQ
 rw [al4 _ _ (ab6 _),Nat.sub_self]; rfl
end
end
section
open Go Hk
section
variable {A Q B:List lG}{F:Kn}{f:GF}{N:Nm mT}
def fz (n:Nat):Nat:=if n=0 then 0 else 1
def vC (k p n:Int) (nm:List UInt8) (args:List GE) (lab:Int) (m:Nat):List lG :=
 [.cells [.int .i64 k,.int .i64 p,.int .i64 n,.str nm,.slice (args.map GE.cells) .no],.cells [.int .i64 0,.int .i64 0,.int .i64 0],.cells [.int .i64 0,.int .i64 0,.int .i64 lab],.front m (fz m)]
theorem aK5 {x0 x1 x2:lG}{U:List lG}{es:List Int}{e:Int}{t:Tok}(h:es.length≤1000000) :
  mH 1 8 (TQ A F f Q N (B++x0::x1::x2::.front es.length (fz es.length)::U)) (.slice (Al es) (.own (TN A Q B+3))) (.slice [[.int .i64 e]] t)=some (.slice (Al (es++[e])) (.own (TN A Q B+3)),TQ A F f Q N (B++x0::x1::x2::.front (es.length+1) (fz (es.length+1))::U)):=by
 have hb1:(es.length+1) * 8≤140737488355328:=by omega
 have hb2:es.length+1≤140737488355328:=by omega
 have hf:(fz es.length=1∨es=[]∧fz es.length=0):=by
  cases es with
  | nil=>exact .inr ⟨rfl,rfl⟩
  | cons a r=>exact .inl rfl
 have hl:(Al es).length=es.length:=by simp [Al]
 have hat:(TQ A F f Q N (B++x0::x1::x2::.front es.length (fz es.length)::U))[TN A Q B+3]?=some (.front es.length (fz es.length)):=J8 (k:=3)
 have hr:pY 1 (TQ A F f Q N (B++x0::x1::x2::.front es.length (fz es.length)::U)) (.slice [[.int .i64 e]] t)=some [[.int .i64 e]]:=by simp [pY]
 have hset:List.set (TQ A F f Q N (B++x0::x1::x2::.front es.length (fz es.length)::U)) (TN A Q B+3) (.front (es.length+1) 1)=TQ A F f Q N (B++x0::x1::x2::.front (es.length+1) (fz (es.length+1))::U):=Mc (k:=3)
 unfold mH
 rw [hr]
 simp only [hat]
 rw [if_pos ⟨hl,by rcases hf with h | h; exact .inl h; exact .inr ⟨by rw [h.1]; rfl,h.2⟩,hb1,hb2⟩,if_neg (by simp)]
 simp only [ac1,ac6,al6,hset,Al,am3,ai3,al1]
theorem Yi {e:Int}{h:kP}:kY 1 1 [.int .i64 0] [(0,.int .i64 e)] h=some (.slice [[.int .i64 e]] (.own h.length),h++[.front 1 1]):=(rfl)
theorem Qk (hK:KT A Q B) (k p n:Int) (nm:List UInt8) (args:List GE) (hv:∀y∈args,QW A Q F f N y) (hl:args.length≤1000):∀(u:List GE) (i:Nat) (lab:Int) (es:List Int),args.drop i=u→i≤args.length→es.length=i →
  ∃(j lab':Int) (es':List Int),mJ (FD KK (TN A Q B+4)) ([.ptr (A.length+1) 0,.ptr (TN A Q B) 0,.ptr (TN A Q B+1) 0,.ptr (TN A Q B+2) 0,.slice (Al es) (.own (TN A Q B+3)),.slice (args.map GE.cells) .no,.int .i64 (args.length:Int),.int .i64 (i:Int)],TQ A F f Q N (B++vC k p n nm args lab es.length)) =
   some (match wM F N u with
    | .ok l=>(.exit 1,[.ptr (A.length+1) 0,.ptr (TN A Q B) 0,.ptr (TN A Q B+1) 0,.ptr (TN A Q B+2) 0,.slice (Al (es++l.map GT.elem)) (.own (TN A Q B+3)),.slice (args.map GE.cells) .no,.int .i64 (args.length:Int),.int .i64 (args.length:Int)],TQ A F f Q N (B++vC k p n nm args (Sg l lab) (es++l.map GT.elem).length))
    | .bad e q=>(.pan (AD e q),[.ptr (A.length+1) 0,.ptr (TN A Q B) 0,.ptr (TN A Q B+1) 0,.ptr (TN A Q B+2) 0,.slice (Al es') (.own (TN A Q B+3)),.slice (args.map GE.cells) .no,.int .i64 (args.length:Int),.int .i64 j],TQ A F f Q N (B++vC k p n nm args lab' es'.length)))
 | [],i,lab,es,hd,hi,he=>by
  have hge:args.length≤i:=by simpa using hd
  have e:i=args.length:=by omega
  subst e
  have hKC:KT A Q (B++vC k p n nm args lab es.length):=hK.app (by simp [vC])
  have htr:=tQ (F:=F) (f:=f) (N:=N) hKC
  have hm:TN A Q (B++vC k p n nm args lab es.length)=TN A Q B+4:=by simp [vC]
  rw [hm] at htr
  have q:∀h i,i < A.length+3+Q.length+B.length+4→kM.mP (TN A Q B+4) h (.ptr i 0)=.ptr i 0:=fun h i hi=>lE (by unfold TN; exact hi)
  have q0:=fun h=>q h (A.length+1) (by omega)
  have q1:=fun h=>q h (TN A Q B) (by unfold TN; omega)
  have q2:=fun h=>q h (TN A Q B+1) (by unfold TN; omega)
  have q3:=fun h=>q h (TN A Q B+2) (by unfold TN; omega)
  refine⟨0,0,[],?_⟩
  rw [l9]
  simp -implicitDefEqProofs [FD,wM,Sg,kT,htr,q0,q1,q2,q3]
 | x::u,i,lab,es,hd,hi,he=>by
  have hlt:i < args.length:=by
   rcases Nat.lt_or_ge i args.length with hx | hx
   ·exact hx
   ·rw [aj0 hx] at hd; cases hd
  have ha:=ae6 hlt
  rw [hd] at ha
  have hx:args[i]'hlt=x:=(List.cons.inj ha).1.symm
  have hd3:args.drop (i+1)=u:=(List.cons.inj ha).2.symm
  have hvx:=hv x (hx ▸ List.getElem_mem hlt)
  have w1:=rR (a:=i) (by omega)
  have hKC:∀lab m,KT A Q (B++vC k p n nm args lab m):=fun lab m=>hK.app (by simp [vC])
  have htr:=fun lab m C=>wX (C:=C) (F:=F) (f:=f) (N:=N) (hKC lab m)
  have hm:∀lab m,TN A Q (B++vC k p n nm args lab m)=TN A Q B+4:=fun lab m=>by simp [vC]
  simp only [hm] at htr
  have q:∀h i,i < A.length+3+Q.length+B.length+4→kM.mP (TN A Q B+4) h (.ptr i 0)=.ptr i 0:=fun h i hi=>lE (by unfold TN; exact hi)
  have q0:=fun h=>q h (A.length+1) (by omega)
  have q1:=fun h=>q h (TN A Q B) (by unfold TN; omega)
  have q2:=fun h=>q h (TN A Q B+1) (by unfold TN; omega)
  have q3:=fun h=>q h (TN A Q B+2) (by unfold TN; omega)
  have hap:=fun x0 x1 x2 U e t=>aK5 (A:=A) (Q:=Q) (F:=F) (f:=f) (N:=N) (B:=B) (x0:=x0) (x1:=x1) (x2:=x2) (U:=U) (es:=es) (e:=e) (t:=t) (by omega)
  obtain⟨xk,xp,xn,xm,xa⟩:=x
  unfold QW at hvx
  rw [wM]
  simp only [vC,GE.cells,af8,ab9,ag1,ae7,ah4] at hvx htr ⊢
  cases hr:xB F N (.mk xk xp xn xm xa) with
  | bad e2 q2' =>
   rw [hr] at hvx
   refine⟨i,lab,es,?_⟩
   rw [l9]
   simp -implicitDefEqProofs [FD,hlt,hx,GE.cells,hvx,hK,TR.bind,kT,htr,q0,q1,q2,q3]
  | ok t =>
   rw [hr] at hvx
   obtain⟨te,tl,tb⟩:=t
   obtain⟨j,lab',es',ih⟩:=Qk hK k p n nm args hv hl u (i+1) (max lab tb) (es++[te]) hd3 hlt (by simp [he])
   simp only [vC,af8,ab9,ag1,ae7,ah4,ab5,ac1,ac6,al6] at ih
   refine⟨j,lab',es',?_⟩
   rw [l9]
   cases hr2:wM F N u with
   | bad e3 q3' =>
    rw [hr2] at ih
    simp -implicitDefEqProofs [FD,hlt,hx,GE.cells,hvx,hK,TR.bind,kT,htr,q0,q1,q2,q3,w1,Yi,hap,ih]
   | ok l =>
    rw [hr2] at ih
    simp -implicitDefEqProofs [FD,hlt,hx,GE.cells,hvx,hK,TR.bind,kT,htr,q0,q1,q2,q3,w1,Yi,hap,ih,Sg]
end
end
section
open Go Hk
section
variable {A Q:List lG}{F:Kn}{f:GF}{N:Nm mT}
theorem yG {c:List kM}{r:List (List kM)}{t:Tok}(hc:c.length=5):kZ 5 (.slice (c::r) t) (.int .i64 0)=some (.pptr c):=by rw [nZ]; simp [hc]
theorem ak0 (x:GE) (hk:x.kind=4):xB F N x=(Cd F N x).bind fun g=>(rG g.has 14 x.pos).bind fun _=>.ok g.result:=by
 obtain⟨k,p,n,nm,args⟩:=x
 have hk:k=4:=hk
 subst hk
 rw [xB]
 unfold Cd
 simp only [GE.name,GE.args,GE.pos]
 rw [if_neg (by decide),if_neg (by decide),if_neg (by decide),if_pos trivial]
 cases look F nm with
 | none=>rfl
 | some a =>
  obtain⟨g,c⟩:=a
  simp only
  cases rG (g.params.length == args.length) 16 p with
  | bad e q=>rfl
  | ok _ =>
   simp only [TR.bind]
   cases rT F N g.params args <;> rfl
theorem ayM:∀(M:Nat) (x:GE),x.size≤M→nT x=true→x.size≤4611686018427387904→QW A Q F f N x
 | 0,.mk k p n nm args,hs,_,_=>by simp only [GE.size] at hs; omega
 | M+1,.mk k p n nm args,hs,hw,hb=>by
  intro B hK
  simp only [nT,ac5] at hw
  simp only [GE.size] at hs hb
  have hwa:∀z∈args,nT z=true:=fun z hz=>ae8.1 (wC args ▸ hw.2) z hz
  have hv:∀z∈args,QW A Q F f N z:=fun z hz=>by
   have:=GE.oO hz
   exact ayM M z (by omega) (hwa z hz) (by omega)
  have hal:args.length≤4611686018427387904:=by
   have:∀l:List GE,l.length≤GE.nJ l:=fun l=>by
    induction l with
    | nil=>exact ah8 _
    | cons x r ih =>
     have:1≤x.size:=by cases x; simp only [GE.size]; omega
     simp only [ac1,GE.nJ]; omega
   have:=this args
   omega
  have h131:=fun B hK b e p=>MF (A:=A) (Q:=Q) (F:=F) (f:=f) (N:=N) (B:=B) hK b e p
  refine lA (aq3 _ _ _ _) ?_
  have hr:1≤k∧k≤26:=by
   have hk:=hw.1
   unfold rL tS at hk
   split at hk
   ·cases hk
   ·rename_i m hm
    split at hm
    ·cases hm
    ·omega
  by_cases h1:k=1
  ·subst h1
   rw [xB]
   simp -implicitDefEqProofs [Nr,GE.cells,hK,GT.zero]
  by_cases h2:k=2
  ·subst h2
   have h165:=fun B hK=>afM (A:=A) (Q:=Q) (F:=F) (f:=f) (N:=N) (B:=B) hK nm p
   rw [xB,if_neg h1,if_pos rfl]
   cases hn:vV N nm p with
   | bad e q =>
    rw [hn] at h165
    simp -implicitDefEqProofs [Nr,GE.cells,hK,h165,TR.bind]
   | ok t =>
    rw [hn] at h165
    obtain⟨⟨el,ln,lb⟩,fx⟩:=t
    by_cases hl0:ln=0 <;> simp -implicitDefEqProofs [Nr,GE.cells,hK,h165,h131,hl0,rG,TR.bind]
  by_cases h3:k=3
  ·subst h3
   have hlen:args.length=1:=by
    have:=hw.1
    simp [rL,tS] at this
    omega
   match args,hlen,hv with
   | [y],_,hv =>
    have h195:=fun B hK=>aJe (A:=A) (Q:=Q) (F:=F) (f:=f) (N:=N) (B:=B) hK nm y p (hv y (by simp))
    have e:xB F N (.mk 3 p n nm [y])=(ahA F N nm y p).bind fun t=>.ok ⟨0,0,t.ty.label⟩:=by
     rw [xB,if_neg h1,if_neg h2,if_pos rfl,CI]
     unfold ahA
     show(Ia F N 0 y).bind _=_
     cases Ia F N 0 y with
     | bad e q=>rfl
     | ok _ =>
      simp only [TR.bind]
      cases vV N nm p with
      | bad e q=>rfl
      | ok t =>
       simp only
       cases rG (decide (0 < t.ty.len)) 14 p <;> rfl
    rw [e]
    obtain⟨yk,yp,yn,ym,ya⟩:=y
    simp only [GE.cells] at h195
    cases hr1:ahA F N nm (.mk yk yp yn ym ya) p with
    | bad e q =>
     rw [hr1] at h195
     simp -implicitDefEqProofs [Nr,GE.cells,GE.rows,yG,hK,h195,TR.bind]
    | ok t =>
     rw [hr1] at h195
     obtain⟨⟨el,ln,lb⟩,fx⟩:=t
     simp -implicitDefEqProofs [Nr,GE.cells,GE.rows,yG,hK,h195,TR.bind]
  by_cases h4:k=4
  ·subst h4
   have h170:=fun B hK=>aEq (A:=A) (Q:=Q) (F:=F) (f:=f) (N:=N) (B:=B) hK (.mk 4 p n nm args) hv hal
   rw [ak0 _ rfl]
   simp only [GE.cells,GE.pos] at h170 ⊢
   cases hr1:Cd F N (.mk 4 p n nm args) with
   | bad e q =>
    rw [hr1] at h170
    simp -implicitDefEqProofs [Nr,hK,h170,TR.bind]
   | ok g =>
    rw [hr1] at h170
    obtain⟨gp,gn,gps,gh,⟨ge,gl,gb⟩,gbody⟩:=g
    cases gh <;> simp -implicitDefEqProofs [Nr,hK,h170,h131,rG,TR.bind]
  have h5:5≤k:=by omega
  have hal3:args.length≤1000:=by
   have:=hw.1
   have hc:k=5∨k=6∨k=7∨k=8∨k=9∨k=10∨k=11∨k=12∨k=13∨k=14∨k=15∨k=16∨k=17∨k=18∨k=19∨k=20∨k=21∨k=22∨k=23∨k=24∨k=25∨k=26:=by omega
   rcases hc with rfl | rfl | rfl | rfl | rfl | rfl | rfl | rfl | rfl | rfl | rfl | rfl | rfl | rfl | rfl | rfl | rfl | rfl | rfl | rfl | rfl | rfl <;>
    (simp [rL,tS] at this; omega)
  rw [xB,if_neg h1,if_neg h2,if_neg h3,if_neg h4]
  obtain⟨j,lab',es',hlp⟩:=Qk (F:=F) (f:=f) (N:=N) hK k p n nm args hv hal3 args 0 0 [] rfl (ah8 _) rfl
  simp only [vC,ab9,ah4,ac6,show fz 0=0 from rfl,show Al []=[] from rfl] at hlp
  cases hr1:wM F N args with
  | bad e q =>
   rw [hr1] at hlp
   simp -implicitDefEqProofs [Nr,GE.cells,GE.nN,hK,h1,h2,h3,h4,hlp,TR.bind]
  | ok l =>
   rw [hr1] at hlp
   have hll:(l.map GT.elem).length=args.length:=by
    have:∀(u:List GE) (l:List GT),wM F N u=.ok l→l.length=u.length:=fun u=>by
     induction u with
     | nil=>intro l h; rw [wM] at h; cases h; rfl
     | cons x r ih =>
      intro l h
      rw [wM] at h
      cases hx:xB F N x with
      | bad e q=>rw [hx] at h; cases h
      | ok t =>
       rw [hx] at h
       cases hr:wM F N r with
       | bad e q=>rw [hr] at h; cases h
       | ok l' =>
        rw [hr] at h
        cases h
        simp [ih l' hr]
    rw [aj1,this args l hr1]
   have h196:=aJf k n nm (l.map GT.elem) (by rw [hll]; exact hw.1) h5
   simp only [ah4] at hlp
   cases hm:(Qs k (l.map GT.elem)).2
   ·rw [hm] at h196
    simp -implicitDefEqProofs [Nr,GE.cells,GE.nN,hK,h1,h2,h3,h4,hlp,h196,h131,hm,rG,TR.bind]
   ·rw [hm] at h196
    by_cases hn:n < 32 <;> simp -implicitDefEqProofs [Nr,GE.cells,GE.nN,hK,h1,h2,h3,h4,hlp,h196,h131,hm,hn,rG,TR.bind]
end
end
section
open Go Hk
def stR (A:List lG) (F:Kn) (f:GF) (Q B:List lG) (N':Nm mT):TR (Nm mT)→nO×kP
 | .ok N1=>(.ret (.tuple []),TQ A F f Q N1 B)
 | .bad e p=>(.pan (AD e p),TQ A F f Q N' B)
section
variable {A Q B:List lG}{F:Kn}{f:GF}{N N' N1:Nm mT}{e p:Int}
theorem aGE:stR A F f Q B N' (.ok N1)=(.ret (.tuple []),TQ A F f Q N1 B):=rfl
theorem aCg:stR A F f Q B N' (.bad e p)=(.pan (AD e p),TQ A F f Q N' B):=rfl
end
attribute [simp] aGE aCg
def StC (A Q:List lG) (F:Kn) (f:GF) (s:GS):Prop:=∀(last:Bool) (N:Nm mT) (B:List lG),KT A Q B→∃N',KK 133 [.ptr (A.length+1) 0,.agg s.cells,.bool last] (TQ A F f Q N B)=some (stR A F f Q B N' (yZ F f last N s))
section
variable {A Q B:List lG}{F:Kn}{f:GF}
theorem Ns (hK:KT A Q B) (l:List GS) (hs:∀s∈l,StC A Q F f s) (hl:l.length≤4611686018427387904):∀(u:List GS) (i:Nat) (N:Nm mT),l.drop i=u→i≤l.length →
  ∃(j:Int) (N':Nm mT),mJ (HP KK (TN A Q B)) ([.ptr (A.length+1) 0,.slice (l.map GS.cells) .no,.slice (l.map GS.cells) .no,.int .i64 (l.length:Int),.int .i64 (i:Int)],TQ A F f Q N B) =
   some (match tG F f N u with
    | .ok N1=>(.exit 0,[.ptr (A.length+1) 0,.slice (l.map GS.cells) .no,.slice (l.map GS.cells) .no,.int .i64 (l.length:Int),.int .i64 (l.length:Int)],TQ A F f Q N1 B)
    | .bad e q=>(.pan (AD e q),[.ptr (A.length+1) 0,.slice (l.map GS.cells) .no,.slice (l.map GS.cells) .no,.int .i64 (l.length:Int),.int .i64 j],TQ A F f Q N' B))
 | [],i,N,hd,hi=>by
  have hge:l.length≤i:=by simpa using hd
  have e:i=l.length:=by omega
  subst e
  have htr:=fun N=>tQ (F:=F) (f:=f) (N:=N) hK
  have q0:∀h,kM.mP (TN A Q B) h (.ptr (A.length+1) 0)=.ptr (A.length+1) 0:=fun h=>lE (by unfold TN; omega)
  refine⟨0,[],?_⟩
  rw [l9]
  simp -implicitDefEqProofs [HP,tG,kT,htr,q0]
 | x::u,i,N,hd,hi=>by
  have hlt:i < l.length:=by
   rcases Nat.lt_or_ge i l.length with hx | hx
   ·exact hx
   ·rw [aj0 hx] at hd; cases hd
  have ha:=ae6 hlt
  rw [hd] at ha
  have hx:l[i]'hlt=x:=(List.cons.inj ha).1.symm
  have hd3:l.drop (i+1)=u:=(List.cons.inj ha).2.symm
  have w1:=rR (a:=i) (by omega)
  have htr:=fun N C=>wX (F:=F) (f:=f) (N:=N) (C:=C) hK
  have q0:∀h,kM.mP (TN A Q B) h (.ptr (A.length+1) 0)=.ptr (A.length+1) 0:=fun h=>lE (by unfold TN; omega)
  obtain⟨xk,xp,xm,xn,⟨te,tl,tb⟩,xa,xb,xe,xh⟩:=x
  have hK2:KT A Q (B++[.cells (GS.cells (.mk xk xp xm xn ⟨te,tl,tb⟩ xa xb xe xh)),.front 0 0,.front 0 0,.front 0 0]):=hK.app (by simp [GS.cells])
  obtain⟨N2,h133⟩:=hs _ (hx ▸ List.getElem_mem hlt) false N _ hK2
  rw [tG]
  simp only [GS.cells] at h133
  cases hr:yZ F f false N (.mk xk xp xm xn ⟨te,tl,tb⟩ xa xb xe xh) with
  | bad e2 q2' =>
   rw [hr] at h133
   refine⟨i,N2,?_⟩
   rw [l9]
   simp -implicitDefEqProofs [HP,hlt,hx,GS.cells,h133,hK,TR.bind,kT,htr,q0]
  | ok N1 =>
   rw [hr] at h133
   obtain⟨j,N3,ih⟩:=Ns hK l hs hl u (i+1) N1 hd3 hlt
   simp only [af8,ab9] at ih
   refine⟨j,N3,?_⟩
   rw [l9]
   simp -implicitDefEqProofs [HP,hlt,hx,GS.cells,h133,hK,TR.bind,kT,htr,q0,w1,ih]
theorem Nt (hK:KT A Q B) (l:List GS) (hl:l.length≤4611686018427387904):∀(u:List GS) (i:Nat) (N:Nm mT),l.drop i=u→i≤l.length →
  mJ (FE KK (TN A Q B)) ([.ptr (A.length+1) 0,.slice (l.map GS.cells) .no,.int .i64 (l.length:Int),.int .i64 (i:Int)],TQ A F f Q N B) =
   some (.exit 2,[.ptr (A.length+1) 0,.slice (l.map GS.cells) .no,.int .i64 (l.length:Int),.int .i64 (l.length:Int)],TQ A F f Q (zM u N) B)
 | [],i,N,hd,hi=>by
  have hge:l.length≤i:=by simpa using hd
  have e:i=l.length:=by omega
  subst e
  have htr:=fun N=>tQ (F:=F) (f:=f) (N:=N) hK
  have q0:∀h,kM.mP (TN A Q B) h (.ptr (A.length+1) 0)=.ptr (A.length+1) 0:=fun h=>lE (by unfold TN; omega)
  rw [l9]
  simp -implicitDefEqProofs [FE,zM,kT,htr,q0]
 | x::u,i,N,hd,hi=>by
  have hlt:i < l.length:=by
   rcases Nat.lt_or_ge i l.length with hx | hx
   ·exact hx
   ·rw [aj0 hx] at hd; cases hd
  have ha:=ae6 hlt
  rw [hd] at ha
  have hx:l[i]'hlt=x:=(List.cons.inj ha).1.symm
  have hd3:l.drop (i+1)=u:=(List.cons.inj ha).2.symm
  have w1:=rR (a:=i) (by omega)
  have htr:=fun N C=>wX (F:=F) (f:=f) (N:=N) (C:=C) hK
  have htr2:∀N C,Da (TN A Q B+C.length) C→l_ (TN A Q B+C.length) (TQ A F f Q N (B++C))=some (TQ A F f Q N (B++C)):=fun N C hC=>by
   have:=tQ (F:=F) (f:=f) (N:=N) (hK.app hC)
   rwa [Mb] at this
  have q0:∀h,kM.mP (TN A Q B) h (.ptr (A.length+1) 0)=.ptr (A.length+1) 0:=fun h=>lE (by unfold TN; omega)
  have q1:∀h,kM.mP (TN A Q B+4) h (.ptr (A.length+1) 0)=.ptr (A.length+1) 0:=fun h=>lE (by unfold TN; omega)
  obtain⟨xk,xp,xm,xn,⟨te,tl,tb⟩,xa,xb,xe,xh⟩:=x
  have ih:=fun N=>Nt hK l hl u (i+1) N hd3 hlt
  simp only [af8,ab9] at ih
  have hdel:=fun N B s=>aeL (A:=A) (Q:=Q) (F:=F) (f:=f) (N:=N) (B:=B) (s:=s)
  have htr3:=fun N=>htr2 N [.cells (GS.cells (.mk xk xp xm xn ⟨te,tl,tb⟩ xa xb xe xh)),.front 0 0,.front 0 0,.front 0 0] (by simp [GS.cells])
  simp only [GS.cells,ac1,ac6,al6,Nat.reduceAdd] at htr3
  rw [l9,zM]
  by_cases h1:xk=1
  ·subst h1
   simp -implicitDefEqProofs [FE,hlt,hx,GS.cells,hK,kT,htr,htr3,hdel,q0,q1,w1,ih]
  ·by_cases h2:xk=2
   ·subst h2
    simp -implicitDefEqProofs [FE,hlt,hx,GS.cells,hK,kT,htr,htr3,hdel,q0,q1,w1,ih,h1]
   ·simp -implicitDefEqProofs [FE,hlt,hx,GS.cells,hK,kT,htr,htr3,hdel,q0,q1,w1,ih,h1,h2]
theorem ayO (hK:KT A Q B) (l:List GS) (hs:∀s∈l,StC A Q F f s) (hl:l.length≤4611686018427387904) (N:Nm mT):∃N',KK 169 [.ptr (A.length+1) 0,.slice (l.map GS.cells) .no] (TQ A F f Q N B)=some (stR A F f Q B N' ((tG F f N l).bind fun N1=>.ok (zM l N1))):=by
 obtain⟨j,N2,h0⟩:=Ns hK l hs hl l 0 N rfl (ah8 _)
 have h1:=fun N=>Nt (F:=F) (f:=f) hK l hl l 0 N rfl (ah8 _)
 simp only [ab9] at h0 h1
 refine⟨N2,lA (aq9 _ _ _ _) ?_⟩
 cases hr:tG F f N l with
 | bad e q =>
  rw [hr] at h0
  simp -implicitDefEqProofs [aAp,hK,h0,h1,TR.bind]
 | ok N1 =>
  rw [hr] at h0
  simp -implicitDefEqProofs [aAp,hK,h0,h1,TR.bind]
end
end
section
open Go Hk
section
variable {A Q B C:List lG}{F:Kn}{f:GF}
theorem Qp (hK:KT A Q B) (x3:Nat) (hx3:x3 < TN A Q B) (l:List GP) (hl:l.length≤4611686018427387904):∀(u:List GP) (i:Nat) (N:Nm mT),l.drop i=u→i≤l.length →
  ∃(j:Int) (N':Nm mT),mJ (Ea KK (TN A Q B)) ([.ptr (A.length+1) 0,.ptr x3 0,.slice (l.map GP.cells) .no,.int .i64 (l.length:Int),.int .i64 (i:Int)],TQ A F f Q N B) =
   some (match vD N u with
    | .ok N1=>(.exit 0,[.ptr (A.length+1) 0,.ptr x3 0,.slice (l.map GP.cells) .no,.int .i64 (l.length:Int),.int .i64 (l.length:Int)],TQ A F f Q N1 B)
    | .bad e q=>(.pan (AD e q),[.ptr (A.length+1) 0,.ptr x3 0,.slice (l.map GP.cells) .no,.int .i64 (l.length:Int),.int .i64 j],TQ A F f Q N' B))
 | [],i,N,hd,hi=>by
  have hge:l.length≤i:=by simpa using hd
  have e:i=l.length:=by omega
  subst e
  have htr:=fun N=>tQ (F:=F) (f:=f) (N:=N) hK
  have q0:∀h,kM.mP (TN A Q B) h (.ptr (A.length+1) 0)=.ptr (A.length+1) 0:=fun h=>lE (by unfold TN; omega)
  have q3:∀h,kM.mP (TN A Q B) h (.ptr x3 0)=.ptr x3 0:=fun h=>lE hx3
  refine⟨0,[],?_⟩
  rw [l9]
  simp -implicitDefEqProofs [Ea,vD,kT,htr,q0,q3]
 | x::u,i,N,hd,hi=>by
  have hlt:i < l.length:=by
   rcases Nat.lt_or_ge i l.length with hx | hx
   ·exact hx
   ·rw [aj0 hx] at hd; cases hd
  have ha:=ae6 hlt
  rw [hd] at ha
  have hx:l[i]'hlt=x:=(List.cons.inj ha).1.symm
  have hd3:l.drop (i+1)=u:=(List.cons.inj ha).2.symm
  have w1:=rR (a:=i) (by omega)
  have htr:=fun N C=>wX (F:=F) (f:=f) (N:=N) (C:=C) hK
  have q0:∀h,kM.mP (TN A Q B) h (.ptr (A.length+1) 0)=.ptr (A.length+1) 0:=fun h=>lE (by unfold TN; omega)
  have q3:∀h,kM.mP (TN A Q B) h (.ptr x3 0)=.ptr x3 0:=fun h=>lE hx3
  have h131:=fun N B hK b e p=>MF (A:=A) (Q:=Q) (F:=F) (f:=f) (N:=N) (B:=B) hK b e p
  obtain⟨xp,xn,⟨te,tl,tb⟩,xo⟩:=x
  have hK2:KT A Q (B++[.cells (GP.cells ⟨xp,xn,⟨te,tl,tb⟩,xo⟩)]):=hK.app (by simp [GP.cells])
  obtain⟨N2,h132⟩:=an9 (F:=F) (f:=f) (N:=N) hK2 xn ⟨⟨te,tl,tb⟩,!xo⟩ xp
  rw [vD]
  simp only [GP.cells,mT.cells] at h132
  cases hr:Ap N xn ⟨⟨te,tl,tb⟩,!xo⟩ xp with
  | bad e2 q2' =>
   rw [hr] at h132
   refine⟨i,N2,?_⟩
   rw [l9]
   simp -implicitDefEqProofs [Ea,hlt,hx,GP.cells,h132,hK,TR.bind,kT,htr,q0,q3]
  | ok N1 =>
   rw [hr] at h132
   obtain⟨j,N3,ih⟩:=Qp hK x3 hx3 l hl u (i+1) N1 hd3 hlt
   simp only [af8,ab9] at ih
   by_cases h1:xo=false∨0 < tl
   ·have h1':(!xo || decide (0 < tl))=true:=by rcases h1 with h1 | h1 <;> simp [h1]
    by_cases h2:tl≤16384
    ·refine⟨j,N3,?_⟩
     rw [l9]
     cases xo
     ·simp only [Bool.not_false] at h132
      simp -implicitDefEqProofs [Ea,hlt,hx,GP.cells,h132,h131,hK,h2,rG,TR.bind,kT,htr,q0,q3,w1,ih]
     ·have h3:0 < tl:=by simpa using h1
      simp only [Bool.not_true] at h132
      simp -implicitDefEqProofs [Ea,hlt,hx,GP.cells,h132,h131,hK,h2,h3,rG,TR.bind,kT,htr,q0,q3,w1,ih]
    ·refine⟨i,N1,?_⟩
     rw [l9]
     cases xo
     ·simp only [Bool.not_false] at h132
      simp -implicitDefEqProofs [Ea,hlt,hx,GP.cells,h132,h131,hK,h2,rG,TR.bind,kT,htr,q0,q3,w1]
     ·have h3:0 < tl:=by simpa using h1
      simp only [Bool.not_true] at h132
      simp -implicitDefEqProofs [Ea,hlt,hx,GP.cells,h132,h131,hK,h2,h3,rG,TR.bind,kT,htr,q0,q3,w1]
   ·have h3:xo=true:=by cases xo <;> simp_all
    subst h3
    simp only [Bool.not_true] at h132
    have h4:¬0 < tl:=fun h=>h1 (.inr h)
    refine⟨i,N1,?_⟩
    rw [l9]
    simp -implicitDefEqProofs [Ea,hlt,hx,GP.cells,h132,h131,hK,h4,rG,TR.bind,kT,htr,q0,q3,w1]
theorem Qq {g:GF}(hK:KT A Q B) (x3:Nat) (hx3:x3 < TN A Q B) (hq:∀N B,mY (TQ A F f Q N B) x3=some g.cells) (hs:∀s∈g.body,StC A Q F f s) (hl:g.body.length≤4611686018427387904):∀(u:List GS) (i:Nat) (N:Nm mT) (b:Bool),g.body.drop i=u→i≤g.body.length →
  ∃(j:Int) (b':Bool) (N':Nm mT),mJ (ND KK (TN A Q B)) ([.ptr (A.length+1) 0,.ptr x3 0,.bool b,.slice (g.body.map GS.cells) .no,.int .i64 (g.body.length:Int),.int .i64 (i:Int)],TQ A F f Q N B) =
   some (match yI F f N u with
    | .ok N1=>(.exit 2,[.ptr (A.length+1) 0,.ptr x3 0,.bool (tU u b),.slice (g.body.map GS.cells) .no,.int .i64 (g.body.length:Int),.int .i64 (g.body.length:Int)],TQ A F f Q N1 B)
    | .bad e q=>(.pan (AD e q),[.ptr (A.length+1) 0,.ptr x3 0,.bool b',.slice (g.body.map GS.cells) .no,.int .i64 (g.body.length:Int),.int .i64 j],TQ A F f Q N' B))
 | [],i,N,b,hd,hi=>by
  have hge:g.body.length≤i:=by simpa using hd
  have e:i=g.body.length:=by omega
  subst e
  have htr:=fun N=>tQ (F:=F) (f:=f) (N:=N) hK
  have q0:∀h,kM.mP (TN A Q B) h (.ptr (A.length+1) 0)=.ptr (A.length+1) 0:=fun h=>lE (by unfold TN; omega)
  have q3:∀h,kM.mP (TN A Q B) h (.ptr x3 0)=.ptr x3 0:=fun h=>lE hx3
  refine⟨0,false,[],?_⟩
  rw [l9]
  simp -implicitDefEqProofs [ND,yI,tU,kT,htr,q0,q3]
 | x::u,i,N,b,hd,hi=>by
  have hlt:i < g.body.length:=by
   rcases Nat.lt_or_ge i g.body.length with hx | hx
   ·exact hx
   ·rw [aj0 hx] at hd; cases hd
  have ha:=ae6 hlt
  rw [hd] at ha
  have hx:g.body[i]'hlt=x:=(List.cons.inj ha).1.symm
  have hd3:g.body.drop (i+1)=u:=(List.cons.inj ha).2.symm
  have w1:=rR (a:=i) (by omega)
  have w2:IntKind.wrap .i64 ((g.body.length:Int) - 1)=(g.body.length:Int) - 1:=by rw [wrap64] <;> omega
  have hlu:u.length=g.body.length - (i+1):=by rw [←hd3,List.length_drop]
  have hlast:decide ((i:Int)=(g.body.length:Int) - 1)=u.isEmpty:=by
   cases u with
   | nil =>
    simp only [ac6] at hlu
    simp only [List.isEmpty_nil,decide_eq_true_eq]; omega
   | cons y r =>
    simp only [ac1] at hlu
    simp only [List.isEmpty_cons,decide_eq_false_iff_not]; omega
  have htr:=fun N C=>wX (F:=F) (f:=f) (N:=N) (C:=C) hK
  have q0:∀h,kM.mP (TN A Q B) h (.ptr (A.length+1) 0)=.ptr (A.length+1) 0:=fun h=>lE (by unfold TN; omega)
  have q3:∀h,kM.mP (TN A Q B) h (.ptr x3 0)=.ptr x3 0:=fun h=>lE hx3
  obtain⟨gp,gn,gps,gh,⟨ge,gl,gb⟩,gbody⟩:=g
  simp only [GF.cells] at hq
  simp only at hx hd3 hlt hlu hlast w2 hl hs ⊢
  obtain⟨xk,xp,xm,xn,⟨te,tl,tb⟩,xa,xb,xe,xh⟩:=x
  have hs1:=hs _ (hx ▸ List.getElem_mem hlt)
  have ih:=fun N1=>Qq (g:=⟨gp,gn,gps,gh,⟨ge,gl,gb⟩,gbody⟩) hK x3 hx3 hq hs hl u (i+1) N1 (decide (xk=8)) hd3 hlt
  have hK2:KT A Q (B++[.cells (GS.cells (.mk xk xp xm xn ⟨te,tl,tb⟩ xa xb xe xh)),.front 0 0,.front 0 0,.front 0 0]):=hK.app (by simp [GS.cells])
  obtain⟨N2,h133⟩:=hs1 u.isEmpty N _ hK2
  rw [yI]
  simp only [GS.cells] at h133
  cases hr:yZ F f u.isEmpty N (.mk xk xp xm xn ⟨te,tl,tb⟩ xa xb xe xh) with
  | bad e2 q2' =>
   rw [hr] at h133
   refine⟨i,b,N2,?_⟩
   rw [l9]
   simp -implicitDefEqProofs [ND,hlt,hx,GS.cells,h133,hK,hq,w2,hlast,TR.bind,kT,htr,q0,q3]
  | ok N1 =>
   rw [hr] at h133
   obtain⟨j,b',N3,ih⟩:=ih N1
   simp only [af8,ab9] at ih
   refine⟨j,b',N3,?_⟩
   rw [l9,tU,show(xk == 8)=decide (xk=8) from rfl]
   simp -implicitDefEqProofs [ND,hlt,hx,GS.cells,h133,hK,hq,w2,hlast,TR.bind,kT,htr,q0,q3,w1,ih]
end
end
section
open Go Hk
theorem atN {k m:Int}{name:List UInt8}{ty:GT}{args:List GE}{nb ne:Nat}{has:Bool}(h:lR k m name ty args nb ne has=true) :
  1≤k∧k≤8∧nH args=true∧args.length=(if k=2 then 0 else if k=4 then 2 else 1)∧(k=7→PO args=true):=by
 have hr:1≤k∧k≤8:=by
  unfold lR lM at h
  split at h
  ·cases h
  ·rename_i m hm
   split at hm
   ·cases hm
   ·omega
 have hc:k=1∨k=2∨k=3∨k=4∨k=5∨k=6∨k=7∨k=8:=by omega
 rcases hc with rfl | rfl | rfl | rfl | rfl | rfl | rfl | rfl <;> simp [lR,lM] at h ⊢ <;> simp_all [nH]
section
variable {A Q B:List lG}{F:Kn}{f:GF}{N:Nm mT}
def Ot (F:Kn) (N:Nm mT) (p:Int) (name:List UInt8) (x y:GE):TR Unit:=(Ia F N 0 x).bind fun _=>(xB F N y).bind fun v=>(vV N name p).bind fun t=>(rG (decide (0 < t.ty.len) && !t.fixed && v.elem == 0) 14 p).bind fun _=>rG (q9 v.label t.ty.label) 15 p
theorem V6 {c d:List kM}{r:List (List kM)}{t:Tok}(hc:d.length=5):kZ 5 (.slice (c::d::r) t) (.int .i64 1)=some (.pptr d):=by rw [nZ]; simp [hc]
theorem aI8 (hK:KT A Q B) (p m:Int) (name:List UInt8) (ty:GT) (x y:GE) (body els:List GS) (has:Bool) (hx:QW A Q F f N x) (hy:QW A Q F f N y):KK 167 [.ptr (A.length+1) 0,.agg (GS.mk 4 p m name ty [x,y] body els has).cells] (TQ A F f Q N B)=some ((Ot F N p name x y).res tP (TQ A F f Q N B)):=by
 refine lA (aq6 _ _ _ _) ?_
 have h131:=fun B hK b e p=>MF (A:=A) (Q:=Q) (F:=F) (f:=f) (N:=N) (B:=B) hK b e p
 have h165:=fun B hK=>afM (A:=A) (Q:=Q) (F:=F) (f:=f) (N:=N) (B:=B) hK name p
 have h168:=fun B hK=>aoB (A:=A) (Q:=Q) (F:=F) (f:=f) (N:=N) (B:=B) hK x 0 hx
 have h166:=ayN
 have h164:=hy
 unfold QW at h164
 unfold Ot
 obtain⟨xk,xp,xn,xm,xa⟩:=x
 obtain⟨yk,yp,yn,ym,ya⟩:=y
 obtain⟨te,tl,tb⟩:=ty
 simp only [GE.cells,GS.cells,ai3,al1] at h164 h168 ⊢
 cases hr1:Ia F N 0 (.mk xk xp xn xm xa) with
 | bad e q =>
  rw [hr1] at h168
  simp -implicitDefEqProofs [UI,yG,V6,hK,h168,TR.bind]
 | ok _ =>
  rw [hr1] at h168
  cases hr2:xB F N (.mk yk yp yn ym ya) with
  | bad e q =>
   rw [hr2] at h164
   simp -implicitDefEqProofs [UI,yG,V6,hK,h168,h164,TR.bind]
  | ok v =>
   rw [hr2] at h164
   obtain⟨ve,vl,vb⟩:=v
   cases hr3:vV N name p with
   | bad e q =>
    rw [hr3] at h165
    simp -implicitDefEqProofs [UI,yG,V6,hK,h168,h164,h165,TR.bind]
   | ok t =>
    rw [hr3] at h165
    obtain⟨⟨ue,ul,ub⟩,fx⟩:=t
    by_cases h1:0 < ul
    ·cases fx
     ·by_cases h2:ve=0
      ·cases h3:q9 vb ub <;> simp -implicitDefEqProofs [UI,yG,V6,hK,h168,h164,h165,h131,h166,h1,h2,h3,rG,TR.bind]
      ·simp -implicitDefEqProofs [UI,yG,V6,hK,h168,h164,h165,h131,h166,h1,h2,rG,TR.bind]
     ·simp -implicitDefEqProofs [UI,yG,V6,hK,h168,h164,h165,h131,h166,h1,rG,TR.bind]
    ·simp -implicitDefEqProofs [UI,yG,V6,hK,h168,h164,h165,h131,h166,h1,rG,TR.bind]
end
end
section
open Go Hk
section
variable {A Q:List lG}{F:Kn}{f:GF}
theorem ajM {N:Nm mT}{elem:Int}{x:GE}{r:List GE}:CI F N elem (x::r)=Ia F N elem x:=by rw [CI]; rfl
theorem awG (l:List GS):GS.rows l=l.map GS.cells:=GS.nN l
set_option maxHeartbeats 40000000 in
theorem ayB:∀(M:Nat) (s:GS),s.size≤M→pX s=true→s.size≤4611686018427387904→StC A Q F f s
 | 0,.mk k p m name ty args body els has,hs,_,_=>by simp only [GS.size] at hs; omega
 | M+1,.mk k p m name ty args body els has,hs,hw,hb=>by
  intro last N B hK
  simp only [pX,ac5] at hw
  simp only [GS.size] at hs hb
  obtain⟨hk1,hk8,hwa,hlen,hcall⟩:=atN hw.1.1
  have wB:=hw.1.2
  have wE:=hw.2
  rw [wD] at wB wE
  rw [wC] at hwa
  have hB:∀z∈body,StC A Q F f z:=fun z hz=>by
   have:=GS.oO hz
   exact ayB M z (by omega) (ae8.1 wB z hz) (by omega)
  have hE:∀z∈els,StC A Q F f z:=fun z hz=>by
   have:=GS.oO hz
   exact ayB M z (by omega) (ae8.1 wE z hz) (by omega)
  have hlS:∀l:List GS,l.length≤GS.nJ l:=fun l=>by
   induction l with
   | nil=>exact ah8 _
   | cons x r ih =>
    have:1≤x.size:=by cases x; simp only [GS.size]; omega
    simp only [ac1,GS.nJ]; omega
  have hlE:∀l:List GE,l.length≤GE.nJ l:=fun l=>by
   induction l with
   | nil=>exact ah8 _
   | cons x r ih =>
    have:1≤x.size:=by cases x; simp only [GE.size]; omega
    simp only [ac1,GE.nJ]; omega
  have hlb:=hlS body
  have hle:=hlS els
  have hv:∀N,∀z∈args,QW A Q F f N z:=fun N z hz=>by
   have:=GE.oO hz
   exact ayM z.size z (ab6 _) (ae8.1 hwa z hz) (by omega)
  have h131:=fun N B hK b e p=>MF (A:=A) (Q:=Q) (F:=F) (f:=f) (N:=N) (B:=B) hK b e p
  have h166:=ayN
  have hK1:KT A Q (B++[.cells (GS.cells (.mk k p m name ty args body els has))]):=hK.app (by simp [GS.cells])
  have htr:=fun N C=>wX (F:=F) (f:=f) (N:=N) (C:=C) hK1
  have htr0:=fun N=>tQ (F:=F) (f:=f) (N:=N) hK1
  have hm1:TN A Q (B++[.cells (GS.cells (.mk k p m name ty args body els has))])=TN A Q B+1:=by simp
  rw [hm1] at htr htr0
  obtain⟨te,tl,tb⟩:=ty
  have hc:k=1∨k=2∨k=3∨k=4∨k=5∨k=6∨k=7∨k=8:=by omega
  rcases hc with rfl | rfl | rfl | rfl | rfl | rfl | rfl | rfl
  ·-- let
   match args,hlen,hv with
   | [y],_,hv =>
    have h164:=hv N y (by simp)
    unfold QW at h164
    obtain⟨yk,yp,yn,ym,ya⟩:=y
    simp only [GS.cells,GE.cells,ai3,al1,ag1,ae7,ah4] at h164 htr htr0 hK1 ⊢
    simp only [yZ,if_pos]
    show ∃N',_=some (stR A F f Q B N' ((xB F N (.mk yk yp yn ym ya)).bind fun t=>Ap N name ⟨t,true⟩ p))
    cases hr1:xB F N (.mk yk yp yn ym ya) with
    | bad e q =>
     rw [hr1] at h164
     refine⟨N,lA (wT _ _ _ _ _) ?_⟩
     simp -implicitDefEqProofs [zZ,yG,hK,h164,TR.bind,kT,htr,htr0]
    | ok v =>
     rw [hr1] at h164
     obtain⟨ve,vl,vb⟩:=v
     obtain⟨N2,h132⟩:=an9 (F:=F) (f:=f) (N:=N) hK1 name ⟨⟨ve,vl,vb⟩,true⟩ p
     refine⟨N2,lA (wT _ _ _ _ _) ?_⟩
     simp only [mT.cells] at h132
     simp only [TR.bind]
     cases hr2:Ap N name ⟨⟨ve,vl,vb⟩,true⟩ p with
     | bad e q =>
      rw [hr2] at h132
      simp -implicitDefEqProofs [zZ,yG,hK,h164,h132,TR.bind,kT,htr,htr0]
     | ok N1 =>
      rw [hr2] at h132
      simp -implicitDefEqProofs [zZ,yG,hK,h164,h132,TR.bind,kT,htr,htr0]
  ·-- var
   have h0:args=[]:=List.length_eq_zero_iff.1 (by simpa using hlen)
   subst h0
   obtain⟨N2,h132⟩:=an9 (F:=F) (f:=f) (N:=N) hK1 name ⟨⟨te,tl,tb⟩,false⟩ p
   simp only [mT.cells,GS.cells,al1,ag1,ae7,ah4] at h132 htr htr0 hK1 ⊢
   rw [yZ,if_neg (by decide),if_pos rfl]
   cases hr2:Ap N name ⟨⟨te,tl,tb⟩,false⟩ p with
   | bad e q =>
    rw [hr2] at h132
    refine⟨N2,lA (wT _ _ _ _ _) ?_⟩
    simp -implicitDefEqProofs [zZ,hK,h132,TR.bind,kT,htr,htr0]
   | ok N1 =>
    rw [hr2] at h132
    refine⟨N1,lA (wT _ _ _ _ _) ?_⟩
    by_cases h1:tl≤16384 <;> simp -implicitDefEqProofs [zZ,hK,h132,h131,h1,rG,TR.bind,kT,htr,htr0]
  ·-- set
   match args,hlen,hv with
   | [y],_,hv =>
    have h164:=hv N y (by simp)
    have h165:=fun B hK=>afM (A:=A) (Q:=Q) (F:=F) (f:=f) (N:=N) (B:=B) hK name p
    unfold QW at h164
    obtain⟨yk,yp,yn,ym,ya⟩:=y
    simp only [GS.cells,GE.cells,ai3,al1,ag1,ae7,ah4] at h164 htr htr0 hK1 ⊢
    rw [yZ,if_neg (by decide),if_neg (by decide),if_pos rfl]
    show ∃N',_=some (stR A F f Q B N' ((xB F N (.mk yk yp yn ym ya)).bind fun v=>(vV N name p).bind fun t=>(rG (t.ty.len == 0 && !t.fixed && t.ty.elem == v.elem) 14 p).bind fun _=>(rG (q9 v.label t.ty.label) 15 p).bind fun _=>.ok N))
    refine⟨N,lA (wT _ _ _ _ _) ?_⟩
    cases hr1:xB F N (.mk yk yp yn ym ya) with
    | bad e q =>
     rw [hr1] at h164
     simp -implicitDefEqProofs [zZ,yG,hK,h164,TR.bind,kT,htr,htr0]
    | ok v =>
     rw [hr1] at h164
     obtain⟨ve,vl,vb⟩:=v
     cases hr3:vV N name p with
     | bad e q =>
      rw [hr3] at h165
      simp -implicitDefEqProofs [zZ,yG,hK,h164,h165,TR.bind,kT,htr,htr0]
     | ok t =>
      rw [hr3] at h165
      obtain⟨⟨ue,ul,ub⟩,fx⟩:=t
      by_cases h1:ul=0
      ·cases fx
       ·by_cases h2:ue=ve
        ·cases h3:q9 vb ub <;> simp -implicitDefEqProofs [zZ,yG,hK,h164,h165,h131,h166,h1,h2,h3,rG,TR.bind,kT,htr,htr0]
        ·simp -implicitDefEqProofs [zZ,yG,hK,h164,h165,h131,h166,h1,h2,rG,TR.bind,kT,htr,htr0]
       ·simp -implicitDefEqProofs [zZ,yG,hK,h164,h165,h131,h166,h1,rG,TR.bind,kT,htr,htr0]
      ·simp -implicitDefEqProofs [zZ,yG,hK,h164,h165,h131,h166,h1,rG,TR.bind,kT,htr,htr0]
  ·-- store
   match args,hlen,hv with
   | [x,y],_,hv =>
    have h167:=fun B hK=>aI8 (B:=B) (F:=F) (f:=f) (N:=N) hK p m name ⟨te,tl,tb⟩ x y body els has (hv N x (by simp)) (hv N y (by simp))
    simp only [GS.cells,ai3,al1,ag1,ae7,ah4] at h167 htr htr0 hK1 ⊢
    rw [yZ,if_neg (by decide),if_neg (by decide),if_neg (by decide),if_pos rfl,ajM]
    have e:((Ia F N 0 x).bind fun _=>(Gf F N [x,y].tail).bind fun v=>(vV N name p).bind fun t=>(rG (decide (0 < t.ty.len) && !t.fixed && v.elem == 0) 14 p).bind fun _=>(rG (q9 v.label t.ty.label) 15 p).bind fun _=>.ok N)=(Ot F N p name x y).bind fun _=>.ok N:=by
     unfold Ot
     show((Ia F N 0 x).bind fun _=>(xB F N y).bind fun v=>(vV N name p).bind fun t=>(rG (decide (0 < t.ty.len) && !t.fixed && v.elem == 0) 14 p).bind fun _=>(rG (q9 v.label t.ty.label) 15 p).bind fun _=>TR.ok N)=_
     cases Ia F N 0 x with
     | bad e q=>rfl
     | ok _ =>
      simp only [TR.bind]
      cases xB F N y with
      | bad e q=>rfl
      | ok v =>
       simp only
       cases vV N name p with
       | bad e q=>rfl
       | ok t =>
        simp only
        cases rG (decide (0 < t.ty.len) && !t.fixed && v.elem == 0) 14 p <;> rfl
    rw [e]
    refine⟨N,lA (wT _ _ _ _ _) ?_⟩
    cases hr1:Ot F N p name x y with
    | bad e q =>
     rw [hr1] at h167
     simp -implicitDefEqProofs [zZ,hK,h167,TR.bind,kT,htr,htr0]
    | ok _ =>
     rw [hr1] at h167
     simp -implicitDefEqProofs [zZ,hK,h167,TR.bind,kT,htr,htr0]
  ·-- if
   match args,hlen,hv with
   | [x],_,hv =>
    have h168:=fun B hK=>aoB (A:=A) (Q:=Q) (F:=F) (f:=f) (N:=N) (B:=B) hK x 1 (hv N x (by simp))
    have h169b:=fun N=>ayO (F:=F) (f:=f) hK1 body hB (by omega) N
    have h169e:=fun N=>ayO (F:=F) (f:=f) hK1 els hE (by omega) N
    obtain⟨xk,xp,xn,xm,xa⟩:=x
    simp only [GS.cells,GE.cells,awG,ai3,al1,ag1,ae7,ah4] at h168 h169b h169e htr htr0 hK1 ⊢
    rw [yZ,if_neg (by decide),if_neg (by decide),if_neg (by decide),if_neg (by decide),if_pos rfl,ajM]
    cases hr1:Ia F N 1 (.mk xk xp xn xm xa) with
    | bad e q =>
     rw [hr1] at h168
     refine⟨N,lA (wT _ _ _ _ _) ?_⟩
     simp -implicitDefEqProofs [zZ,yG,hK,h168,TR.bind,kT,htr,htr0]
    | ok _ =>
     rw [hr1] at h168
     obtain⟨N2,h1⟩:=h169b N
     simp only [TR.bind]
     cases hr2:tG F f N body with
     | bad e q =>
      rw [hr2] at h1
      simp only [TR.bind] at h1
      refine⟨N2,lA (wT _ _ _ _ _) ?_⟩
      simp -implicitDefEqProofs [zZ,yG,hK,h168,h1,TR.bind,kT,htr,htr0]
     | ok N1 =>
      rw [hr2] at h1
      simp only [TR.bind] at h1
      obtain⟨N3,h2⟩:=h169e (zM body N1)
      refine⟨N3,lA (wT _ _ _ _ _) ?_⟩
      cases hr3:tG F f (zM body N1) els with
      | bad e q =>
       rw [hr3] at h2
       simp only [TR.bind] at h2
       simp -implicitDefEqProofs [zZ,yG,hK,h168,h1,h2,hr3,TR.bind,kT,htr,htr0]
      | ok N4 =>
       rw [hr3] at h2
       simp only [TR.bind] at h2
       simp -implicitDefEqProofs [zZ,yG,hK,h168,h1,h2,hr3,TR.bind,kT,htr,htr0]
  ·-- for
   match args,hlen,hv with
   | [x],_,hv =>
    have h168:=fun B hK=>aoB (A:=A) (Q:=Q) (F:=F) (f:=f) (N:=N) (B:=B) hK x 0 (hv N x (by simp))
    have h169b:=fun N=>ayO (F:=F) (f:=f) hK1 body hB (by omega) N
    obtain⟨N2,h132⟩:=an9 (F:=F) (f:=f) (N:=N) hK1 name ⟨GT.zero,true⟩ p
    have hdel:=fun N B s=>aeL (A:=A) (Q:=Q) (F:=F) (f:=f) (N:=N) (B:=B) (s:=s)
    obtain⟨xk,xp,xn,xm,xa⟩:=x
    simp only [mT.cells,GT.zero,GS.cells,GE.cells,awG,ai3,al1,ag1,ae7,ah4] at h132 h168 h169b htr htr0 hK1 ⊢
    rw [yZ,if_neg (by decide),if_neg (by decide),if_neg (by decide),if_neg (by decide),if_neg (by decide),if_pos rfl,ajM]
    simp only [GT.zero]
    cases hr1:Ia F N 0 (.mk xk xp xn xm xa) with
    | bad e q =>
     rw [hr1] at h168
     refine⟨N,lA (wT _ _ _ _ _) ?_⟩
     simp -implicitDefEqProofs [zZ,yG,hK,h168,TR.bind,kT,htr,htr0]
    | ok _ =>
     rw [hr1] at h168
     simp only [TR.bind]
     cases hr2:Ap N name ⟨⟨0,0,0⟩,true⟩ p with
     | bad e q =>
      rw [hr2] at h132
      refine⟨N2,lA (wT _ _ _ _ _) ?_⟩
      simp -implicitDefEqProofs [zZ,yG,hK,h168,h132,TR.bind,kT,htr,htr0]
     | ok N1 =>
      rw [hr2] at h132
      by_cases hmost:m≤65536
      ·obtain⟨N3,h1⟩:=h169b N1
       refine⟨N3,lA (wT _ _ _ _ _) ?_⟩
       cases hr3:tG F f N1 body with
       | bad e q =>
        rw [hr3] at h1
        simp only [TR.bind] at h1
        simp -implicitDefEqProofs [zZ,yG,hK,h168,h132,h131,hmost,rG,h1,hr3,TR.bind,kT,htr,htr0]
       | ok N4 =>
        rw [hr3] at h1
        simp only [TR.bind] at h1
        simp -implicitDefEqProofs [zZ,yG,hK,h168,h132,h131,hmost,rG,h1,hr3,hdel,TR.bind,kT,htr,htr0]
      ·refine⟨N1,lA (wT _ _ _ _ _) ?_⟩
       simp -implicitDefEqProofs [zZ,yG,hK,h168,h132,h131,hmost,rG,TR.bind,kT,htr,htr0]
  ·-- call
   match args,hlen,hv,hcall with
   | [x],_,hv,hcall =>
    have hxk:x.kind=4:=by simpa [PO] using hcall rfl
    have hxl:x.args.length≤4611686018427387904:=by
     have h1:=hlE x.args
     cases x with
     | mk xk xp xn xm xa =>
      simp only [GE.nJ,GE.size,GE.args] at hb h1 ⊢
      omega
    have hxv:∀z∈x.args,QW A Q F f N z:=fun z hz=>by
     have h1:=ae8.1 hwa x (by simp)
     cases x with
     | mk xk xp xn xm xa =>
      simp only [nT,ac5] at h1
      have h2:=h1.2
      rw [wC] at h2
      have h3:=GE.oO (l:=xa) hz
      simp only [GE.nJ,GE.size] at hb
      exact ayM z.size z (ab6 _) (ae8.1 h2 z hz) (by omega)
    have h170:=fun B hK=>aEq (A:=A) (Q:=Q) (F:=F) (f:=f) (N:=N) (B:=B) hK x hxv hxl
    obtain⟨xk,xp,xn,xm,xa⟩:=x
    simp only [GS.cells,GE.cells,ai3,al1,ag1,ae7,ah4] at h170 htr htr0 hK1 ⊢
    rw [yZ,if_neg (by decide),if_neg (by decide),if_neg (by decide),if_neg (by decide),if_neg (by decide),if_neg (by decide),if_pos rfl]
    refine⟨N,lA (wT _ _ _ _ _) ?_⟩
    cases hr1:Cd F N (.mk xk xp xn xm xa) with
    | bad e q =>
     rw [hr1] at h170
     simp -implicitDefEqProofs [zZ,yG,hK,h170,TR.bind,kT,htr,htr0]
    | ok g =>
     rw [hr1] at h170
     simp -implicitDefEqProofs [zZ,yG,hK,h170,TR.bind,kT,htr,htr0]
  ·-- return
   match args,hlen,hv with
   | [y],_,hv =>
    have h164:=hv N y (by simp)
    unfold QW at h164
    obtain⟨yk,yp,yn,ym,ya⟩:=y
    simp only [GS.cells,GE.cells,ai3,al1,ag1,ae7,ah4] at h164 htr htr0 hK1 ⊢
    rw [yZ,if_neg (by decide),if_neg (by decide),if_neg (by decide),if_neg (by decide),if_neg (by decide),if_neg (by decide),if_neg (by decide),if_pos rfl]
    show ∃N',_=some (stR A F f Q B N' ((xB F N (.mk yk yp yn ym ya)).bind fun v=>(rG (last && f.has && v.elem == f.result.elem) 14 p).bind fun _=>(rG (q9 v.label f.result.label) 15 p).bind fun _=>.ok N))
    refine⟨N,lA (wT _ _ _ _ _) ?_⟩
    cases hr1:xB F N (.mk yk yp yn ym ya) with
    | bad e q =>
     rw [hr1] at h164
     simp -implicitDefEqProofs [zZ,yG,hK,h164,TR.bind,kT,htr,htr0]
    | ok v =>
     rw [hr1] at h164
     obtain⟨ve,vl,vb⟩:=v
     cases last
     ·simp -implicitDefEqProofs [zZ,yG,hK,h164,h131,h166,rG,TR.bind,kT,htr,htr0]
     ·cases hh:f.has
      ·simp -implicitDefEqProofs [zZ,yG,hK,h164,h131,h166,hh,rG,TR.bind,kT,htr,htr0]
      ·by_cases h2:ve=f.result.elem
       ·cases h3:q9 vb f.result.label <;> simp -implicitDefEqProofs [zZ,yG,hK,h164,h131,h166,hh,h2,h3,rG,TR.bind,kT,htr,htr0]
       ·simp -implicitDefEqProofs [zZ,yG,hK,h164,h131,h166,hh,h2,rG,TR.bind,kT,htr,htr0]
end
end
section
open Go Hk
def OkN (F:Kn):Prop:=∀p∈F,0≤p.2.2∧p.2.2≤65537
theorem Qd {F:Kn}(hF:OkN F) {s:List UInt8}{g:GF}{c:Int}(h:look F s=some (g,c)):0≤c∧c≤65537:=by
 induction F with
 | nil=>cases h
 | cons a r ih =>
  obtain⟨n,t⟩:=a
  have h:(if n=s then some t else look r s)=some (g,c):=h
  split at h
  ·cases h
   exact hF (n,(g,c)) (by simp)
  ·exact ih (fun p hp=>hF p (by simp [hp])) h
section
variable {F:Kn}(hF:OkN F)
include hF
mutual
theorem Yu:∀x:GE,1≤Ai F x∧Ai F x≤131075
 | .mk k p n name args=>by
  have h:=EP args 0 (by decide) (by decide)
  rw [Ai]
  split
  ·cases hl:look F name with
   | none=>simp only; omega
   | some a =>
    obtain⟨g,c⟩:=a
    have:=Qd hF hl
    simp only; omega
  ·omega
theorem EP:∀(l:List GE) (n:Int),0≤n→n≤65537→0≤oX F l n∧oX F l n≤65537
 | [],n,h1,h2=>by rw [oX]; exact⟨h1,h2⟩
 | x::r,n,h1,h2=>by
  have h:=Yu x
  rw [oX]
  exact EP r _ (by unfold D6; omega) (by unfold D6; omega)
end
end
section
variable {A Q B:List lG}{F:Kn}{f:GF}{N:Nm mT}
theorem ayC (hK:KT A Q B) (n:Int):KK 134 [.ptr (A.length+1) 0,.int .i64 n] (TQ A F f Q N B)=some (.ret (.int .i64 (D6 n)),TQ A F f Q N B):=by
 refine lA (aqG _ _ _ _) ?_
 simp -implicitDefEqProofs [aFa,hK,D6]
def EsC (A Q:List lG) (F:Kn) (f:GF) (N:Nm mT) (l:List GE):Prop:=∀B,KT A Q B→KK 171 [.ptr (A.length+1) 0,.slice (l.map GE.cells) .no] (TQ A F f Q N B)=some (.ret (.int .i64 (oX F l 0)),TQ A F f Q N B)
theorem Jc (hF:OkN F) (hK:KT A Q B) (l:List GE) (ih:∀x∈l,EsC A Q F f N x.args) (hl:l.length≤4611686018427387904):∀(u:List GE) (i:Nat) (n:Int),l.drop i=u→i≤l.length→0≤n→n≤65537 →
  mJ (FF KK (TN A Q B)) ([.ptr (A.length+1) 0,.int .i64 0,.int .i64 n,.slice (l.map GE.cells) .no,.int .i64 (l.length:Int),.int .i64 (i:Int)],TQ A F f Q N B) =
   some (.exit 0,[.ptr (A.length+1) 0,.int .i64 0,.int .i64 (oX F u n),.slice (l.map GE.cells) .no,.int .i64 (l.length:Int),.int .i64 (l.length:Int)],TQ A F f Q N B)
 | [],i,n,hd,hi,_,_=>by
  have hge:l.length≤i:=by simpa using hd
  have e:i=l.length:=by omega
  subst e
  have htr:=tQ (F:=F) (f:=f) (N:=N) hK
  have q0:∀h,kM.mP (TN A Q B) h (.ptr (A.length+1) 0)=.ptr (A.length+1) 0:=fun h=>lE (by unfold TN; omega)
  rw [l9]
  simp -implicitDefEqProofs [FF,oX,kT,htr,q0]
 | x::u,i,n,hd,hi,hn1,hn2=>by
  have hlt:i < l.length:=by
   rcases Nat.lt_or_ge i l.length with hx | hx
   ·exact hx
   ·rw [aj0 hx] at hd; cases hd
  have ha:=ae6 hlt
  rw [hd] at ha
  have hx:l[i]'hlt=x:=(List.cons.inj ha).1.symm
  have hd3:l.drop (i+1)=u:=(List.cons.inj ha).2.symm
  have w1:=rR (a:=i) (by omega)
  have hb:=Yu hF x
  have hrec:=Jc hF hK l ih hl u (i+1) (D6 (n+Ai F x)) hd3 hlt (by unfold D6; omega) (by unfold D6; omega)
  have h171:=ih x (hx ▸ List.getElem_mem hlt)
  obtain⟨xk,xp,xn,xm,xa⟩:=x
  unfold EsC at h171
  have hba:=EP hF xa 0 (by decide) (by decide)
  have hK1:KT A Q (B++[.cells (GE.cells (.mk xk xp xn xm xa)),.front 0 0]):=hK.app (by simp [GE.cells])
  have htr:=fun N C=>wX (F:=F) (f:=f) (N:=N) (C:=C) hK
  have htr1:=fun N=>tQ (F:=F) (f:=f) (N:=N) hK1
  have hm1:TN A Q (B++[.cells (GE.cells (.mk xk xp xn xm xa)),.front 0 0])=TN A Q B+2:=by simp
  rw [hm1] at htr1
  have q0:∀h,kM.mP (TN A Q B) h (.ptr (A.length+1) 0)=.ptr (A.length+1) 0:=fun h=>lE (by unfold TN; omega)
  have q1:∀h,kM.mP (TN A Q B+2) h (.ptr (A.length+1) 0)=.ptr (A.length+1) 0:=fun h=>lE (by unfold TN; omega)
  have h134:=fun B hK n=>ayC (A:=A) (Q:=Q) (F:=F) (f:=f) (N:=N) (B:=B) hK n
  have e1:IntKind.wrap .i64 (1+oX F xa 0)=1+oX F xa 0:=by rw [wrap64] <;> omega
  have e2:IntKind.wrap .i64 (n+(1+oX F xa 0))=n+(1+oX F xa 0):=by rw [wrap64] <;> omega
  simp only [GE.cells,GE.nN,GE.args,af8,ab9,ag1,ae7,ah4] at h171 hrec htr1 hK1 ⊢
  rw [l9,oX]
  by_cases hk:xk=4
  ·subst hk
   cases hl2:look F xm with
   | none =>
    have e3:IntKind.wrap .i64 (n+(1+oX F xa 0)+0)=n+(1+oX F xa 0):=by rw [wrap64] <;> omega
    have e5:Ai F (.mk 4 xp xn xm xa)=1+oX F xa 0:=by rw [Ai,if_pos rfl,hl2]; simp
    rw [e5] at hrec ⊢
    simp -implicitDefEqProofs [FF,hlt,hx,GE.cells,GE.nN,h171,hK,kT,htr,htr1,q0,q1,w1,e1,e2,e3,hl2,h134,hrec]
   | some a =>
    obtain⟨⟨gp,gn,gps,gh,⟨ge,gl,gb⟩,gbody⟩,c⟩:=a
    have hc:=Qd hF hl2
    have e3:IntKind.wrap .i64 (n+(1+oX F xa 0)+c)=n+(1+oX F xa 0+c):=by rw [wrap64] <;> omega
    have e5:Ai F (.mk 4 xp xn xm xa)=1+oX F xa 0+c:=by rw [Ai,if_pos rfl,hl2]
    rw [e5] at hrec ⊢
    simp -implicitDefEqProofs [FF,hlt,hx,GE.cells,GE.nN,h171,hK,kT,htr,htr1,q0,q1,w1,e1,e2,e3,hl2,h134,hrec]
  ·have e5:Ai F (.mk xk xp xn xm xa)=1+oX F xa 0:=by rw [Ai,if_neg hk]; omega
   rw [e5] at hrec ⊢
   simp -implicitDefEqProofs [FF,hlt,hx,GE.cells,GE.nN,h171,hK,kT,htr,htr1,q0,q1,w1,e1,e2,hk,h134,hrec]
theorem aI9 (hF:OkN F):∀(M:Nat) (l:List GE),GE.nJ l≤M→GE.nJ l≤4611686018427387904→EsC A Q F f N l:=by
 have hlE:∀l:List GE,l.length≤GE.nJ l:=fun l=>by
  induction l with
  | nil=>exact ah8 _
  | cons x r ih =>
   have:1≤x.size:=by cases x; simp only [GE.size]; omega
   simp only [ac1,GE.nJ]; omega
 intro M
 induction M with
 | zero =>
  intro l h1 h2 B hK
  have h3:=hlE l
  obtain rfl:=List.length_eq_zero_iff.1 (by omega:l.length=0)
  have hlp:=Jc (f:=f) (N:=N) hF hK [] (fun x hx=>by cases hx) (ah8 _) [] 0 0 rfl (ah8 _) (by decide) (by decide)
  refine lA (Y8 _ _ _ _) ?_
  simp only [ac6,al1,ab9] at hlp
  simp -implicitDefEqProofs [aAr,hK,hlp]
 | succ M ihM =>
  intro l h1 h2 B hK
  have h3:=hlE l
  have hlp:=Jc (f:=f) (N:=N) hF hK l (fun x hx=>by
   have h4:=GE.oO hx
   cases x with
   | mk k p n nm args =>
    simp only [GE.size] at h4
    exact ihM args (by omega) (by omega)) (by omega) l 0 0 rfl (ah8 _) (by decide) (by decide)
  refine lA (Y8 _ _ _ _) ?_
  simp only [ab9] at hlp
  simp -implicitDefEqProofs [aAr,hK,hlp]
end
end
section
open Go Hk
theorem akH {k m:Int}{name:List UInt8}{ty:GT}{args:List GE}{nb ne:Nat}{has:Bool}(h:lR k m name ty args nb ne has=true):(0≤ty.len∧ty.len≤4294967295)∧(k=6→0≤m∧m≤4294967295):=by
 unfold lR at h
 split at h
 ·cases h
 ·simp only [ac5] at h
  obtain⟨⟨⟨⟨⟨⟨⟨⟨a1,a2⟩,a3⟩,a4⟩,a5⟩,a6⟩,a7⟩,a8⟩,a9⟩:=h
  refine⟨?_,fun hk=>?_⟩
  ·by_cases hk:(k == 2)=true
   ·rw [if_pos hk] at a5
    unfold sJ at a5
    simp only [ac5] at a5
    simpa [zB] using a5.1.2
   ·rw [if_neg hk] at a5
    have:ty=GT.zero:=by simpa using a5
    subst this
    exact⟨by decide,by decide⟩
  ·subst hk
   simpa [lB,zB] using a4
theorem av2 {m b:Int}(h1:0≤m) (h2:m≤4294967295) (h3:0≤b) (h4:b≤65537):0≤(m+1) * (1+b)∧(m+1) * (1+b)≤281483566645248:=by
 refine⟨Int.mul_nonneg (by omega) (by omega),?_⟩
 have:=Int.mul_le_mul (a:=m+1) (b:=1+b) (c:=4294967296) (d:=65538) (by omega) (by omega) (by omega) (by omega)
 omega
section
variable {F:Kn}(hF:OkN F)
include hF
mutual
theorem ZF:∀x:GS,pX x=true→1≤Bj F x∧Bj F x≤300000000000000
 | .mk k p m name ty args body els has,h=>by
  simp only [pX,ac5] at h
  obtain⟨⟨h1,h2⟩,h3⟩:=akH h.1.1
  have e1:=EP hF args 0 (by decide) (by decide)
  have e2:=Ct body 0 h.1.2 (by decide) (by decide)
  have e3:=Ct els 0 h.2 (by decide) (by decide)
  rw [Bj]
  by_cases hk:k=6
  ·have:=av2 (h3 hk).1 (h3 hk).2 e2.1 e2.2
   rw [if_pos hk]; omega
  ·rw [if_neg hk]; omega
theorem Ct:∀(l:List GS) (n:Int),nW l=true→0≤n→n≤65537→0≤oY F l n∧oY F l n≤65537
 | [],n,_,h1,h2=>by rw [oY]; exact⟨h1,h2⟩
 | x::r,n,h,h1,h2=>by
  simp only [nW,ac5] at h
  have hx:=ZF x h.1
  rw [oY]
  exact Ct r _ h.2 (by unfold D6; omega) (by unfold D6; omega)
end
end
section
variable {A Q B:List lG}{F:Kn}{f:GF}{N:Nm mT}
def SsC (A Q:List lG) (F:Kn) (f:GF) (N:Nm mT) (l:List GS):Prop:=∀B,KT A Q B→KK 135 [.ptr (A.length+1) 0,.slice (l.map GS.cells) .no] (TQ A F f Q N B)=some (.ret (.int .i64 (oY F l 0)),TQ A F f Q N B)
theorem Jb (hF:OkN F) (hK:KT A Q B) (l:List GS) (hw:∀x∈l,pX x=true) (ihA:∀x∈l,EsC A Q F f N x.args) (ihB:∀x∈l,SsC A Q F f N x.body) (ihE:∀x∈l,SsC A Q F f N x.els) (hl:l.length≤4611686018427387904):∀(u:List GS) (i:Nat) (n:Int),l.drop i=u→i≤l.length→0≤n→n≤65537 →
  mJ (HK KK (TN A Q B)) ([.ptr (A.length+1) 0,.int .i64 0,.int .i64 n,.slice (l.map GS.cells) .no,.int .i64 (l.length:Int),.int .i64 (i:Int)],TQ A F f Q N B) =
   some (.exit 0,[.ptr (A.length+1) 0,.int .i64 0,.int .i64 (oY F u n),.slice (l.map GS.cells) .no,.int .i64 (l.length:Int),.int .i64 (l.length:Int)],TQ A F f Q N B)
 | [],i,n,hd,hi,_,_=>by
  have hge:l.length≤i:=by simpa using hd
  have e:i=l.length:=by omega
  subst e
  have htr:=tQ (F:=F) (f:=f) (N:=N) hK
  have q0:∀h,kM.mP (TN A Q B) h (.ptr (A.length+1) 0)=.ptr (A.length+1) 0:=fun h=>lE (by unfold TN; omega)
  rw [l9]
  simp -implicitDefEqProofs [HK,oY,kT,htr,q0]
 | x::u,i,n,hd,hi,hn1,hn2=>by
  have hlt:i < l.length:=by
   rcases Nat.lt_or_ge i l.length with hx | hx
   ·exact hx
   ·rw [aj0 hx] at hd; cases hd
  have ha:=ae6 hlt
  rw [hd] at ha
  have hx:l[i]'hlt=x:=(List.cons.inj ha).1.symm
  have hd3:l.drop (i+1)=u:=(List.cons.inj ha).2.symm
  have hmem:x∈l:=hx ▸ List.getElem_mem hlt
  have hwx:=hw x hmem
  have w1:=rR (a:=i) (by omega)
  have hb:=ZF hF x hwx
  have hrec:=Jb hF hK l hw ihA ihB ihE hl u (i+1) (D6 (n+Bj F x)) hd3 hlt (by unfold D6; omega) (by unfold D6; omega)
  have h171:=ihA x hmem
  have h135:=ihB x hmem
  have h135':=ihE x hmem
  obtain⟨xk,xp,xm,xn,⟨te,tl,tb⟩,xa,xb,xe,xh⟩:=x
  unfold EsC at h171
  unfold SsC at h135 h135'
  simp only [pX,ac5] at hwx
  obtain⟨⟨t1,t2⟩,t3⟩:=akH hwx.1.1
  simp only at t1 t2
  have ea:=EP hF xa 0 (by decide) (by decide)
  have eb:=Ct hF xb 0 hwx.1.2 (by decide) (by decide)
  have ee:=Ct hF xe 0 hwx.2 (by decide) (by decide)
  have hK1:KT A Q (B++[.cells (GS.cells (.mk xk xp xm xn ⟨te,tl,tb⟩ xa xb xe xh)),.front 0 0,.front 0 0,.front 0 0]):=hK.app (by simp [GS.cells])
  have htr:=fun N C=>wX (F:=F) (f:=f) (N:=N) (C:=C) hK
  have htr1:=fun N=>tQ (F:=F) (f:=f) (N:=N) hK1
  have hm1:TN A Q (B++[.cells (GS.cells (.mk xk xp xm xn ⟨te,tl,tb⟩ xa xb xe xh)),.front 0 0,.front 0 0,.front 0 0])=TN A Q B+4:=by simp
  rw [hm1] at htr1
  have q0:∀h,kM.mP (TN A Q B) h (.ptr (A.length+1) 0)=.ptr (A.length+1) 0:=fun h=>lE (by unfold TN; omega)
  have q1:∀h,kM.mP (TN A Q B+4) h (.ptr (A.length+1) 0)=.ptr (A.length+1) 0:=fun h=>lE (by unfold TN; omega)
  have q2:∀h,kM.mP (TN A Q B+4) h (.ptr (TN A Q B) 0)=.ptr (TN A Q B) 0:=fun h=>lE (by omega)
  have h134:=fun B hK n=>ayC (A:=A) (Q:=Q) (F:=F) (f:=f) (N:=N) (B:=B) hK n
  have e1:IntKind.wrap .i64 (1+oX F xa 0)=1+oX F xa 0:=by rw [wrap64] <;> omega
  have e2:IntKind.wrap .i64 (1+oX F xa 0+tl)=1+oX F xa 0+tl:=by rw [wrap64] <;> omega
  have e3:IntKind.wrap .i64 (n+(1+oX F xa 0+tl))=n+(1+oX F xa 0+tl):=by rw [wrap64] <;> omega
  simp only [GS.cells,GS.nN,GS.args,GS.body,GS.els,af8,ab9,ag1,ae7,ah4] at h171 h135 h135' hrec htr1 hK1 ⊢
  rw [l9,oY]
  by_cases hk:xk=6
  ·subst hk
   have hm:=t3 rfl
   have hmul:=av2 hm.1 hm.2 eb.1 eb.2
   have e4:IntKind.wrap .i64 (xm+1)=xm+1:=by rw [wrap64] <;> omega
   have e5:IntKind.wrap .i64 (1+oY F xb 0)=1+oY F xb 0:=by rw [wrap64] <;> omega
   have e6:IntKind.wrap .i64 ((xm+1) * (1+oY F xb 0))=(xm+1) * (1+oY F xb 0):=by rw [wrap64] <;> omega
   have e9:Bj F (.mk 6 xp xm xn ⟨te,tl,tb⟩ xa xb xe xh)=(1+oX F xa 0+tl)+(xm+1) * (1+oY F xb 0)+oY F xe 0:=by rw [Bj,if_pos rfl]
   rw [e9] at hrec ⊢
   obtain⟨W,hW⟩:∃W,W=(xm+1) * (1+oY F xb 0):=⟨_,rfl⟩
   rw [←hW] at hmul hrec ⊢
   have e7:IntKind.wrap .i64 (n+(1+oX F xa 0+tl)+W)=n+(1+oX F xa 0+tl)+W:=by rw [wrap64] <;> omega
   have e8:IntKind.wrap .i64 (n+(1+oX F xa 0+tl)+W+oY F xe 0)=n+(1+oX F xa 0+tl+W+oY F xe 0):=by rw [wrap64] <;> omega
   have e6':IntKind.wrap .i64 ((xm+1) * (1+oY F xb 0))=W:=by rw [e6,hW]
   simp -implicitDefEqProofs [HK,hlt,hx,GS.cells,GS.nN,h171,h135,h135',hK,kT,htr,htr1,q0,q1,q2,w1,e1,e2,e3,e4,e5,e6',e7,e8,h134,hrec]
  ·have e9:Bj F (.mk xk xp xm xn ⟨te,tl,tb⟩ xa xb xe xh)=(1+oX F xa 0+tl)+oY F xb 0+oY F xe 0:=by rw [Bj,if_neg hk]
   rw [e9] at hrec ⊢
   have e7:IntKind.wrap .i64 (n+(1+oX F xa 0+tl)+oY F xb 0)=n+(1+oX F xa 0+tl)+oY F xb 0:=by rw [wrap64] <;> omega
   have e8:IntKind.wrap .i64 (n+(1+oX F xa 0+tl)+oY F xb 0+oY F xe 0)=n+(1+oX F xa 0+tl+oY F xb 0+oY F xe 0):=by rw [wrap64] <;> omega
   simp -implicitDefEqProofs [HK,hlt,hx,GS.cells,GS.nN,h171,h135,h135',hK,kT,htr,htr1,q0,q1,q2,w1,e1,e2,e3,e7,e8,hk,h134,hrec]
theorem aIY (hF:OkN F):∀(M:Nat) (l:List GS),GS.nJ l≤M→nW l=true→GS.nJ l≤4611686018427387904→SsC A Q F f N l:=by
 have hlS:∀l:List GS,l.length≤GS.nJ l:=fun l=>by
  induction l with
  | nil=>exact ah8 _
  | cons x r ih =>
   have:1≤x.size:=by cases x; simp only [GS.size]; omega
   simp only [ac1,GS.nJ]; omega
 intro M
 induction M with
 | zero =>
  intro l h1 hw h2 B hK
  have h3:=hlS l
  obtain rfl:=List.length_eq_zero_iff.1 (by omega:l.length=0)
  have hlp:=Jb (f:=f) (N:=N) hF hK [] (fun x hx=>by cases hx) (fun x hx=>by cases hx) (fun x hx=>by cases hx) (fun x hx=>by cases hx) (ah8 _) [] 0 0 rfl (ah8 _) (by decide) (by decide)
  refine lA (Y0 _ _ _ _) ?_
  simp only [ac6,al1,ab9] at hlp
  simp -implicitDefEqProofs [aAd,hK,hlp]
 | succ M ihM =>
  intro l h1 hw h2 B hK
  have h3:=hlS l
  rw [wD] at hw
  have hwl:=fun x hx=>ae8.1 hw x hx
  have hlp:=Jb (f:=f) (N:=N) hF hK l hwl (fun x hx=>by
   have h4:=GS.oO hx
   cases x with
   | mk k p m name ty args body els has =>
    simp only [GS.size] at h4
    exact aI9 hF _ args (ab6 _) (by omega)) (fun x hx=>by
   have h4:=GS.oO hx
   have h5:=hwl x hx
   cases x with
   | mk k p m name ty args body els has =>
    simp only [GS.size] at h4
    simp only [pX,ac5] at h5
    exact ihM body (by omega) h5.1.2 (by omega)) (fun x hx=>by
   have h4:=GS.oO hx
   have h5:=hwl x hx
   cases x with
   | mk k p m name ty args body els has =>
    simp only [GS.size] at h4
    simp only [pX,ac5] at h5
    exact ihM els (by omega) h5.2 (by omega)) (by omega) l 0 0 rfl (ah8 _) (by decide) (by decide)
  refine lA (Y0 _ _ _ _) ?_
  simp only [ab9] at hlp
  simp -implicitDefEqProofs [aAd,hK,hlp]
end
end
section
open Go Hk
section
variable {A C:List lG}{F:Kn}{f:List kM}{w:kM}
attribute [local simp] IC Gl B7 LV ID LW K9 EA Fl LX Fm aDT adV Tc afZ af1
theorem Yk {ids:List Nat}{x:Option R}{B D:List lG}(h:B <+: D):IA ids (FQ A F w f B) (FQ A F w f D) x=x:=by
 obtain⟨E,rfl⟩:=h
 exact afZ
theorem aoH {ids:List Nat}{x:Option R}{a:lG}{D:List lG}:IA ids (FQ A F w f (C++[a])) (FQ A F w f (C++a::D)) x=x:=Yk ⟨D,by simp⟩
theorem aoI {ids:List Nat}{x:Option R}{a b c d e:lG}:IA ids (FQ A F w f (C++[a,b,c,d])) (FQ A F w f (C++[a,b,c,d,e])) x=x:=Yk ⟨[e],by simp⟩
theorem LU {a b:Nat}:FN A C+a+b=FN A C+(a+b):=Nat.add_assoc _ _ _
attribute [local simp] aoH aoI LU
def qF (A C:List lG) (g:GF):List lG:=C++[.cells g.cells,.cells [.int .i64 0,.str [],.slice [] (.own (FN A C+2)),.bool false,.int .i64 0,.int .i64 0,.int .i64 0,.slice [] (.own (FN A C+3)),.int .i64 0],.front 0 0,.front 0 0]
theorem len8 {f:List kM}(h:f.length=8):∃x0 x1 x2 x3 x4 x5 x6 x7,f=[x0,x1,x2,x3,x4,x5,x6,x7]:=by
 match f,h with
 | [x0,x1,x2,x3,x4,x5,x6,x7],_=>exact⟨x0,x1,x2,x3,x4,x5,x6,x7,rfl⟩
theorem auJ (hK:FK A C w f) (g:GF):KT A (qF A C g) []:=by
 have hn:TN A (qF A C g) []=FN A C+5:=by simp [TN,FN,qF]; omega
 refine⟨fun n h=>?_,fun n h=>?_,fun _ _=>DR⟩
 ·exact hK.a.mono (by omega)
 ·rw [hn] at h
  refine Fp (hK.b.mono (by omega)) ?_
  have h2:FN A C+2 < n:=by omega
  have h3:FN A C+3 < n:=by omega
  simp [GF.cells,h2,h3]
set_option maxRecDepth 100000 in
theorem aJx (hF:OkN F) (hK:FK A C w f) (g:GF) (hg:o0 g=true) (hp:g.params.length≤4400000000) (hb:GS.nJ g.body≤4400000000) (hl:look F g.name=none):∃N',KK 92 [.ptr (A.length+1) 0,.agg g.cells] (FQ A F w f C)=some (match AE F g with
  | .ok F1=>(.ret (.tuple []),TQ A F1 g (qF A C g) N' [])
  | .bad e p=>(.pan (AD e p),TQ A F g (qF A C g) N' [])):=by
 obtain⟨x0,x1,x2,x3,x4,x5,x6,x7,rfl⟩:∃x0 x1 x2 x3 x4 x5 x6 x7,f=[x0,x1,x2,x3,x4,x5,x6,x7]:=len8 hK.l
 have h131:=fun w f B hK b e p=>Yj (A:=A) (F:=F) (f:=f) (w:=w) (B:=B) hK b e p
 have hKT:=auJ hK g
 have hTN:FN A C < TN A (qF A C g) []:=by simp [TN,FN,qF]; omega
 have hq:∀N B,mY (TQ A F g (qF A C g) N B) (FN A C)=some g.cells:=fun N B=>aIy
 have hK1:FK A (C++[.cells g.cells,.cells [.int .i64 0,.str [],.slice [] (.own (FN A C+2)),.bool false,.int .i64 0,.int .i64 0,.int .i64 0,.slice [] (.own (FN A C+3)),.int .i64 0],.front 0 0,.front 0 0]) w _:=hK.app (by simp [GF.cells])
 have hset:∀(w a:kM) (f g:List kM) (B:List lG),List.set (FQ A F w f B) (A.length+1) (.cells (.map A.length::a::g))=FQ A F a g B:=fun w a f g B=>XU
 have hchk:∀(w a:kM) (f:List kM) (B:List lG) (x:Option R),IA [FN A C] (FQ A F w f B) (FQ A F a f B) x=x:=fun w a f B x=>af0 (by simp [FN]; omega)
 have hconv:FQ A F (.map (FN A C+4)) g.cells (C++[.cells g.cells,.cells [.int .i64 0,.str [],.slice [] (.own (FN A C+2)),.bool false,.int .i64 0,.int .i64 0,.int .i64 0,.slice [] (.own (FN A C+3)),.int .i64 0],.front 0 0,.front 0 0,.map []])=TQ A F g (qF A C g) [] []:=by
  rw [←auH]
  have e:A.length+2+(qF A C g).length=FN A C+4:=by simp [qF,FN]; omega
  rw [e]; simp [qF,CF]
 have hbl:g.body.length≤4611686018427387904:=by
  have:∀l:List GS,l.length≤GS.nJ l:=fun l=>by
   induction l with
   | nil=>exact ah8 _
   | cons x r ih =>
    have:1≤x.size:=by cases x; simp only [GS.size]; omega
    simp only [ac1,GS.nJ]; omega
  have:=this g.body; omega
 simp only [o0,ac5] at hg
 have hws:=hg.1.1.2
 obtain⟨j0,N0,hlp0⟩:=Qp (F:=F) (f:=g) hKT (FN A C) hTN g.params (by omega) g.params 0 [] rfl (ah8 _)
 have hs:∀s∈g.body,StC A (qF A C g) F g s:=fun s hs=>by
  have h4:=GS.oO hs
  rw [wD] at hws
  exact ayB _ s (ab6 _) (ae8.1 hws s hs) (by omega)
 have hlp1:=fun N b=>Qq (F:=F) (f:=g) (g:=g) hKT (FN A C) hTN hq hs hbl g.body 0 N b rfl (ah8 _)
 have h135:=fun N=>aIY (A:=A) (Q:=qF A C g) (f:=g) (N:=N) hF _ g.body (ab6 _) hws (by omega) [] hKT
 have hcb:=Ct hF g.body 0 hws (by decide) (by decide)
 have h134:=fun N n=>ayC (A:=A) (Q:=qF A C g) (F:=F) (f:=g) (N:=N) hKT n
 have h131':=fun N b e p=>MF (A:=A) (Q:=qF A C g) (F:=F) (f:=g) (N:=N) hKT b e p
 have hput:=fun N c=>anK (A:=A) (Q:=qF A C g) (F:=F) (f:=g) (N:=N) (B:=[]) (g:=g) (c:=c) hl
 have e1:IntKind.wrap .i64 (1+oY F g.body 0)=1+oY F g.body 0:=by rw [wrap64] <;> omega
 generalize qF A C g=Q at *
 unfold AE
 rw [hl]
 obtain⟨gp,gn,gps,gh,⟨ge,gl,gb⟩,gbody⟩:=g
 simp only [GF.cells,ae7,ah4,ab9] at hl hlp0 hlp1 h135 hq hK1 hset hconv hput e1 ⊢
 cases hr0:vD [] gps with
 | bad e q =>
  rw [hr0] at hlp0
  refine⟨N0,lA (Se _ _ _ _) ?_⟩
  simp -implicitDefEqProofs [m92,hK,hK1,hl,h131,rG,hset,hchk,hconv,hq,hlp0,TR.bind]
 | ok N1 =>
  rw [hr0] at hlp0
  obtain⟨j1,b1,N2,hlp1⟩:=hlp1 N1 false
  cases hr1:yI F ⟨gp,gn,gps,gh,⟨ge,gl,gb⟩,gbody⟩ N1 gbody with
  | bad e q =>
   rw [hr1] at hlp1
   refine⟨N2,lA (Se _ _ _ _) ?_⟩
   simp -implicitDefEqProofs [m92,hK,hK1,hl,h131,rG,hset,hchk,hconv,hq,hlp0,hlp1,TR.bind,hr1]
  | ok N3 =>
   rw [hr1] at hlp1
   refine⟨N3,lA (Se _ _ _ _) ?_⟩
   cases gh <;> cases hlr:tU gbody false <;> rw [hlr] at hlp1 <;> simp -implicitDefEqProofs [m92,hK,hK1,hl,h131,rG,hset,hchk,hconv,hq,hlp0,hlp1,TR.bind,hr1,hlr,h131',h135,h134,e1,hput]
set_option maxRecDepth 100000 in
theorem c92 (hF:OkN F) (hK:FK A C w f) (g:GF) (hg:o0 g=true) (hp:g.params.length≤4400000000) (hb:GS.nJ g.body≤4400000000):∃w' f' C',FK A C' w' f'∧KK 92 [.ptr (A.length+1) 0,.agg g.cells] (FQ A F w f C)=some (match AE F g with
  | .ok F1=>(.ret (.tuple []),FQ A F1 w' f' C')
  | .bad e p=>(.pan (AD e p),FQ A F w' f' C')):=by
 cases hl:look F g.name with
 | some t =>
  have h131:=fun w f B hK b e p=>Yj (A:=A) (F:=F) (f:=f) (w:=w) (B:=B) hK b e p
  obtain⟨gp,gn,gps,gh,⟨ge,gl,gb⟩,gbody⟩:=g
  obtain⟨⟨tp,tn,tps,th,⟨te,tl,tb⟩,tbody⟩,tc⟩:=t
  have hK1:FK A (C++[.cells (GF.cells ⟨gp,gn,gps,gh,⟨ge,gl,gb⟩,gbody⟩),.cells (GF.cells ⟨tp,tn,tps,th,⟨te,tl,tb⟩,tbody⟩++[.int .i64 tc]),.front 0 0,.front 0 0]) w f:=hK.app (by simp [GF.cells])
  refine⟨w,f,_,hK1,lA (Se _ _ _ _) ?_⟩
  simp only [GF.cells,ae7,ah4] at hK1
  simp only at hl
  simp -implicitDefEqProofs [m92,hK,hl,hK1,h131,rG,AE]
 | none =>
  obtain⟨N',h⟩:=aJx (f:=f) hF hK g hg hp hb hl
  have hKT:=auJ hK g
  refine⟨.map (A.length+2+(qF A C g).length),g.cells,qF A C g++[.map (CF N')],⟨?_,?_,?_,rfl⟩,?_⟩
  ·have:=hKT.a _ (ab6 _); exact this.mono (by simp [TN,FN]; omega)
  ·have:=hKT.q _ (ab6 _); exact Fp (this.mono (by simp [TN,FN]; omega)) K_
  ·intro m x hm
   have h1:A.length+2+(qF A C g).length < m:=by simp [FN] at hm; omega
   simp [Im h1,nI,kM.mE,GF.cells]
  ·rw [h]
   cases AE F g <;> simp only [auH]
end
end
section
open Go Hk
theorem akP {n:Int}(h1:0≤n) (h2:n≤4294967295):0≤Int.tdiv (n+3) 4∧Int.tdiv (n+3) 4≤1073741825:=by
 rw [Int.tdiv_eq_ediv_of_nonneg (by omega)]; omega
theorem an8 {t:GT}(h1:0≤t.len) (h2:t.len≤4294967295):0≤Bo t∧Bo t≤17179869180:=by
 have:=akP h1 h2
 unfold Bo
 split
 ·omega
 ·split <;> omega
theorem aKK {n:Int}:kX .quo (.int .i64 n) (.int .i64 4)=some (.int .i64 (IntKind.wrap .i64 (n.tdiv 4))):=(rfl)
theorem aIZ {t:GT}(h1:0≤t.len) (h2:t.len≤4294967295) (h:kP):KK 136 [.agg [.int .i64 t.elem,.int .i64 t.len,.int .i64 t.label]] h=some (.ret (.int .i64 (Bo t)),h):=by
 refine lD rfl rfl (lA (aqI _ _ _) ?_)
 have h3:=akP h1 h2
 obtain⟨te,tl,tb⟩:=t
 simp only at h1 h2 h3
 have w1:IntKind.wrap .i64 (tl+3)=tl+3:=by rw [wrap64] <;> omega
 have w2:IntKind.wrap .i64 (Int.tdiv (tl+3) 4 * 4)=Int.tdiv (tl+3) 4 * 4:=by rw [wrap64] <;> omega
 have w3:IntKind.wrap .i64 (4 * tl)=4 * tl:=by rw [wrap64] <;> omega
 have w4:IntKind.wrap .i64 (Int.tdiv (tl+3) 4)=Int.tdiv (tl+3) 4:=by rw [wrap64] <;> omega
 unfold Bo
 by_cases e1:tl=0
 ·simp -implicitDefEqProofs [aqH,e1,kN]
 ·by_cases e2:te=2
  ·simp -implicitDefEqProofs [aqH,e1,e2,w1,w2,w4,aKK,kN]
  ·simp -implicitDefEqProofs [aqH,e1,e2,w3,kN]
section
variable {A B:List lG}{F:Kn}{f:List kM}{w:kM}
attribute [local simp] IC Gl B7 LV ID LW K9 EA Fl LX Fm amH amG adU adT FK.app
theorem NF (hK:FK A B w f) (x4:Nat) (hx4:x4 < FN A B) (l:List GP) (hw:∀q∈l,0≤q.ty.len∧q.ty.len≤4294967295) (hl:l.length≤4611686018427387904):∀(u:List GP) (i:Nat) (a b:Int),l.drop i=u→i≤l.length→0≤a→a≤65537→0≤b→b≤65537 →
  ∃(j a' b':Int),mJ (Jk KK (FN A B)) ([.ptr x4 0,.int .i64 a,.int .i64 b,.slice (l.map GP.cells) .no,.int .i64 (l.length:Int),.int .i64 (i:Int)],FQ A F w f B) =
   some (match EU u a b with
    | .ok (a1,b1)=>(.exit 0,[.ptr x4 0,.int .i64 a1,.int .i64 b1,.slice (l.map GP.cells) .no,.int .i64 (l.length:Int),.int .i64 (l.length:Int)],FQ A F w f B)
    | .bad e q=>(.pan (AD e q),[.ptr x4 0,.int .i64 a',.int .i64 b',.slice (l.map GP.cells) .no,.int .i64 (l.length:Int),.int .i64 j],FQ A F w f B))
 | [],i,a,b,hd,hi,_,_,_,_=>by
  have hge:l.length≤i:=by simpa using hd
  have e:i=l.length:=by omega
  subst e
  have htr:=zF (F:=F) (f:=f) hK
  have q3:∀h,kM.mP (FN A B) h (.ptr x4 0)=.ptr x4 0:=fun h=>lE hx4
  refine⟨0,0,0,?_⟩
  rw [l9]
  simp -implicitDefEqProofs [Jk,EU,kT,htr,q3]
 | x::u,i,a,b,hd,hi,ha1,ha2,hb1,hb2=>by
  have hlt:i < l.length:=by
   rcases Nat.lt_or_ge i l.length with hx | hx
   ·exact hx
   ·rw [aj0 hx] at hd; cases hd
  have ha:=ae6 hlt
  rw [hd] at ha
  have hx:l[i]'hlt=x:=(List.cons.inj ha).1.symm
  have hd3:l.drop (i+1)=u:=(List.cons.inj ha).2.symm
  have hxw:=hw x (hx ▸ List.getElem_mem hlt)
  have w1:=rR (a:=i) (by omega)
  have htr:=fun C=>Dm (F:=F) (f:=f) (C:=C) hK
  have q3:∀h,kM.mP (FN A B) h (.ptr x4 0)=.ptr x4 0:=fun h=>lE hx4
  have q4:∀h,kM.mP (FN A B+1) h (.ptr x4 0)=.ptr x4 0:=fun h=>lE (by omega)
  have h131:=fun B hK b e p=>Yj (A:=A) (F:=F) (f:=f) (w:=w) (B:=B) hK b e p
  have h136:=fun h=>aIZ (t:=x.ty) hxw.1 hxw.2 h
  have hbb:=an8 (t:=x.ty) hxw.1 hxw.2
  obtain⟨xp,xn,⟨te,tl,tb⟩,xo⟩:=x
  simp only at h136 hbb
  have hK2:FK A (B++[.cells (GP.cells ⟨xp,xn,⟨te,tl,tb⟩,xo⟩)]) w f:=hK.app (by simp [GP.cells])
  have htr2:=zF (F:=F) (f:=f) hK2
  simp only [GP.cells,B7,ac1,ac6,al6] at htr2
  rw [EU]
  by_cases h1:te=1
  ·refine⟨i,a,b,?_⟩
   rw [l9]
   simp -implicitDefEqProofs [Jk,hlt,hx,GP.cells,h131,hK,h1,rG,TR.bind,kT,htr,q3]
  ·generalize hW:Bo ⟨te,tl,tb⟩=W at *
   have w2:IntKind.wrap .i64 (a+W)=a+W:=by rw [wrap64] <;> omega
   have w3:IntKind.wrap .i64 (b+W)=b+W:=by rw [wrap64] <;> omega
   cases xo
   ·obtain⟨j,a',b',ih⟩:=NF hK x4 hx4 l hw hl u (i+1) (min (a+W) 65537) b hd3 hlt (by omega) (by omega) hb1 hb2
    simp only [af8,ab9] at ih
    refine⟨j,a',b',?_⟩
    rw [l9]
    simp -implicitDefEqProofs [Jk,hlt,hx,GP.cells,h131,h136,hW,hK,h1,rG,TR.bind,kT,htr,htr2,q3,q4,w1,w2,ih]
   ·obtain⟨j,a',b',ih⟩:=NF hK x4 hx4 l hw hl u (i+1) a (min (b+W) 65537) hd3 hlt ha1 ha2 (by omega) (by omega)
    simp only [af8,ab9] at ih
    refine⟨j,a',b',?_⟩
    rw [l9]
    simp -implicitDefEqProofs [Jk,hlt,hx,GP.cells,h131,h136,hW,hK,h1,rG,TR.bind,kT,htr,htr2,q3,q4,w1,w3,ih]
theorem yT {sz:Nat}{r:List GF}{row:List kM}{t:Tok}:kZ sz (.slice (r.map GF.cells++[row]) t) (.int .i64 (r.length:Int))=if row.length=sz then some (.pptr row) else none:=by
 rw [nZ,if_pos (by omega),Int.toNat_natCast,ac3 (by simp),aj1,Nat.sub_self]
 rfl
theorem c93 (hK:FK A B w f) (l:List GF) (hw:∀g∈l,∀q∈g.params,0≤q.ty.len∧q.ty.len≤4294967295) (hp:∀g∈l,g.params.length≤4611686018427387904) (hl:l.length≤4611686018427387904):KK 93 [.ptr (A.length+1) 0,.slice (l.map GF.cells) .no] (FQ A F w f B)=some ((DF l).res tP (FQ A F w f B)):=by
 refine lA (aBn _ _ _ _) ?_
 have h131:=fun B hK b e p=>Yj (A:=A) (F:=F) (f:=f) (w:=w) (B:=B) hK b e p
 unfold DF
 rcases List.eq_nil_or_concat l with rfl | ⟨r,g,rfl⟩
 ·simp -implicitDefEqProofs [m93,h131,hK,rG,TR.bind]
 ·rw [List.concat_eq_append] at hw hp hl ⊢
  have hgl:(r++[g]).getLast?=some g:=by simp
  have hw:=hw g (by simp)
  have hp:=hp g (by simp)
  rw [hgl]
  obtain⟨gp,gn,gps,gh,⟨ge,gl,gb⟩,gbody⟩:=g
  have hK2:FK A (B++[.cells (GF.cells ⟨gp,gn,gps,gh,⟨ge,gl,gb⟩,gbody⟩),.front 0 0,.front 0 0]) w f:=hK.app (by simp [GF.cells])
  obtain⟨j,a',b',hlp⟩:=NF (F:=F) (f:=f) hK2 (FN A B) (by simp [FN]) gps hw hp gps 0 0 0 rfl (ah8 _) (by decide) (by decide) (by decide) (by decide)
  have w0:IntKind.wrap .i64 (r.length:Int)=(r.length:Int):=by rw [wrap64] <;> simp at hl ⊢ <;> omega
  simp only [GF.cells,B7,ac1,ac6,al6,Nat.reduceAdd,ab9] at hlp
  by_cases h1:gn=Bf
  ·unfold Bf at h1
   subst h1
   cases gh
   ·cases hr:EU gps 0 0 with
    | bad e q =>
     rw [hr] at hlp
     simp -implicitDefEqProofs [m93,Bf,h131,hK,w0,yT,rG,TR.bind,hlp,hr]
    | ok ab =>
     obtain⟨a1,b1⟩:=ab
     rw [hr] at hlp
     by_cases h2:a1≤65536 <;> by_cases h3:b1≤65536 <;> simp -implicitDefEqProofs [m93,Bf,h131,hK,w0,yT,h2,h3,rG,TR.bind,hlp,hr]
   ·simp -implicitDefEqProofs [m93,Bf,h131,hK,w0,yT,rG,TR.bind]
  ·unfold Bf at h1
   simp -implicitDefEqProofs [m93,Bf,h131,hK,w0,yT,h1,rG,TR.bind]
end
end
section
open Go Hk
theorem agK {F F1:Kn}{g:GF}(hF:OkN F) (hg:o0 g=true) (h:AE F g=.ok F1):OkN F1:=by
 unfold AE at h
 cases hl:look F g.name with
 | some t=>rw [hl] at h; cases h
 | none =>
  rw [hl] at h
  simp only [o0,ac5] at hg
  have hb:=Ct hF g.body 0 hg.1.1.2 (by decide) (by decide)
  simp only at h
  cases h1:vD [] g.params with
  | bad e p=>rw [h1] at h; cases h
  | ok N =>
   rw [h1] at h
   simp only [TR.bind] at h
   cases h2:yI F g N g.body with
   | bad e p=>rw [h2] at h; cases h
   | ok N2 =>
    rw [h2] at h
    simp only [rG] at h
    split at h
    ·rename_i e
     split at e
     ·cases h
      intro p hp
      rcases List.mem_append.1 hp with hp | hp
      ·exact hF p hp
      ·obtain rfl:=List.mem_singleton.1 hp
       simp only [D6]; omega
     ·cases e
    ·cases h
section
variable {A:List lG}
attribute [local simp] IC Gl B7 LV ID LW K9 EA Fl LX Fm FK.app LU
def Te (g:GF):Prop:=o0 g=true∧g.params.length≤4400000000∧GS.nJ g.body≤4400000000
theorem UK (m:Nat) (v1 v2 v3 v4:kM) (l:List GF) (hl:l.length≤4611686018427387904) (hw:∀g∈l,Te g):∀(u:List GF) (i:Nat) (F:Kn) (w:kM) (f:List kM) (C:List lG),OkN F→FK A C w f→l.drop i=u→i≤l.length →
  ∃(j:Int) (w':kM) (f':List kM) (C':List lG) (F':Kn),FK A C' w' f'∧mJ (Nx KK m) ([v1,v2,v3,v4,.ptr (A.length+1) 0,.slice (l.map GF.cells) .no,.int .i64 (l.length:Int),.int .i64 (i:Int)],FQ A F w f C) =
   some (match uF F u with
    | .ok F1=>(.exit 0,[v1,v2,v3,v4,.ptr (A.length+1) 0,.slice (l.map GF.cells) .no,.int .i64 (l.length:Int),.int .i64 (l.length:Int)],FQ A F1 w' f' C')
    | .bad e q=>(.pan (AD e q),[v1,v2,v3,v4,.ptr (A.length+1) 0,.slice (l.map GF.cells) .no,.int .i64 (l.length:Int),.int .i64 j],FQ A F' w' f' C'))
 | [],i,F,w,f,C,hF,hK,hd,hi=>by
  have hge:l.length≤i:=by simpa using hd
  have e:i=l.length:=by omega
  subst e
  refine⟨0,w,f,C,F,hK,?_⟩
  rw [l9]
  simp -implicitDefEqProofs [Nx,uF]
 | x::u,i,F,w,f,C,hF,hK,hd,hi=>by
  have hlt:i < l.length:=by
   rcases Nat.lt_or_ge i l.length with hx | hx
   ·exact hx
   ·rw [aj0 hx] at hd; cases hd
  have ha:=ae6 hlt
  rw [hd] at ha
  have hx:l[i]'hlt=x:=(List.cons.inj ha).1.symm
  have hd3:l.drop (i+1)=u:=(List.cons.inj ha).2.symm
  obtain⟨hx1,Kr,hx3⟩:=hw x (hx ▸ List.getElem_mem hlt)
  have w1:=rR (a:=i) (by omega)
  have hK2:FK A (C++[.cells x.cells,.front 0 0,.front 0 0]) w f:=hK.app (by simp [GF.cells])
  obtain⟨w1',f1,C1,hK3,h92⟩:=c92 (f:=f) hF hK2 x hx1 Kr hx3
  rw [uF]
  cases hr:AE F x with
  | bad e q =>
   rw [hr] at h92
   refine⟨i,w1',f1,C1,F,hK3,?_⟩
   rw [l9]
   obtain⟨gp,gn,gps,gh,⟨ge,gl,gb⟩,gbody⟩:=x
   simp only [GF.cells] at h92
   simp -implicitDefEqProofs [Nx,hlt,hx,h92,TR.bind]
  | ok F1 =>
   rw [hr] at h92
   obtain⟨j,w2,f2,C2,F2,hK4,ih⟩:=UK m v1 v2 v3 v4 l hl hw u (i+1) F1 w1' f1 C1 (agK hF hx1 hr) hK3 hd3 hlt
   refine⟨j,w2,f2,C2,F2,hK4,?_⟩
   rw [l9]
   obtain⟨gp,gn,gps,gh,⟨ge,gl,gb⟩,gbody⟩:=x
   simp only [GF.cells] at h92
   simp only [af8,ab9] at ih
   simp -implicitDefEqProofs [Nx,hlt,hx,h92,TR.bind,w1,ih]
end
end
section
open Go Hk
def LA (v:kM) (a b c d:Int):List lG:=[.cells [v],.cells [.int .i64 a],.cells [.int .i64 b],.cells [.int .i64 c,.int .i64 d]]
section
variable {rows:List (List kM)}{t:Tok}{v w:kM}{a b c d:Int}{F:Kn}{f:List kM}{B:List lG}{x:kM}
theorem ad4:(LA v a b c d).length=4:=rfl
theorem amV:mY (FQ (LA v a b c d) F w f B) 0=some [v]:=rfl
theorem amW:mY (FQ (LA v a b c d) F w f B) 1=some [.int .i64 a]:=rfl
theorem amX:mY (FQ (LA v a b c d) F w f B) 2=some [.int .i64 b]:=rfl
theorem amY:mY (FQ (LA v a b c d) F w f B) 3=some [.int .i64 c,.int .i64 d]:=rfl
theorem amZ {z:Int}:List.set (FQ (LA v a b c d) F w f B) 1 (.cells [.int .i64 z])=FQ (LA v z b c d) F w f B:=rfl
theorem am0 {z:Int}:List.set (FQ (LA v a b c d) F w f B) 2 (.cells [.int .i64 z])=FQ (LA v a z c d) F w f B:=rfl
theorem am1 {y z:Int}:List.set (FQ (LA v a b c d) F w f B) 3 (.cells [.int .i64 y,.int .i64 z])=FQ (LA v a b y z) F w f B:=rfl
def LH (a b c d:Int):List lG:=[.gone,.cells [.int .i64 a],.cells [.int .i64 b],.cells [.int .i64 c,.int .i64 d]]
theorem ad6:oB (FQ (LA v a b c d) F w f B) 0=FQ (LH a b c d) F w f B:=rfl
theorem ad5:oB (FQ (LH a b c d) F w f B) 0=FQ (LH a b c d) F w f B:=rfl
theorem amT:mY (FQ (LH a b c d) F w f B) 1=some [.int .i64 a]:=rfl
theorem amU {z:Int}:List.set (FQ (LH a b c d) F w f B) 1 (.cells [.int .i64 z])=FQ (LH z b c d) F w f B:=rfl
theorem VL {a' b' c' d':Int}:mM (FQ (LA v a b c d) F w f B) (FQ (LH a' b' c' d') F w f B) 0=FQ (LA v a' b' c' d') F w f B:=rfl
theorem Tl {a' b' c' d':Int}:mM (FQ (LA v a b c d) F w f B) (FQ (LA v a' b' c' d') F w f B) 0=FQ (LA v a' b' c' d') F w f B:=rfl
theorem ad7 {z:kM}{s:List UInt8}:q7 z false (FQ (LA v a b c d) F w f B) (.map 4) (.str s)=some (match look F s with | some t=>.agg (t.1.cells++[.int .i64 t.2]) | none=>z):=Tc
theorem aIt:mY (FQ (LA v a b c d) F w f B) 5=some (.map 4::w::f):=aDT
theorem LFK (h:FK (LA v a b c d) B w f) {a' b' c' d':Int}:FK (LA v a' b' c' d') B w f:=by
 refine⟨?_,h.b,h.w,h.l⟩
 have:=h.a
 simp only [LA,Db,FN,ac1,ac6] at this ⊢
 exact⟨this.1,by simp [DR]⟩
end
section
variable {A B C:List lG}{F:Kn}{w:kM}{f:List kM}
theorem ZW:oB (FQ A F w f (B++C)) (FN A B)=FQ A F w f (B++oB C 0):=by
 unfold oB
 rw [ID]
 cases C[0]? with
 | none=>rfl
 | some b=>cases b <;> first | rfl | exact Fm
theorem Td {A':List lG}{F':Kn}{w':kM}{f':List kM}{C':List lG}(h:A'.length=A.length):mM (FQ A F w f (B++C)) (FQ A' F' w' f' (B++C')) (FN A B)=FQ A' F' w' f' (B++mM C C' 0):=by
 have e:FN A B=FN A' B:=by simp [FN,h]
 unfold mM
 rw [ID,e]
 cases C[0]? with
 | none=>rfl
 | some b=>cases b <;> first | rfl | exact Fm
end
section
variable {l:List GF}
attribute [local simp] IC Gl B7 LV ID LW K9 EA Fl LX Fm FK.app LU ad4 amV amW amX amY amZ am0 am1 ad6 ad5 amT amU VL Tl ad7 aIt
def Gg:TR (Int×Int)→kM
 | .ok (c,p)=>.tuple [.int .i64 c,.int .i64 p,.agg [.int .i64 0,.int .i64 0]]
 | .bad e p=>.tuple [.int .i64 0,.int .i64 0,.agg [.int .i64 e,.int .i64 p]]
theorem acF {F:Kn}{w:kM}{f:List kM}{B:List lG}{v:kM}{a b c d:Int}(hK:FK (LA v a b c d) B w f):acE KK [.ptr 1 0,.ptr 2 0,.ptr 3 0] none (FQ (LA v a b c d) F w f B)=some (FQ (LA v a b c d) F w f B):=by
 have htr:=fun C=>Dm (F:=F) (f:=f) (C:=C) hK
 have htr0:=zF (F:=F) (f:=f) hK
 have hK2:FK (LA v a b c d) (B++[.cells [.int .i64 0,.int .i64 0]]) w f:=hK.app (by simp)
 have htr2:=zF (F:=F) (f:=f) hK2
 simp only [B7,ac1,ac6,al6] at htr2
 simp -implicitDefEqProofs [acE,aiR,kT,htr,htr0,htr2]
theorem Qr {F:Kn}{w:kM}{f:List kM}{B:List lG}{v:kM}{e p:Int}(hK:FK (LA v 0 0 0 0) B w f):acE KK [.ptr 1 0,.ptr 2 0,.ptr 3 0] (some (AD e p)) (FQ (LA v 0 0 0 0) F w f B)=some (FQ (LA v 0 0 e p) F w f B):=by
 have htr:=fun C=>Dm (F:=F) (f:=f) (C:=C) (LFK hK (a':=0) (b':=0) (c':=e) (d':=p))
 have hK2:FK (LA v 0 0 e p) (B++[.cells [.int .i64 e,.int .i64 p]]) w f:=(LFK hK).app (by simp)
 have htr2:=zF (F:=F) (f:=f) hK2
 have hN:FN (LA v 0 0 e p) B=FN (LA v 0 0 0 0) B:=rfl
 simp only [B7,ac1,ac6,al6,hN] at htr2 htr
 simp -implicitDefEqProofs [acE,aiR,kT,htr,htr2,ZW,Td,hN]
theorem aIs {v:kM}(hv:∀m x,v.mP m x=v) (hc:v.mE=true):FK (LA v 0 0 0 0) [.front 0 0,.front 0 0] .nilmap [.int .i64 0,.str [],.slice [] (.own 6),.bool false,.int .i64 0,.int .i64 0,.int .i64 0,.slice [] (.own 7)]:=by
 refine⟨?_,?_,?_,rfl⟩
 ·simp only [LA,Db]
  exact⟨(CK (fun m x _=>hv m x) hc).2 QP,by simp [DR]⟩
 ·simp [DR]
 ·refine(CK (fun m x _=>rfl) rfl).2 ?_
  simp [FN,LA]
theorem c45 {T:List UInt8}(OQ:∀h,KK 14 [.agg [.slice (l.map GF.cells) .no]] h=some (.ret (.tuple [.str T,.int .i64 (qE l).2]),h)) (hw:(qE l).2=0→∀g∈l,Te g) (hl:l.length≤4611686018427387904) (h:kP) :
  KK 45 [.agg [.slice (l.map GF.cells) .no]] h=some (.ret (Gg (Be l)),h):=by
 refine lD rfl (by simp [kM.nP,kM.pE,qA]) (lA (aAR _ _ _) ?_)
 have hsan:∀(h:kP) (a b c d:Int),(kM.vK 0 h (.tuple [.int .i64 a,.int .i64 b,.agg [.int .i64 c,.int .i64 d]])).kQ=.tuple [.int .i64 a,.int .i64 b,.agg [.int .i64 c,.int .i64 d]]:=fun _ _ _ _ _=>rfl
 unfold Be
 by_cases hp:(qE l).2=0
 ·have hw:=hw hp
  rw [hp] at OQ
  rw [if_neg (by omega)]
  have hK0:=aIs (v:=.slice (l.map GF.cells) .no) (fun _ _=>rfl) rfl
  obtain⟨j,w',f',C',F',hK,hlp⟩:=UK 8 (.ptr 0 0) (.ptr 1 0) (.ptr 2 0) (.ptr 3 0) l hl hw l 0 [] _ _ _ (fun p hp=>by cases hp) hK0 rfl (ah8 _)
  have h93:=fun F=>c93 (F:=F) hK l (fun g hg q hq=>by
   have h1:=(hw g hg).1
   simp only [o0,ac5] at h1
   have h2:=ae8.1 h1.1.2 q hq
   simp only [uU,sJ,ac5] at h2
   simpa [zB] using h2.2.1.2) (fun g hg=>by have:=(hw g hg).2.1; omega) hl
  have hN:=fun e p=>Qr (F:=F') (w:=w') (f:=f') (e:=e) (p:=p) hK
  have hconv:[.cells [.slice (l.map GF.cells) .no],.cells [.int .i64 0],.cells [.int .i64 0],.cells [.int .i64 0,.int .i64 0],.map [],.cells [.map 4,.nilmap,.int .i64 0,.str [],.slice [] (.own 6),.bool false,.int .i64 0,.int .i64 0,.int .i64 0,.slice [] (.own 7)],.front 0 0,.front 0 0]=FQ (LA (.slice (l.map GF.cells) .no) 0 0 0 0) [] .nilmap [.int .i64 0,.str [],.slice [] (.own 6),.bool false,.int .i64 0,.int .i64 0,.int .i64 0,.slice [] (.own 7)] [.front 0 0,.front 0 0]:=rfl
  simp only [ad4,Nat.reduceAdd,ab9] at hlp h93
  have hcn:kM.mE .nilmap=true:=rfl
  simp only [AD] at hN
  cases hr:uF [] l with
  | bad e p =>
   rw [hr] at hlp
   simp -implicitDefEqProofs [m45,hsan,OQ,hconv,hcn,hlp,hN,TR.bind,Gg,kN]
  | ok F1 =>
   rw [hr] at hlp
   have h93:=h93 F1
   cases hm:DF l with
   | bad e p =>
    rw [hm] at h93
    have hN:=Qr (F:=F1) (w:=w') (f:=f') (e:=e) (p:=p) hK
    simp only [AD] at hN
    simp -implicitDefEqProofs [m45,hsan,OQ,hconv,hcn,hlp,h93,hN,TR.bind,Gg,kN]
   | ok u =>
    rw [hm] at h93
    obtain⟨r,g,hrg⟩:∃r g,l=r++[g]:=by
     rcases List.eq_nil_or_concat l with rfl | ⟨r,g,rfl⟩
     ·cases hm
     ·exact⟨r,g,List.concat_eq_append ..⟩
    have hgl:l.getLast?=some g:=by rw [hrg]; simp
    have hln:(l.length:Int)=(r.length:Int)+1:=by rw [hrg]; simp
    have w0:IntKind.wrap .i64 ((l.length:Int) - 1)=(r.length:Int):=by rw [wrap64] <;> omega
    have hix:kZ 8 (.slice (l.map GF.cells) .no) (.int .i64 (r.length:Int))=some (.pptr g.cells):=by
     rw [hrg,am3]
     exact yT
    have hN:=fun a b c d=>acF (F:=F1) (w:=w') (f:=f') (LFK hK (a':=a) (b':=b) (c':=c) (d':=d))
    obtain⟨gp,gn,gps,gh,⟨ge,gl,gb⟩,gbody⟩:=g
    simp only [GF.cells] at hix
    cases hlm:look F1 Bf with
    | none =>
     have hlm2:=hlm
     unfold Bf at hlm
     simp -implicitDefEqProofs [m45,hsan,OQ,hconv,hcn,hlp,h93,hN,TR.bind,Gg,kN,w0,hix,hgl,hlm,hlm2]
    | some t =>
     have hlm2:=hlm
     unfold Bf at hlm
     obtain⟨⟨tp,tn,tps,th,⟨te,tl,tb⟩,tbody⟩,tc⟩:=t
     simp -implicitDefEqProofs [m45,hsan,OQ,hconv,hcn,hlp,h93,hN,TR.bind,Gg,kN,w0,hix,hgl,hlm,hlm2]
 ·rw [if_pos hp]
  simp -implicitDefEqProofs [m45,hsan,OQ,hp,Gg,kN]
end
end
section
open Go Hk
section
variable {l:List GF}{T:List UInt8}
theorem c20 (OQ:∀h,KK 14 [.agg [.slice (l.map GF.cells) .no]] h=some (.ret (.tuple [.str T,.int .i64 (qE l).2]),h)) (hw:(qE l).2=0→∀g∈l,Te g) (hl:l.length≤4611686018427387904) (h:kP) :
  KK 20 [.agg [.slice (l.map GF.cells) .no]] h=some (.ret (.agg [.int .i64 (rD l).1,.int .i64 (rD l).2]),h):=by
 refine lD rfl (by simp [kM.nP,kM.pE,qA]) (lA (aAw _ _ _) ?_)
 have h45:=c45 OQ hw hl
 unfold rD
 cases hr:Be l with
 | bad e p =>
  rw [hr] at h45
  simp only [Gg] at h45
  simp -implicitDefEqProofs [m20,h45,kN]
 | ok cp =>
  obtain⟨c,p⟩:=cp
  rw [hr] at h45
  simp only [Gg] at h45
  by_cases hc:65536 < c
  ·simp -implicitDefEqProofs [m20,h45,kN,hc]
  ·simp -implicitDefEqProofs [m20,h45,kN,hc]
theorem c22 (OQ:∀h,KK 14 [.agg [.slice (l.map GF.cells) .no]] h=some (.ret (.tuple [.str T,.int .i64 (qE l).2]),h)) (hw:(qE l).2=0→∀g∈l,Te g) (hl:l.length≤4611686018427387904) (h:kP) :
  KK 22 [.agg [.slice (l.map GF.cells) .no]] h=some (.ret (.int .i64 (Bt l)),h):=by
 refine lD rfl (by simp [kM.nP,kM.pE,qA]) (lA (aAy _ _ _) ?_)
 have h45:=c45 OQ hw hl
 unfold Bt
 cases hr:Be l with
 | bad e p =>
  rw [hr] at h45
  simp only [Gg] at h45
  simp -implicitDefEqProofs [m22,h45,kN]
 | ok cp =>
  obtain⟨c,p⟩:=cp
  rw [hr] at h45
  simp only [Gg] at h45
  simp -implicitDefEqProofs [m22,h45,kN]
end
end
section
open Go Hk
def GT.op (t:GT):GT:={ t with label:=0 }
def GP.op (q:GP):GP:={ q with ty:=q.ty.op }
mutual
def GS.op:GS→GS
 | .mk k p m name ty args body els has=>.mk k p m name ty.op args (GS.ops body) (GS.ops els) has
def GS.ops:List GS→List GS
 | []=>[]
 | x::r=>x.op::GS.ops r
end
def GF.op (f:GF):GF:=⟨f.pos,f.name,f.params.map GP.op,f.has,f.result.op,GS.ops f.body⟩
def mT.op (t:mT):mT:=⟨t.ty.op,t.fixed⟩
def G9 (N:Nm mT):Nm mT:=N.map fun p=>(p.1,p.2.op)
def K8 (F:Kn):Kn:=F.map fun p=>(p.1,(p.2.1.op,p.2.2))
def Sm {α β:Type}(g:α→β) (x:TR α) (y:TR β):Prop:=(∀v,x=.ok v→y=.ok (g v))∧∀e p,x=.bad e p→e≠15→y=.bad e p
section
variable {α β γ δ:Type}{g:α→β}{k:γ→δ}
theorem Sm.ok {v:α}:Sm g (.ok v) (.ok (g v)):=⟨fun w h=>(by cases h; rfl),fun e p h=>by cases h⟩
theorem Sm.bad {e p:Int}:Sm g (.bad e p) (.bad e p):=⟨fun w h=>(by cases h),fun e p h _=>by cases h; rfl⟩
theorem Sm.aEO {p:Int}{y:TR β}:Sm g (.bad 15 p) y:=⟨fun w h=>(by cases h),fun e p h hn=>by cases h; exact absurd rfl hn⟩
theorem Sm.bind {x:TR α}{y:TR β}{f:α→TR γ}{f':β→TR δ}(h:Sm g x y) (hf:∀v,Sm k (f v) (f' (g v))):Sm k (x.bind f) (y.bind f'):=by
 cases x with
 | ok v=>rw [h.1 v rfl]; exact hf v
 | bad e p =>
  by_cases he:e=15
  ·subst he; exact Sm.aEO
  ·rw [h.2 e p rfl he]; exact Sm.bad
theorem Sm.test {b:Bool}{e p:Int}:Sm id (rG b e p) (rG b e p):=by
 unfold rG
 cases b
 ·exact Sm.bad
 ·exact Sm.ok
theorem Sm.AY {b:Bool}{p q:Int}:Sm id (rG b 15 p) (rG true 15 q):=by
 unfold rG
 cases b
 ·exact Sm.aEO
 ·exact Sm.ok
end
theorem YT {N:Nm mT}{s:List UInt8}:look (G9 N) s=(look N s).map mT.op:=by
 induction N with
 | nil=>rfl
 | cons a r ih =>
  obtain⟨n,t⟩:=a
  show(if n=s then some t.op else look (G9 r) s)=(if n=s then some t else look r s).map mT.op
  split
  ·rfl
  ·exact ih
theorem EY {F:Kn}{s:List UInt8}:look (K8 F) s=(look F s).map fun p=>(p.1.op,p.2):=by
 induction F with
 | nil=>rfl
 | cons a r ih =>
  obtain⟨n,t⟩:=a
  show(if n=s then some (t.1.op,t.2) else look (K8 r) s)=(if n=s then some t else look r s).map fun p=>(p.1.op,p.2)
  split
  ·rfl
  ·exact ih
theorem Is {N:Nm mT}{s:List UInt8}{p:Int}:Sm mT.op (vV N s p) (vV (G9 N) s p):=by
 unfold vV
 rw [YT]
 cases look N s with
 | none=>exact Sm.bad
 | some t=>exact Sm.ok
theorem Zb:∀l:List GT,Sg (l.map GT.op) 0=0
 | []=>rfl
 | t::r=>by
  show Sg (r.map GT.op) (max 0 0)=0
  exact Zb r
theorem aoO (l:List GT):(l.map GT.op).map GT.elem=l.map GT.elem:=by rw [List.map_map]; rfl
section
variable {F:Kn}{N:Nm mT}
theorem aCc {q:GP}{k p:Int}{name:List UInt8}:Sm id (Mx N q k p name) (Mx (G9 N) q.op k p name):=by
 unfold Mx
 exact Sm.test.bind fun _=>Is.bind fun t=>Sm.test.bind fun _=>by
  have:(q9 t.op.ty.label q.op.ty.label && (!q.op.out || t.op.ty.label == q.op.ty.label))=true:=by simp [mT.op,GT.op,GP.op,q9]
  rw [this]; exact Sm.AY
mutual
theorem SE:∀x:GE,Sm GT.op (xB F N x) (xB (K8 F) (G9 N) x)
 | .mk k p n name args=>by
  rw [xB,xB]
  by_cases h1:k=1
  ·rw [if_pos h1,if_pos h1]; exact Sm.ok
  rw [if_neg h1,if_neg h1]
  by_cases h2:k=2
  ·rw [if_pos h2,if_pos h2]; exact Is.bind fun t=>Sm.test.bind fun _=>Sm.ok
  rw [if_neg h2,if_neg h2]
  by_cases h3:k=3
  ·rw [if_pos h3,if_pos h3]; exact(SD 0 args).bind fun _=>Is.bind fun t=>Sm.test.bind fun _=>Sm.ok
  rw [if_neg h3,if_neg h3]
  by_cases h4:k=4
  ·rw [if_pos h4,if_pos h4,EY]
   cases look F name with
   | none=>exact Sm.bad
   | some a =>
    obtain⟨f,c⟩:=a
    have e:(f.op.params.length == args.length)=(f.params.length == args.length):=by simp [GF.op]
    simp only [Option.map_some,e]
    exact Sm.test.bind fun _=>(Oj f.params args).bind fun _=>Sm.test.bind fun _=>Sm.ok
  rw [if_neg h4,if_neg h4]
  refine(ZE args).bind fun l=>?_
  rw [aoO,Zb]
  exact Sm.test.bind fun _=>Sm.test.bind fun _=>Sm.ok
theorem ZE:∀l:List GE,Sm (List.map GT.op) (wM F N l) (wM (K8 F) (G9 N) l)
 | []=>by rw [wM,wM]; exact Sm.ok
 | x::r=>by
  rw [wM,wM]
  exact(SE x).bind fun t=>(ZE r).bind fun l=>Sm.ok
theorem SD (elem:Int):∀l:List GE,Sm id (CI F N elem l) (CI (K8 F) (G9 N) elem l)
 | []=>by rw [CI,CI]; exact Sm.ok
 | x::_=>by
  rw [CI,CI]
  exact(SE x).bind fun t=>Sm.test.bind fun _=>Sm.AY
theorem Oj:∀(ps:List GP) (l:List GE),Sm id (rT F N ps l) (rT (K8 F) (G9 N) (ps.map GP.op) l)
 | [],_=>by rw [al1,rT,rT]; exact Sm.ok
 | q::ps,[]=>by rw [ai3,rT,rT]; exact Sm.ok
 | q::ps,x::r=>by
  rw [ai3,rT,rT]
  refine Sm.bind (g:=id) ?_ fun _=>Oj ps r
  have e:q.op.ty.len=q.ty.len:=rfl
  rw [e]
  by_cases h:q.ty.len=0
  ·rw [if_pos h,if_pos h]
   exact(SE x).bind fun t=>Sm.test.bind fun _=>by
    have:q9 t.op.label q.op.ty.label=true:=by simp [GT.op,q9]
    rw [this]; exact Sm.AY
  ·rw [if_neg h,if_neg h]; exact aCc
end
theorem LJ:∀l:List GE,Sm GT.op (Gf F N l) (Gf (K8 F) (G9 N) l)
 | []=>Sm.ok
 | x::_=>SE x
theorem atJ (x:GE):Sm GF.op (Cd F N x) (Cd (K8 F) (G9 N) x):=by
 unfold Cd
 rw [EY]
 cases look F x.name with
 | none=>exact Sm.bad
 | some a =>
  obtain⟨f,c⟩:=a
  have e:(f.op.params.length == x.args.length)=(f.params.length == x.args.length):=by simp [GF.op]
  simp only [Option.map_some,e]
  exact Sm.test.bind fun _=>(Oj f.params x.args).bind fun _=>Sm.ok
theorem LK {s:List UInt8}{t:mT}{p:Int}:Sm G9 (Ap N s t p) (Ap (G9 N) s t.op p):=by
 unfold Ap
 rw [YT]
 cases look N s with
 | none =>
  have:G9 N++[(s,t.op)]=G9 (N++[(s,t)]):=by simp [G9]
  simp only [Option.map_none,this]
  exact Sm.ok
 | some _=>exact Sm.bad
end
theorem Yr (N:Nm mT) (s:List UInt8):Dt (G9 N) s=G9 (Dt N s):=by
 induction N with
 | nil=>rfl
 | cons a r ih =>
  obtain⟨n,t⟩:=a
  show(if n=s then G9 r else(n,t.op)::Dt (G9 r) s)=G9 (if n=s then r else(n,t)::Dt r s)
  split
  ·rfl
  ·rw [ih]; rfl
theorem Hq:∀(l:List GS) (N:Nm mT),zM (GS.ops l) (G9 N)=G9 (zM l N)
 | [],_=>rfl
 | .mk k p m name ty args body els has::r,N=>by
  rw [GS.ops,GS.op,zM,zM,Yr]
  split
  ·exact Hq r _
  ·exact Hq r _
section
variable {F:Kn}{f:GF}
mutual
theorem Zz:∀(x:GS) (last:Bool) (N:Nm mT),Sm G9 (yZ F f last N x) (yZ (K8 F) f.op last (G9 N) x.op)
 | .mk k p m name ty args body els has,last,N=>by
  simp only [GS.op,yZ]
  by_cases h1:k=1
  ·rw [if_pos h1,if_pos h1]; exact(LJ args).bind fun t=>LK
  rw [if_neg h1,if_neg h1]
  by_cases h2:k=2
  ·rw [if_pos h2,if_pos h2]; exact(LK (t:=⟨ty,false⟩)).bind fun N'=>Sm.test.bind fun _=>Sm.ok
  rw [if_neg h2,if_neg h2]
  by_cases h3:k=3
  ·rw [if_pos h3,if_pos h3]
   exact(LJ args).bind fun v=>Is.bind fun t=>Sm.test.bind fun _=>Sm.bind (g:=id) (by
    have:q9 v.op.label t.op.ty.label=true:=by simp [GT.op,q9]
    rw [this]; exact Sm.AY) fun _=>Sm.ok
  rw [if_neg h3,if_neg h3]
  by_cases h4:k=4
  ·rw [if_pos h4,if_pos h4]
   exact(SD 0 args).bind fun _=>(LJ args.tail).bind fun v=>Is.bind fun t=>Sm.test.bind fun _=>Sm.bind (g:=id) (by
    have:q9 v.op.label t.op.ty.label=true:=by simp [GT.op,q9]
    rw [this]; exact Sm.AY) fun _=>Sm.ok
  rw [if_neg h4,if_neg h4]
  by_cases h5:k=5
  ·rw [if_pos h5,if_pos h5]
   refine(SD 1 args).bind fun _=>(It body N).bind fun N1=>?_
   rw [Hq]
   refine(It els _).bind fun N2=>?_
   rw [Hq]; exact Sm.ok
  rw [if_neg h5,if_neg h5]
  by_cases h6:k=6
  ·rw [if_pos h6,if_pos h6]
   refine(SD 0 args).bind fun _=>(LK (t:=⟨GT.zero,true⟩)).bind fun N1=>Sm.test.bind fun _=>(It body N1).bind fun N2=>?_
   rw [Hq,Yr]; exact Sm.ok
  rw [if_neg h6,if_neg h6]
  by_cases h7:k=7
  ·rw [if_pos h7,if_pos h7]
   cases args with
   | nil=>exact Sm.ok
   | cons x r=>exact(atJ x).bind fun _=>Sm.ok
  rw [if_neg h7,if_neg h7]
  by_cases h8:k=8
  ·rw [if_pos h8,if_pos h8]
   exact(LJ args).bind fun v=>Sm.bind (g:=id) Sm.test fun _=>Sm.bind (g:=id) (by
    have:q9 v.op.label f.op.result.label=true:=by simp [GT.op,q9]
    rw [this]; exact Sm.AY) fun _=>Sm.ok
  rw [if_neg h8,if_neg h8]; exact Sm.ok
theorem It:∀(l:List GS) (N:Nm mT),Sm G9 (tG F f N l) (tG (K8 F) f.op (G9 N) (GS.ops l))
 | [],N=>by rw [GS.ops,tG,tG]; exact Sm.ok
 | x::r,N=>by
  rw [GS.ops,tG,tG]
  exact(Zz x false N).bind fun N'=>It r N'
end
theorem Zy:∀(l:List GS) (N:Nm mT),Sm G9 (yI F f N l) (yI (K8 F) f.op (G9 N) (GS.ops l))
 | [],N=>by rw [GS.ops,yI,yI]; exact Sm.ok
 | x::r,N=>by
  rw [GS.ops,yI,yI]
  have e:(GS.ops r).isEmpty=r.isEmpty:=by cases r <;> rfl
  rw [e]
  exact(Zz x _ N).bind fun N'=>Zy r N'
end
theorem QI:∀(l:List GP) (N:Nm mT),Sm G9 (vD N l) (vD (G9 N) (l.map GP.op))
 | [],N=>Sm.ok
 | q::r,N=>by
  rw [ai3,vD,vD]
  exact(LK (t:=⟨q.ty,!q.out⟩)).bind fun N'=>Sm.bind (g:=id) Sm.test fun _=>Sm.bind (g:=id) Sm.test fun _=>QI r N'
section
variable {F:Kn}
mutual
theorem agB:∀x:GE,Ai (K8 F) x=Ai F x
 | .mk k p n name args=>by
  rw [Ai,Ai,I1 args 0,EY]
  cases look F name <;> rfl
theorem I1:∀(l:List GE) (n:Int),oX (K8 F) l n=oX F l n
 | [],_=>rfl
 | x::r,n=>by rw [oX,oX,agB x,I1 r]
end
mutual
theorem akK:∀x:GS,Bj (K8 F) x.op=Bj F x
 | .mk k p m name ty args body els has=>by
  rw [GS.op,Bj,Bj,I1,FT body,FT els]; rfl
theorem FT:∀(l:List GS) (n:Int),oY (K8 F) (GS.ops l) n=oY F l n
 | [],_=>rfl
 | x::r,n=>by rw [GS.ops,oY,oY,akK x,FT r]
end
end
theorem Ng:∀(l:List GS) (b:Bool),tU (GS.ops l) b=tU l b
 | [],_=>rfl
 | .mk k p m name ty args body els has::r,b=>by rw [GS.ops,GS.op,tU,tU]; exact Ng r _
theorem atK {F:Kn}{f:GF}:Sm K8 (AE F f) (AE (K8 F) f.op):=by
 unfold AE
 have e1:f.op.name=f.name:=rfl
 rw [e1,EY]
 cases look F f.name with
 | some _=>exact Sm.bad
 | none =>
  simp only [Option.map_none]
  refine(QI f.params []).bind fun N=>(Zy f.body N).bind fun _=>?_
  have e2:(!f.op.has || tU f.op.body false)=(!f.has || tU f.body false):=by show(!f.has || tU (GS.ops f.body) false)=_; rw [Ng]
  have e3:K8 F++[(f.name,(f.op,D6 (1+oY (K8 F) f.op.body 0)))]=K8 (F++[(f.name,(f,D6 (1+oY F f.body 0)))]):=by
   show K8 F++[(f.name,(f.op,D6 (1+oY (K8 F) (GS.ops f.body) 0)))]=_
   rw [FT]; simp [K8]
  rw [e2,e3]
  exact Sm.test.bind fun _=>Sm.ok
theorem Vn:∀(l:List GF) (F:Kn),Sm K8 (uF F l) (uF (K8 F) (l.map GF.op))
 | [],F=>Sm.ok
 | f::r,F=>by
  rw [ai3,uF,uF]
  exact atK.bind fun F'=>Vn r F'
theorem Xq:∀(l:List GP) (i o:Int),Sm id (EU l i o) (EU (l.map GP.op) i o)
 | [],i,o=>Sm.ok
 | q::r,i,o=>by
  rw [ai3,EU,EU]
  refine Sm.test.bind fun _=>?_
  have e:q.op.out=q.out:=rfl
  have e2:Bo q.op.ty=Bo q.ty:=rfl
  rw [e,e2]
  split
  ·exact Xq r _ _
  ·exact Xq r _ _
theorem atM (l:List GF):Sm id (DF l) (DF (l.map GF.op)):=by
 unfold DF
 rw [List.getLast?_map]
 cases l.getLast? with
 | none=>exact Sm.bad
 | some f=>exact Sm.test.bind fun _=>Sm.test.bind fun _=>(Xq f.params 0 0).bind fun io=>Sm.test
theorem atL {l:List GF}(h1:(qE l).2=0) (h2:(qE (l.map GF.op)).2=0):Sm id (Be l) (Be (l.map GF.op)):=by
 unfold Be
 rw [if_neg (by simp [h1]),if_neg (by simp [h2])]
 refine(Vn l []).bind fun F=>(atM l).bind fun _=>?_
 rw [EY,List.getLast?_map]
 cases look F Bf <;> cases l.getLast? <;> exact Sm.ok
end
section
open Go Hk
theorem GS.ajD:∀l:List GS,GS.ops l=l.map GS.op
 | []=>rfl
 | x::r=>by rw [GS.ops,GS.ajD r]; rfl
theorem GS.Ja:∀l:List GS,l.length≤GS.nJ l
 | []=>ah8 _
 | x::r=>by
  have h1:=GS.Ja r
  have h2:1≤x.size:=by cases x; simp only [GS.size]; omega
  simp only [ac1,GS.nJ]; omega
def Opn (l:List GS):Prop:=∀h,KK 54 [.slice (l.map GS.cells) .no] h=some (.ret (.slice ((GS.ops l).map GS.cells) .no),h)
theorem aEe {l:List GS}{row:List kM}{b0:lG}{u:List lG}{id:Nat}(hr:row.length=11) (hb:l.length≤4400000000) :
  mH 11 144 (b0::.front l.length (rY l.length 11)::u) (.slice (l.map GS.cells) (.own 1)) (.slice [row] (.own id))=some (.slice (l.map GS.cells++[row]) (.own 1),b0::.front (l.length+1) 11::u):=by
 have hb1:(l.length+1) * 144≤140737488355328:=by omega
 have hb2:l.length+1≤140737488355328:=by omega
 have hf:rY l.length 11=11∨l=[]∧rY l.length 11=0:=by
  rcases AN l.length 11 with h | h
  ·exact .inl h
  ·exact .inr ⟨List.length_eq_zero_iff.1 h.1,h.2⟩
 simp [mH,pY,hr,hb1,hb2]
 exact fun h=>hf.resolve_left h
theorem aEl {k p m e l b:Int}{name:List UInt8}{ra rb re:List (List kM)}{hs:Bool}{h:kP} :
  kY 1 11 [.int .i64 0,.int .i64 0,.int .i64 0,.str [],.int .i64 0,.int .i64 0,.int .i64 0,.slice [] .nil,.slice [] .nil,.slice [] .nil,.bool false] [(0,.agg [.int .i64 k,.int .i64 p,.int .i64 m,.str name,.int .i64 e,.int .i64 l,.int .i64 b,.slice ra .no,.slice rb .no,.slice re .no,.bool hs])] h =
   some (.slice [[.int .i64 k,.int .i64 p,.int .i64 m,.str name,.int .i64 e,.int .i64 l,.int .i64 b,.slice ra .no,.slice rb .no,.slice re .no,.bool hs]] (.own h.length),h++[.front 1 11]):=(rfl)
theorem Nz (l:List GS) (hl:l.length≤4400000000) (ihB:∀x∈l,Opn x.body) (ihE:∀x∈l,Opn x.els):∀(u:List GS) (i:Nat) (a:List GS),l.drop i=u→i≤l.length→a=(l.take i).map GS.op →
  mJ (R9 KK 2) ([.slice (l.map GS.cells) .no,.slice [] (.own 0),.slice (a.map GS.cells) (.own 1),.int .i64 (i:Int)],[.front 0 0,.front a.length (rY a.length 11)]) =
   some (.exit 0,[.slice (l.map GS.cells) .no,.slice [] (.own 0),.slice ((l.map GS.op).map GS.cells) (.own 1),.int .i64 (l.length:Int)],[.front 0 0,.front l.length (rY l.length 11)])
 | [],i,a,hd,hi,ha=>by
  have hge:l.length≤i:=by simpa using hd
  have e:i=l.length:=by omega
  subst e
  rw [List.take_length] at ha
  subst ha
  rw [l9]
  simp -implicitDefEqProofs [R9,kT,l_]
 | x::u,i,a,hd,hi,ha=>by
  have hlt:i < l.length:=by
   rcases Nat.lt_or_ge i l.length with hx | hx
   ·exact hx
   ·rw [aj0 hx] at hd; cases hd
  have hda:=ae6 hlt
  rw [hd] at hda
  have hx:l[i]'hlt=x:=(List.cons.inj hda).1.symm
  have hd3:l.drop (i+1)=u:=(List.cons.inj hda).2.symm
  have hmem:x∈l:=hx ▸ List.getElem_mem hlt
  have w1:=rR (a:=i) (by omega)
  have hal:a.length=i:=by rw [ha,aj1,aj4]; omega
  have ih:=Nz l hl ihB ihE u (i+1) (a++[x.op]) hd3 hlt (by rw [ha,List.take_succ_eq_append_getElem hlt,hx,am3]; rfl)
  have hb:=ihB x hmem
  have he:=ihE x hmem
  unfold Opn at hb he
  have hap:=fun row u id hr=>aEe (l:=a) (row:=row) (b0:=.front 0 0) (u:=u) (id:=id) hr (by omega)
  have hfz:rY (a.length+1) 11=11:=rH
  obtain⟨xk,xp,xm,xn,⟨te,tl,tb⟩,xa,xb,xe,xh⟩:=x
  simp only [GS.body,GS.els] at hb he
  simp only [am3,ai3,al1,ab5,ac1,ac6,al6,hfz,GS.op,GS.cells,GS.nN,GT.op,af8,ab9] at ih
  rw [l9]
  simp -implicitDefEqProofs [R9,hlt,hx,GS.cells,GS.nN,hb,he,hap,aEl,kT,l_,w1,ih]
theorem c54:∀(M:Nat) (l:List GS),GS.nJ l≤M→GS.nJ l≤4400000000→Opn l:=by
 intro M
 induction M with
 | zero =>
  intro l h1 h2 h
  have h3:=GS.Ja l
  obtain rfl:=List.length_eq_zero_iff.1 (by omega:l.length=0)
  have hlp:=Nz [] (by decide) (fun x hx=>by cases hx) (fun x hx=>by cases hx) [] 0 [] rfl (ab6 _) rfl
  refine lD rfl rfl (lA (aiB _ _ _) ?_)
  simp only [ac6,al1,ab9,rB] at hlp
  simp -implicitDefEqProofs [m54,hlp,GS.ops,kN]
 | succ M ihM =>
  intro l h1 h2 h
  have h3:=GS.Ja l
  have hlp:=Nz l (by omega) (fun x hx=>by
   have h4:=GS.oO hx
   cases x with
   | mk k p m name ty args body els has =>
    simp only [GS.size] at h4
    exact ihM body (by omega) (by omega)) (fun x hx=>by
   have h4:=GS.oO hx
   cases x with
   | mk k p m name ty args body els has =>
    simp only [GS.size] at h4
    exact ihM els (by omega) (by omega)) l 0 [] rfl (ah8 _) rfl
  refine lD rfl (by simp [kM.nP,kM.pE,qA]) (lA (aiB _ _ _) ?_)
  simp only [ac6,al1,ab9,rB] at hlp
  simp -implicitDefEqProofs [m54,hlp,GS.ajD,kN]
end
section
open Go Hk
theorem aEd {l:List GP}{row:List kM}{b0 b1 b2 b3 b4 b5 b6 b7:lG}{u:List lG}{id:Nat}(hr:row.length=6) (hb:l.length≤4400000000) :
  mH 6 56 (b0::b1::b2::b3::b4::b5::b6::b7::.front l.length (rY l.length 6)::u) (.slice (l.map GP.cells) (.own 8)) (.slice [row] (.own id))=some (.slice (l.map GP.cells++[row]) (.own 8),b0::b1::b2::b3::b4::b5::b6::b7::.front (l.length+1) 6::u):=by
 have hb1:(l.length+1) * 56≤140737488355328:=by omega
 have hb2:l.length+1≤140737488355328:=by omega
 have hf:rY l.length 6=6∨l=[]∧rY l.length 6=0:=by
  rcases AN l.length 6 with h | h
  ·exact .inl h
  ·exact .inr ⟨List.length_eq_zero_iff.1 h.1,h.2⟩
 simp [mH,pY,hr,hb1,hb2]
 exact fun h=>hf.resolve_left h
theorem aEc {l:List GF}{row:List kM}{b0 b1 b2 b3:lG}{u:List lG}{id:Nat}(hr:row.length=8) (hb:l.length≤4400000000) :
  mH 8 104 (b0::b1::b2::b3::.front l.length (rY l.length 8)::u) (.slice (l.map GF.cells) (.own 4)) (.slice [row] (.own id))=some (.slice (l.map GF.cells++[row]) (.own 4),b0::b1::b2::b3::.front (l.length+1) 8::u):=by
 have hb1:(l.length+1) * 104≤140737488355328:=by omega
 have hb2:l.length+1≤140737488355328:=by omega
 have hf:rY l.length 8=8∨l=[]∧rY l.length 8=0:=by
  rcases AN l.length 8 with h | h
  ·exact .inl h
  ·exact .inr ⟨List.length_eq_zero_iff.1 h.1,h.2⟩
 simp [mH,pY,hr,hb1,hb2]
 exact fun h=>hf.resolve_left h
theorem aIH {p e l b:Int}{name:List UInt8}{o:Bool}{h:kP} :
  kY 1 6 [.int .i64 0,.str [],.int .i64 0,.int .i64 0,.int .i64 0,.bool false] [(0,.agg [.int .i64 p,.str name,.int .i64 e,.int .i64 l,.int .i64 b,.bool o])] h =
   some (.slice [[.int .i64 p,.str name,.int .i64 e,.int .i64 l,.int .i64 b,.bool o]] (.own h.length),h++[.front 1 6]):=(rfl)
theorem aII {p e l b:Int}{name:List UInt8}{ra rb:List (List kM)}{o:Bool}{h:kP} :
  kY 1 8 [.int .i64 0,.str [],.slice [] .nil,.bool false,.int .i64 0,.int .i64 0,.int .i64 0,.slice [] .nil] [(0,.agg [.int .i64 p,.str name,.slice ra (.own 8),.bool o,.int .i64 e,.int .i64 l,.int .i64 b,.slice rb .no])] h =
   some (.slice [[.int .i64 p,.str name,.slice ra .no,.bool o,.int .i64 e,.int .i64 l,.int .i64 b,.slice rb .no]] (.own h.length),h++[.front 1 8]):=(rfl)
def H27 (l acc:List GF) (f:GF) (a:List GP):kP:=[.cells [.slice (l.map GF.cells) .no],.cells [.slice [] (.own 2)],.front 0 0,.cells [.slice (acc.map GF.cells) (.own 4)],.front acc.length (rY acc.length 8),.cells f.cells,.front 0 0,.front 0 0,.front a.length (rY a.length 6)]
theorem Qn (l acc:List GF) (f:GF) (k:Nat) (hl:f.params.length≤4400000000):∀(u:List GP) (i:Nat) (a:List GP),f.params.drop i=u→i≤f.params.length→a=(f.params.take i).map GP.op →
  mJ (R7 KK 9) ([.ptr 0 0,.ptr 1 0,.ptr 3 0,.int .i64 (k:Int),.ptr 5 0,.slice (a.map GP.cells) (.own 8),.int .i64 (i:Int)],H27 l acc f a) =
   some (.exit 2,[.ptr 0 0,.ptr 1 0,.ptr 3 0,.int .i64 (k:Int),.ptr 5 0,.slice ((f.params.map GP.op).map GP.cells) (.own 8),.int .i64 (f.params.length:Int)],H27 l acc f (f.params.map GP.op))
 | [],i,a,hd,hi,ha=>by
  have hge:f.params.length≤i:=by simpa using hd
  have e:i=f.params.length:=by omega
  subst e
  rw [List.take_length] at ha
  subst ha
  rw [l9]
  simp -implicitDefEqProofs [R7,H27,GF.cells,kT,l_,lE]
 | x::u,i,a,hd,hi,ha=>by
  have hlt:i < f.params.length:=by
   rcases Nat.lt_or_ge i f.params.length with hx | hx
   ·exact hx
   ·rw [aj0 hx] at hd; cases hd
  have hda:=ae6 hlt
  rw [hd] at hda
  have hx:f.params[i]'hlt=x:=(List.cons.inj hda).1.symm
  have hd3:f.params.drop (i+1)=u:=(List.cons.inj hda).2.symm
  have w1:=rR (a:=i) (by omega)
  have hal:a.length=i:=by rw [ha,aj1,aj4]; omega
  have ih:=Qn l acc f k hl u (i+1) (a++[x.op]) hd3 hlt (by rw [ha,List.take_succ_eq_append_getElem hlt,hx,am3]; rfl)
  have hap:=fun row b0 b1 b2 b3 b4 b5 b6 b7 u id hr=>aEd (l:=a) (row:=row) (b0:=b0) (b1:=b1) (b2:=b2) (b3:=b3) (b4:=b4) (b5:=b5) (b6:=b6) (b7:=b7) (u:=u) (id:=id) hr (by omega)
  have hfz:rY (a.length+1) 6=6:=rH
  obtain⟨xp,xn,⟨te,tl,tb⟩,xo⟩:=x
  simp only [H27,am3,ai3,al1,ab5,ac1,ac6,al6,hfz,GP.op,GP.cells,GF.cells,GT.op,af8,ab9] at ih
  rw [l9]
  simp -implicitDefEqProofs [R7,H27,hlt,hx,GP.cells,GF.cells,hap,aIH,kT,l_,lE,w1,ih]
def ZY (l acc:List GF):kP:=[.cells [.slice (l.map GF.cells) .no],.cells [.slice [] (.own 2)],.front 0 0,.cells [.slice (acc.map GF.cells) (.own 4)],.front acc.length (rY acc.length 8)]
theorem Qo (l:List GF) (hl:l.length≤4400000000) (hp:∀f∈l,f.params.length≤4400000000∧GS.nJ f.body≤4400000000):∀(u:List GF) (i:Nat) (acc:List GF),l.drop i=u→i≤l.length→acc=(l.take i).map GF.op →
  mJ (R8 KK 5) ([.ptr 0 0,.ptr 1 0,.ptr 3 0,.int .i64 (i:Int)],ZY l acc)=some (.exit 0,[.ptr 0 0,.ptr 1 0,.ptr 3 0,.int .i64 (l.length:Int)],ZY l (l.map GF.op))
 | [],i,acc,hd,hi,ha=>by
  have hge:l.length≤i:=by simpa using hd
  have e:i=l.length:=by omega
  subst e
  rw [List.take_length] at ha
  subst ha
  rw [l9]
  simp -implicitDefEqProofs [R8,ZY,kT,l_,lE]
 | x::u,i,acc,hd,hi,ha=>by
  have hlt:i < l.length:=by
   rcases Nat.lt_or_ge i l.length with hx | hx
   ·exact hx
   ·rw [aj0 hx] at hd; cases hd
  have hda:=ae6 hlt
  rw [hd] at hda
  have hx:l[i]'hlt=x:=(List.cons.inj hda).1.symm
  have hd3:l.drop (i+1)=u:=(List.cons.inj hda).2.symm
  have Kr:=hp x (hx ▸ List.getElem_mem hlt)
  have w1:=rR (a:=i) (by omega)
  have hal:acc.length=i:=by rw [ha,aj1,aj4]; omega
  have ih:=Qo l hl hp u (i+1) (acc++[x.op]) hd3 hlt (by rw [ha,List.take_succ_eq_append_getElem hlt,hx,am3]; rfl)
  have h0:=Qn l acc x i Kr.1 x.params 0 [] rfl (ah8 _) rfl
  have h54:=c54 _ x.body (ab6 _) Kr.2
  unfold Opn at h54
  have hap:=fun row b0 b1 b2 b3 u id hr=>aEc (l:=acc) (row:=row) (b0:=b0) (b1:=b1) (b2:=b2) (b3:=b3) (u:=u) (id:=id) hr (by omega)
  have hfz:rY (acc.length+1) 8=8:=rH
  have hfz0:rY 0 6=0:=rB
  obtain⟨xp,xn,xps,xh,⟨te,tl,tb⟩,xb⟩:=x
  simp only [H27,ZY,am3,ai3,al1,ab5,ac1,ac6,aj1,al6,hfz,hfz0,GF.op,GF.cells,GT.op,af8,ab9] at ih h0 h54
  rw [l9]
  simp -implicitDefEqProofs [-List.map_map,R8,ZY,hlt,hx,GF.cells,h0,h54,hap,aII,kT,l_,lE,w1,ih]
theorem c27 (l:List GF) (hl:l.length≤4400000000) (hp:∀f∈l,f.params.length≤4400000000∧GS.nJ f.body≤4400000000) (h:kP):KK 27 [.agg [.slice (l.map GF.cells) .no]] h=some (.ret (.agg [.slice ((l.map GF.op).map GF.cells) .no]),h):=by
 refine lD rfl (by simp [kM.nP,kM.pE,qA]) (lA (aAC _ _ _) ?_)
 have h1:=Qo l hl hp l 0 [] rfl (ah8 _) rfl
 have hfz0:rY 0 8=0:=rB
 simp only [ZY,al1,ac6,hfz0,ab9] at h1
 simp -implicitDefEqProofs [-List.map_map,m27,h1,lL,lF,putCells,kN]
end
section
open Go Hk
def Nf {α:Type}(P:α→Prop) (y:TR α):Prop:=(∀p,y≠.bad 15 p)∧∀v,y=.ok v→P v
section
variable {α β:Type}{P:α→Prop}{Q:β→Prop}
theorem Nf.ok {v:α}(h:P v):Nf P (.ok v):=⟨fun p h=>(by cases h),fun w h'=>by cases h'; exact h⟩
theorem Nf.bad {e p:Int}(h:e≠15):Nf P (.bad e p):=⟨fun q h'=>(by cases h'; exact h rfl),fun w h'=>by cases h'⟩
theorem Nf.bind {y:TR α}{f:α→TR β}(h:Nf P y) (hf:∀v,P v→Nf Q (f v)):Nf Q (y.bind f):=by
 cases y with
 | ok v=>exact hf v (h.2 v rfl)
 | bad e p=>exact Nf.bad fun he=>h.1 p (by rw [he])
theorem Nf.test {b:Bool}{e p:Int}(h:e≠15):Nf (fun _=>True) (rG b e p):=by
 unfold rG
 cases b
 ·exact Nf.bad h
 ·exact Nf.ok trivial
theorem Nf.AY {b:Bool}{p:Int}(h:b=true):Nf (fun _=>True) (rG b 15 p):=by
 subst h; exact Nf.ok trivial
end
def Hb (N:Nm mT):Prop:=∀p∈N,p.2.ty.label=0
def OkG (f:GF):Prop:=f.result.label=0∧∀q∈f.params,q.ty.label=0
def OkK (F:Kn):Prop:=∀p∈F,OkG p.2.1
theorem Nn {α:Type}{N:Nm α}{s:List UInt8}{v:α}(h:look N s=some v):∃p∈N,p.2=v:=by
 induction N with
 | nil=>cases h
 | cons a r ih =>
  obtain⟨n,t⟩:=a
  have h:(if n=s then some t else look r s)=some v:=h
  split at h
  ·cases h; exact⟨(n,v),by simp,rfl⟩
  ·obtain⟨p,hp,e⟩:=ih h
   exact⟨p,by simp [hp],e⟩
section
variable {N:Nm mT}(hN:Hb N)
include hN
theorem H6 {s:List UInt8}{p:Int}:Nf (fun t=>t.ty.label=0) (vV N s p):=by
 unfold vV
 cases h:look N s with
 | none=>exact Nf.bad (by decide)
 | some t =>
  obtain⟨p,hp,e⟩:=Nn h
  exact Nf.ok (e ▸ hN p hp)
theorem aBv {q:GP}(hq:q.ty.label=0) {k p:Int}{name:List UInt8}:Nf (fun _=>True) (Mx N q k p name):=by
 unfold Mx
 exact(Nf.test (by decide)).bind fun _ _=>(H6 hN).bind fun t ht=>(Nf.test (by decide)).bind fun _ _=>Nf.AY (by simp [q9,ht,hq])
theorem Lv {s:List UInt8}{t:mT}(ht:t.ty.label=0) {p:Int}:Nf Hb (Ap N s t p):=by
 unfold Ap
 cases look N s with
 | some _=>exact Nf.bad (by decide)
 | none =>
  refine Nf.ok fun p hp=>?_
  rcases List.mem_append.1 hp with hp | hp
  ·exact hN p hp
  ·rw [List.mem_singleton.1 hp]; exact ht
theorem Zj (s:List UInt8):Hb (Dt N s):=by
 have:∀N:Nm mT,∀p∈Dt N s,p∈N:=fun N=>by
  induction N with
  | nil=>intro p hp; cases hp
  | cons a r ih =>
   obtain⟨n,t⟩:=a
   intro p hp
   have hp:p∈(if n=s then r else(n,t)::Dt r s):=hp
   split at hp
   ·simp [hp]
   ·rcases List.mem_cons.1 hp with rfl | hp
    ·simp
    ·simp [ih p hp]
 exact fun p hp=>hN p (this N p hp)
end
theorem H8:∀(l:List GS) {N:Nm mT},Hb N→Hb (zM l N)
 | [],_,h=>h
 | .mk k p m name ty args body els has::r,N,h=>by
  rw [zM]
  split
  ·exact H8 r (Zj h _)
  ·exact H8 r h
section
variable {F:Kn}{N:Nm mT}(hF:OkK F) (hN:Hb N)
theorem ai8:∀{l:List GT},(∀t∈l,t.label=0)→Sg l 0=0
 | [],_=>rfl
 | t::r,h=>by
  show Sg r (max 0 t.label)=0
  rw [h t (by simp)]
  exact ai8 fun x hx=>h x (by simp [hx])
include hF hN
mutual
theorem Sj:∀x:GE,Nf (fun t=>t.label=0) (xB F N x)
 | .mk k p n name args=>by
  rw [xB]
  by_cases h1:k=1
  ·rw [if_pos h1]; exact Nf.ok rfl
  rw [if_neg h1]
  by_cases h2:k=2
  ·rw [if_pos h2]; exact(H6 hN).bind fun t ht=>(Nf.test (by decide)).bind fun _ _=>Nf.ok ht
  rw [if_neg h2]
  by_cases h3:k=3
  ·rw [if_pos h3]; exact(Si 0 args).bind fun _ _=>(H6 hN).bind fun t ht=>(Nf.test (by decide)).bind fun _ _=>Nf.ok ht
  rw [if_neg h3]
  by_cases h4:k=4
  ·rw [if_pos h4]
   cases h:look F name with
   | none=>exact Nf.bad (by decide)
   | some a =>
    obtain⟨f,c⟩:=a
    obtain⟨q,hq,e⟩:=Nn h
    have hf:=hF q hq
    rw [e] at hf
    exact(Nf.test (by decide)).bind fun _ _=>(NJ f.params args hf.2).bind fun _ _=>(Nf.test (by decide)).bind fun _ _=>Nf.ok hf.1
  rw [if_neg h4]
  exact(Zi args).bind fun l hl=>(Nf.test (by decide)).bind fun _ _=>(Nf.test (by decide)).bind fun _ _=>Nf.ok (ai8 hl)
theorem Zi:∀l:List GE,Nf (fun l=>∀t∈l,t.label=0) (wM F N l)
 | []=>by rw [wM]; exact Nf.ok (fun t ht=>by cases ht)
 | x::r=>by
  rw [wM]
  exact(Sj x).bind fun t ht=>(Zi r).bind fun l hl=>Nf.ok fun y hy=>by
   rcases List.mem_cons.1 hy with rfl | hy
   ·exact ht
   ·exact hl y hy
theorem Si (elem:Int):∀l:List GE,Nf (fun _=>True) (CI F N elem l)
 | []=>by rw [CI]; exact Nf.ok trivial
 | x::_=>by
  rw [CI]
  exact(Sj x).bind fun t ht=>(Nf.test (by decide)).bind fun _ _=>Nf.AY (by simp [ht])
theorem NJ:∀(ps:List GP) (l:List GE),(∀q∈ps,q.ty.label=0)→Nf (fun _=>True) (rT F N ps l)
 | [],_,_=>by rw [rT]; exact Nf.ok trivial
 | _::_,[],_=>by rw [rT]; exact Nf.ok trivial
 | q::ps,x::r,h=>by
  rw [rT]
  refine Nf.bind (P:=fun _=>True) ?_ fun _ _=>NJ ps r fun y hy=>h y (by simp [hy])
  split
  ·exact(Sj x).bind fun t ht=>(Nf.test (by decide)).bind fun _ _=>Nf.AY (by simp [q9,ht])
  ·exact aBv hN (h q (by simp))
end
theorem Lu:∀l:List GE,Nf (fun t=>t.label=0) (Gf F N l)
 | []=>Nf.ok rfl
 | x::_=>Sj hF hN x
theorem asD (x:GE):Nf (fun _=>True) (Cd F N x):=by
 unfold Cd
 cases h:look F x.name with
 | none=>exact Nf.bad (by decide)
 | some a =>
  obtain⟨f,c⟩:=a
  obtain⟨q,hq,e⟩:=Nn h
  have hf:=hF q hq
  rw [e] at hf
  exact(Nf.test (by decide)).bind fun _ _=>(NJ hF hN f.params x.args hf.2).bind fun _ _=>Nf.ok trivial
end
section
variable {F:Kn}{f:GF}(hF:OkK F) (hf:OkG f)
include hF hf
mutual
theorem Zh:∀(x:GS) (last:Bool) (N:Nm mT),Hb N→Nf Hb (yZ F f last N x.op)
 | .mk k p m name ty args body els has,last,N,hN=>by
  simp only [GS.op,yZ]
  by_cases h1:k=1
  ·rw [if_pos h1]; exact(Lu hF hN args).bind fun t ht=>Lv hN ht
  rw [if_neg h1]
  by_cases h2:k=2
  ·rw [if_pos h2]; exact(Lv (t:=⟨ty.op,false⟩) hN rfl).bind fun N' h'=>(Nf.test (by decide)).bind fun _ _=>Nf.ok h'
  rw [if_neg h2]
  by_cases h3:k=3
  ·rw [if_pos h3]
   exact(Lu hF hN args).bind fun v hv=>(H6 hN).bind fun t ht=>(Nf.test (by decide)).bind fun _ _=>(Nf.AY (by simp [q9,hv])).bind fun _ _=>Nf.ok hN
  rw [if_neg h3]
  by_cases h4:k=4
  ·rw [if_pos h4]
   exact(Si hF hN 0 args).bind fun _ _=>(Lu hF hN args.tail).bind fun v hv=>(H6 hN).bind fun t ht=>(Nf.test (by decide)).bind fun _ _=>(Nf.AY (by simp [q9,hv])).bind fun _ _=>Nf.ok hN
  rw [if_neg h4]
  by_cases h5:k=5
  ·rw [if_pos h5]
   exact(Si hF hN 1 args).bind fun _ _=>(H7 body N hN).bind fun N1 h1=>(H7 els _ (H8 _ h1)).bind fun N2 h2=>Nf.ok (H8 _ h2)
  rw [if_neg h5]
  by_cases h6:k=6
  ·rw [if_pos h6]
   exact(Si hF hN 0 args).bind fun _ _=>(Lv (t:=⟨GT.zero,true⟩) hN rfl).bind fun N1 h1=>(Nf.test (by decide)).bind fun _ _=>(H7 body N1 h1).bind fun N2 h2=>Nf.ok (Zj (H8 _ h2) _)
  rw [if_neg h6]
  by_cases h7:k=7
  ·rw [if_pos h7]
   cases args with
   | nil=>exact Nf.ok hN
   | cons x r=>exact(asD hF hN x).bind fun _ _=>Nf.ok hN
  rw [if_neg h7]
  by_cases h8:k=8
  ·rw [if_pos h8]
   exact(Lu hF hN args).bind fun v hv=>(Nf.test (by decide)).bind fun _ _=>(Nf.AY (by simp [q9,hv])).bind fun _ _=>Nf.ok hN
  rw [if_neg h8]; exact Nf.ok hN
theorem H7:∀(l:List GS) (N:Nm mT),Hb N→Nf Hb (tG F f N (GS.ops l))
 | [],N,hN=>by rw [GS.ops,tG]; exact Nf.ok hN
 | x::r,N,hN=>by
  rw [GS.ops,tG]
  exact(Zh x false N hN).bind fun N' h'=>H7 r N' h'
end
theorem Zg:∀(l:List GS) (N:Nm mT),Hb N→Nf Hb (yI F f N (GS.ops l))
 | [],N,hN=>by rw [GS.ops,yI]; exact Nf.ok hN
 | x::r,N,hN=>by
  rw [GS.ops,yI]
  exact(Zh hF hf x _ N hN).bind fun N' h'=>Zg r N' h'
end
theorem Qw:∀(l:List GP) (N:Nm mT),Hb N→Nf Hb (vD N (l.map GP.op))
 | [],N,hN=>Nf.ok hN
 | q::r,N,hN=>by
  rw [ai3,vD]
  exact(Lv (t:=⟨q.op.ty,!q.op.out⟩) hN rfl).bind fun N' h'=>(Nf.test (by decide)).bind fun _ _=>(Nf.test (by decide)).bind fun _ _=>Qw r N' h'
theorem ai7 (f:GF):OkG f.op:=⟨rfl,fun q hq=>by
 have hq:q∈f.params.map GP.op:=hq
 obtain⟨p,_,rfl⟩:=List.mem_map.1 hq
 rfl⟩
theorem asE {F:Kn}(hF:OkK F) (f:GF):Nf OkK (AE F f.op):=by
 unfold AE
 cases look F f.op.name with
 | some _=>exact Nf.bad (by decide)
 | none=>exact(Qw f.params [] (fun p hp=>by cases hp)).bind fun N hN=>(Zg hF (ai7 f) f.body N hN).bind fun _ _=>(Nf.test (by decide)).bind fun _ _=>Nf.ok fun p hp=>(List.mem_append.1 hp).elim (hF p) fun hp=>by rw [List.mem_singleton.1 hp]; exact ai7 f
theorem UO:∀(l:List GF) (F:Kn),OkK F→Nf OkK (uF F (l.map GF.op))
 | [],F,hF=>Nf.ok hF
 | f::r,F,hF=>by
  rw [ai3,uF]
  exact(asE hF f).bind fun F' h'=>UO r F' h'
theorem W4:∀(l:List GP) (i o:Int),Nf (fun _=>True) (EU l i o)
 | [],i,o=>Nf.ok trivial
 | q::r,i,o=>by
  rw [EU]
  refine(Nf.test (by decide)).bind fun _ _=>?_
  split
  ·exact W4 r _ _
  ·exact W4 r _ _
theorem asG (l:List GF):Nf (fun _=>True) (DF l):=by
 unfold DF
 cases l.getLast? with
 | none=>exact Nf.bad (by decide)
 | some f=>exact(Nf.test (by decide)).bind fun _ _=>(Nf.test (by decide)).bind fun _ _=>(W4 f.params 0 0).bind fun io _=>Nf.test (by decide)
theorem asF {l:List GF}(h:(qE (l.map GF.op)).2=0):Nf (fun _=>True) (Be (l.map GF.op)):=by
 unfold Be
 rw [if_neg (by simp [h])]
 exact(UO l [] (fun p hp=>by cases hp)).bind fun F _=>(asG _).bind fun _ _=>Nf.ok trivial
mutual
theorem alC:∀x:GS,pX x=true→pX x.op=true
 | .mk k p m name ty args body els has,h=>by
  simp only [pX,ac5] at h
  obtain⟨⟨h1,h2⟩,h3⟩:=h
  have len:∀l:List GS,(GS.ops l).length=l.length:=fun l=>by
   induction l with
   | nil=>rfl
   | cons x r ih=>simp [GS.ops,ih]
  simp only [GS.op,pX,ac5,len]
  refine⟨⟨?_,F3 body h2⟩,F3 els h3⟩
  unfold lR at h1 ⊢
  split at h1
  ·cases h1
  ·rename_i n hn
   simp only [ac5] at h1 ⊢
   obtain⟨⟨⟨⟨⟨⟨⟨⟨a1,a2⟩,a3⟩,a4⟩,a5⟩,a6⟩,a7⟩,a8⟩,a9⟩:=h1
   refine⟨⟨⟨⟨⟨⟨⟨⟨a1,a2⟩,a3⟩,a4⟩,?_⟩,a6⟩,a7⟩,a8⟩,a9⟩
   by_cases hk:(k == 2)=true
   ·rw [if_pos hk] at a5 ⊢
    unfold sJ at a5 ⊢
    simp only [ac5] at a5 ⊢
    exact⟨⟨by simp [GT.op],a5.1.2⟩,a5.2⟩
   ·rw [if_neg hk] at a5 ⊢
    have:ty=GT.zero:=by simpa using a5
    subst this; rfl
theorem F3:∀l:List GS,nW l=true→nW (GS.ops l)=true
 | [],_=>rfl
 | x::r,h=>by
  simp only [nW,ac5] at h
  simp only [GS.ops,nW,ac5]
  exact⟨alC x h.1,F3 r h.2⟩
end
mutual
theorem aiZ:∀x:GS,qT x.op=qT x
 | .mk k p m name ty args body els has=>by simp only [GS.op,qT,DG body,DG els]
theorem DG:∀l:List GS,nX (GS.ops l)=nX l
 | []=>rfl
 | x::r=>by simp only [GS.ops,nX,aiZ x,DG r]
end
theorem VF {t:GT}(h:sJ t=true):sJ t.op=true:=by
 unfold sJ at h ⊢
 simp only [ac5] at h ⊢
 exact⟨⟨by simp [GT.op],h.1.2⟩,h.2⟩
theorem VG {f:GF}(h:o0 f=true):o0 f.op=true:=by
 unfold o0 at h ⊢
 simp only [ac5] at h ⊢
 obtain⟨⟨⟨h1,h2⟩,h3⟩,h4⟩:=h
 refine⟨⟨⟨h1,F3 _ h2⟩,?_⟩,?_⟩
 ·show(f.params.map GP.op).all uU=true
  rw [List.all_map,ae8]
  intro q hq
  have:=ae8.1 h3 q hq
  unfold uU at this
  simp only [ac5] at this
  show uU q.op=true
  unfold uU
  simp only [ac5]
  exact⟨this.1,VF this.2⟩
 ·show(if f.has=true then sJ f.result.op && f.result.op.len == 0 && f.result.op.elem != 2 else f.result.op == GT.zero)=true
  by_cases hh:f.has=true
  ·rw [if_pos hh] at h4 ⊢
   simp only [ac5] at h4 ⊢
   exact⟨⟨VF h4.1.1,h4.1.2⟩,h4.2⟩
  ·rw [if_neg hh] at h4 ⊢
   have:f.result=GT.zero:=by simpa using h4
   rw [this]; rfl
theorem ajL {l:List GF}(hw:l.all o0=true) (hn:qJ (l.map vA)≤64):(qE l).2=0∧(qE (l.map GF.op)).2=0:=by
 have h1:(l.map GF.op).all o0=true:=by
  rw [List.all_map,ae8]
  exact fun f hf=>VG (ae8.1 hw f hf)
 have h2:(l.map GF.op).map vA=l.map vA:=by
  rw [List.map_map]
  exact List.map_congr_left fun f _=>by show qJ (nX (GS.ops f.body))+1=_; rw [DG]; rfl
 unfold qE
 rw [if_pos hw,if_pos h1,h2,if_neg (by omega),if_neg (by omega)]
 exact⟨rfl,rfl⟩
theorem Yl (v:Int×Int):(if 65536 < v.1 then((18:Int),v.2) else(0,0)).1≠15:=by
 by_cases h:65536 < v.1
 ·rw [if_pos h]; exact fun h=>absurd (show(18:Int)=15 from h) (by decide)
 ·rw [if_neg h]; exact fun h=>absurd (show(0:Int)=15 from h) (by decide)
theorem XA {l:List GF}(hw:l.all o0=true) (hn:qJ (l.map vA)≤64):((rD l).1=0→(rD (l.map GF.op)).1=0∧Bt l=Bt (l.map GF.op))∧(rD (l.map GF.op)).1≠15∧((rD l).1=15∨rD l=rD (l.map GF.op)):=by
 obtain⟨h1,h2⟩:=ajL hw hn
 have hs:=atL h1 h2
 have hn:=asF h2
 unfold rD Bt
 cases hx:Be l with
 | ok v =>
  rw [hs.1 v hx]
  refine⟨fun h=>⟨h,rfl⟩,?_,.inr rfl⟩
  exact Yl v
 | bad e p =>
  by_cases he:e=15
  ·subst he
   refine⟨fun h=>absurd (show(15:Int)=0 from h) (by decide),?_,.inl rfl⟩
   cases hy:Be (l.map GF.op) with
   | ok v =>
    exact Yl v
   | bad e p=>exact fun h=>hn.1 p (by rw [hy]; exact congrArg (fun z=>TR.bad z p) h)
  ·rw [hs.2 e p hx he]
   exact⟨fun h=>⟨h,rfl⟩,he,.inr rfl⟩
end
end Go.Proofs.YtlddmnojanpdoaaGreatDoor
