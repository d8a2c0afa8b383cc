/-
  The texts LK.J9, LK.M6, LK.J10, LK.PT, one behind another. No conditions.
-/
import Derived.Test.YtaaccaifoddaiaaGreatLk4
import Derived.Test.YtaaccaifoddaiaaGreatLk1
import Derived.Test.YtaaccaifoddaiaaGreatVk3
import Derived.ScopeJumps
set_option linter.unusedVariables false
set_option linter.unusedSimpArgs false
set_option linter.all false
open List renaming drop_eq_getElem_cons → al3, drop_of_length_le → aq8
namespace Go.Proofs.YtaaccaifoddaiaaGreat
section
open Go Hk
section
variable {f g:List UInt8}{O R:Nat}(hz:Ew (nO g.length O R) (f.length:Int)=0) (handler:Int)
include hz
theorem step_eq {s:St}{M:List UInt8}{p:List pF}(hr:Rel f g O R M p) :
  (qD handler f.length g.length O R f s M).1=(pK handler f g O R s p).1∧(qD handler f.length g.length O R f s M).2.1=(pK handler f g O R s p).2.1∧(qD handler f.length g.length O R f s M).2.2.1=(pK handler f g O R s p).2.2.1∧Rel f g O R (qD handler f.length g.length O R f s M).2.2.2 (pK handler f g O R s p).2.2.2:=by
 unfold qD pK onS onR
 by_cases h1:s.pc%2≠0∨(f.length:Int)≤s.pc
 ·rw [if_pos h1,if_pos h1];exact⟨rfl,rfl,rfl,hr⟩
 rw [if_neg h1,if_neg h1]
 by_cases h2:(mY (f.drop s.pc.toNat)).2.2≠0
 ·rw [if_pos h2,if_pos h2];exact⟨rfl,rfl,rfl,hr⟩
 rw [if_neg h2,if_neg h2]
 by_cases h3:(rY s (mY (f.drop s.pc.toNat)).1).2=true
 ·rw [if_pos h3,if_pos h3]
  have ab:=Hr (s:=s) (i:=(mY (f.drop s.pc.toNat)).1)
  rcases acR hz hr (ab.2.2 h3) with ⟨e1,e2⟩ | ⟨v,M',p',e1,e2,e3⟩
  ·rw [e1,e2];exact⟨rfl,rfl,rfl,hr⟩
  ·rw [e1,e2];exact⟨rfl,rfl,rfl,e3⟩
 ·rw [if_neg h3,if_neg h3];exact⟨rfl,rfl,rfl,hr⟩
theorem af1:∀(n:Nat) (s:St) (dn:Bool) (M:List UInt8) (p:List pF),Rel f g O R M p→Oh handler f.length g.length O R f n s dn M=Va handler f g O R n s dn p
 | 0,_,_,_,_,_=>rfl
 | n+1,s,dn,M,p,hr=>by
  unfold Oh Va
  cases dn with
  | true=>rfl
  | false =>
   obtain⟨e1,e2,e3,e4⟩:=step_eq hz handler (s:=s) hr
   rw [if_neg (by simp),if_neg (by simp),e1,e2,e3,af1 n _ _ _ _ e4]
end
theorem XX (f g:List UInt8) (b:Int):tU f g b=Ji f g b:=by
 unfold tU Ji
 by_cases he:(uH f).2≠0
 ·rw [if_pos he,if_pos he]
 rw [if_neg he,if_neg he]
 by_cases hg:(g.length:Int)≠(rH f).sizes.inn
 ·rw [if_pos hg,if_pos hg]
 rw [if_neg hg,if_neg hg]
 by_cases hb:b<0∨1048576<b
 ·rw [if_pos hb,if_pos hb]
 rw [if_neg hb,if_neg hb]
 obtain⟨hp,hz,hl,hr,hh⟩:=MN (Decidable.not_not.1 he)
 have hs:=Tz f
 have hq:(rH f).sizes=nO g.length (rH f).sizes.outt.toNat (rH f).sizes.rail.toNat:=by
  obtain⟨a0,a1,b0,b1,c0,c1⟩:=hs
  have hg:=Decidable.not_not.1 hg
  generalize (rH f).sizes=z at *
  obtain⟨i,o,r⟩:=z
  dsimp only at *
  unfold nO
  rw [hg]
  congr 1 <;> omega
 rw [hq] at hz
 rw [af1 hz _ _ _ _ _ _ (aD8 hz)]
noncomputable def Gf:List Ev→List Ev→Nat→Int
 | [],[],_=>-1
 | [],_::_,k=>k
 | _::_,[],k=>k
 | x::a,y::b,k=>if x=y then Gf a b (k+1) else k
theorem aeM (x y:Ev):((x.kind == y.kind)&&((x.pc == y.pc)&&((x.addr == y.addr)&&((x.cycles == y.cycles)&&true))))=decide (x=y):=by
 obtain⟨a,b,c,d⟩:=x
 obtain⟨a',b',c',d'⟩:=y
 by_cases h1:a=a' <;> by_cases h2:b=b' <;> by_cases h3:c=c' <;> by_cases h4:d=d' <;> simp [h1,h2,h3,h4]
theorem Oa {α:Type}{l:List α}{j:Nat}(h:j<l.length):sF l (j:Int)=some l[j]:=by unfold sF;rw [if_pos (by omega)];simp [h]
section
variable (a b:List Ev) (ha:a.length<4611686018427387904) (hb:b.length<4611686018427387904)
include ha hb
theorem l18:∀d j:Nat,j+d=min a.length b.length→(∃i,rX (AH a b (min (a.length:Int) (b.length:Int))) (0,(j:Int))=some (.x 0,(0,i))∧Gf (a.drop j) (b.drop j) j=(if (a.length:Int)=(b.length:Int) then -1 else min (a.length:Int) (b.length:Int)))∨∃k,rX (AH a b (min (a.length:Int) (b.length:Int))) (0,(j:Int))=some (.r,(k,k))∧Gf (a.drop j) (b.drop j) j=k:=by
 intro d
 induction d with
 | zero =>
  intro j hj
  left
  refine⟨(j:Int),mV ?_ (by simp),?_⟩
  ·unfold AH
   dsimp only
   rw [mT (by omega),kX]
  ·by_cases h1:a.length≤j
   ·rw [aq8 h1]
    by_cases h2:b.length≤j
    ·rw [aq8 h2,if_pos (by omega)];rfl
    ·rw [al3 (by omega),if_neg (by omega)]
     show((j:Nat):Int)=_
     omega
   ·rw [al3 (l:=a) (by omega),aq8 (l:=b) (by omega),if_neg (by omega)]
    show((j:Nat):Int)=_
    omega
 | succ d ih =>
  intro j hj
  have j1:j<a.length:=by omega
  have j2:j<b.length:=by omega
  have st:AH a b (min (a.length:Int) (b.length:Int)) (0,(j:Int))=if a[j]=b[j] then some (.n,(0,((j+1:Nat):Int))) else some (.r,((j:Int),(j:Int))):=by
   unfold AH
   dsimp only
   rw [n9 (show(j:Int)<min (a.length:Int) (b.length:Int) by omega),lD,Oa j1,kS,Oa j2,kS,aeM,lP _ (by omega) (by omega)]
   by_cases h:a[j]=b[j]
   ·rw [n9 h,if_pos h];rfl
   ·rw [mT h,if_neg h];rfl
  rw [al3 j1,al3 j2]
  unfold Gf
  by_cases h:a[j]=b[j]
  ·rw [if_pos h] at st ⊢
   rw [oB st]
   exact ih (j+1) (by omega)
  ·rw [if_neg h] at st ⊢
   exact Or.inr ⟨(j:Int),mV st (by simp),rfl⟩
theorem XG:t10 a b=some (Gf a b 0):=by
 have q:=l18 a b ha hb (min a.length b.length) 0 (by omega)
 rw [List.drop_zero,List.drop_zero] at q
 unfold t10 t18
 rw [show((0:Int),(0:Int))=(0,((0:Nat):Int)) from rfl]
 rcases q with ⟨i,e,h⟩ | ⟨k,e,h⟩
 ·rw [e,h]
  simp only [kS,uL,vO]
  by_cases he:(a.length:Int)=(b.length:Int)
  ·rw [n9 he,if_pos he];rfl
  ·rw [mT he,if_neg he];rfl
 ·rw [e,h];rfl
theorem l13:∀d j:Nat,j+d=max a.length b.length→(∃i,rX (yB a b) (0,(j:Int))=some (.x 0,(0,i))∧Gf (a.drop j) (b.drop j) j=-1)∨∃k,rX (yB a b) (0,(j:Int))=some (.r,(k,k))∧Gf (a.drop j) (b.drop j) j=k:=by
 intro d
 induction d with
 | zero =>
  intro j hj
  left
  refine⟨(j:Int),mV ?_ (by simp),?_⟩
  ·unfold yB BD
   dsimp only
   rw [mT (by omega),kX,mT (by omega),kX]
  ·rw [aq8 (by omega),aq8 (by omega)];rfl
 | succ d ih =>
  intro j hj
  by_cases h1:a.length≤j
  ·have j2:j<b.length:=by omega
   right
   refine⟨(j:Int),mV ?_ (by simp),?_⟩
   ·unfold yB BD CN CO
    dsimp only
    rw [mT (show ¬(j:Int)<(a.length:Int) by omega),kX,n9 (show(j:Int)<(b.length:Int) by omega),lD,n9 (show(a.length:Int)≤(j:Int) by omega),lD,lD,lD]
   ·rw [aq8 h1,al3 j2];rfl
  ·have j1:j<a.length:=by omega
   by_cases h2:b.length≤j
   ·right
    refine⟨(j:Int),mV ?_ (by simp),?_⟩
    ·unfold yB BD CN CO
     dsimp only
     rw [n9 (show(j:Int)<(a.length:Int) by omega),lD,lD,mT (show ¬(a.length:Int)≤(j:Int) by omega),kX,n9 (show(b.length:Int)≤(j:Int) by omega),lD,lD]
    ·rw [aq8 h2,al3 j1];rfl
   ·have j2:j<b.length:=by omega
    have st:yB a b (0,(j:Int))=if a[j]=b[j] then some (.n,(0,((j+1:Nat):Int))) else some (.r,((j:Int),(j:Int))):=by
     unfold yB BD CN CO
     dsimp only
     rw [n9 (show(j:Int)<(a.length:Int) by omega),lD,lD,mT (show ¬(a.length:Int)≤(j:Int) by omega),kX,mT (show ¬(b.length:Int)≤(j:Int) by omega),kX,Oa j1,kS,Oa j2,kS,aeM,lP _ (by omega) (by omega)]
     by_cases h:a[j]=b[j]
     ·rw [n9 h,if_pos h];rfl
     ·rw [mT h,if_neg h];rfl
    rw [al3 j1,al3 j2]
    unfold Gf
    by_cases h:a[j]=b[j]
    ·rw [if_pos h] at st ⊢
     rw [oB st]
     exact ih (j+1) (by omega)
    ·rw [if_neg h] at st ⊢
     exact Or.inr ⟨(j:Int),mV st (by simp),rfl⟩
theorem azL:t13 a b=some (Gf a b 0):=by
 have q:=l13 a b ha hb (max a.length b.length) 0 (by omega)
 rw [List.drop_zero,List.drop_zero] at q
 unfold t13
 rw [show((0:Int),(0:Int))=(0,((0:Nat):Int)) from rfl]
 rcases q with ⟨i,e,h⟩ | ⟨k,e,h⟩
 ·rw [e,h];rfl
 ·rw [e,h];rfl
end
end
noncomputable section
open Go Hk
noncomputable def m3 (K:kT) (a0 a1 a2 a3:kN) (h0:kO):OH :=
 (zE K 4 a0 h0 fun t0 h1=>(lC 0 t0).bind fun t2=>(lC 1 t0).bind fun t3=>kW (lR 6 h1 (.agg [zO,zO,zO,zO,zO,zO])) fun t4 h5=>(kR 6 h5 t4 t2).bind fun h6=>(nG a0).bind fun t7=>(lF .gtr t7 (400:Int)).bind fun t8=>nI false t8 (some a3) h6 fun t9 aI=>nI false t8 (lF .gtr t9 (60:Int)) aI fun bF aJ=>nI false t8 (some bF) aJ fun t14 aK=>nI true t14 (some a3) aK fun t16 aL=>nI true t14 (lF .leq t16 (1048576:Int)) aL fun bG aM=>nI false t8 (lH t14 bG false) aM fun bH aN=>(lH t8 true bH).bind fun t24=>nI false t24 (some t3) aN fun bI aO=>nI false t24 (lF .eql bI zO) aO fun bJ aP=>nI false t24 (some bJ) aP fun aA aQ=>nI true aA (kQ 2 t4) aQ fun t33 aR=>nI true aA (kQ 1 t33) aR fun t36 aD=>nI true aA (kY false 1 aD t36) aD fun bK aS=>nI true aA (kQ 2 t4) aS fun t42 aT=>nI true aA (kQ 2 t42) aT fun t45 aE=>nI true aA (kY false 1 aE t45) aE fun t48 aU=>nI true aA (lF .add bK t48) aU fun bL aV=>nI true aA (lF .gtr bL (400:Int)) aV fun t54 aW=>nI false t24 (lH aA t54 false) aW fun t57 aF=>(lH t24 true t57).bind fun bM=>kV bM (kq0 K 5 aF fun bN aX=>some (.ret,[bN],aX)) (Ym K 6 a0 a1 a2 a3 aF fun t62 aY=>(lC 0 t62).bind fun t64=>(lC 1 t62).bind fun t65=>Ym K 7 a0 a1 a2 a3 aY fun t66 aZ=>(lC 0 t66).bind fun t68=>(lC 1 t66).bind fun bO=>(lF .eql t64 t68).bind fun aC=>nI true aC (some t65) aZ fun t71 a_=>nI true aC (some bO) a_ fun t73 bA=>nI true aC (lF .eql t71 t73) bA fun t76 aG=>(lH aC t76 false).bind fun t78=>gq true t78 (lW (K 5 [] aG) (fun bP bB=>lI bP bB) Gg) aG fun bQ bD=>(lH t78 bQ false).bind fun bR=>some (.ret,[bR],bD))).bind fun aH=>Jr aH.2 fun aB bE=>Ex.oH aH.1 (oM (List.length h0) aB bE)
theorem av5 K a0 a1 a2 a3 h0:nN K 3 [a0,a1,a2,a3] h0=m3 (lG mJ K) a0 a1 a2 a3 h0:=by kernel_rfl
noncomputable def m5 (K:kT) (h0:kO):OH :=
 ((lB [zO,zO,zO,zO] [(0,1),(1,1),(2,1),(3,1)] [(1,(2:Int))]).bind fun t0=>(lB [zO,zO,zO,zO] [(0,1),(1,1),(2,1),(3,1)] [(1,(4:Int))]).bind fun t1=>kW (lE 2 4 [zO,zO,zO,zO] [(0,t0),(1,t1)] h0) fun t2 h3=>(n8 4 t2 none (some (1:Int))).bind fun t4=>yG K 10 t2 t4 h3 fun t5 h6=>(lF .eql t5 (1:Int)).bind fun t7=>nI true t7 (some t2) h6 fun t8 h9=>nI true t7 (some t2) h9 fun t10 aB=>gq true t7 (lW (Yp K 10 t8 t10 aB) (fun aH aD=>lI aH aD) Gg) aB fun t14 aE=>nI true t7 (lF .eql t14 (-1:Int)) aE fun t17 aF=>(lH t7 t17 false).bind fun aI=>some (.ret,[aI],aF)).bind fun aC=>Jr aC.2 fun aA aG=>Ex.oH aC.1 (oM (List.length h0) aA aG)
theorem av8 K h0:nN K 5 [] h0=m5 (lG mJ K) h0:=by kernel_rfl
end
noncomputable section
open Go Hk
theorem Ua {handler:Int}{L I O R:Nat}{f:List UInt8}:∀(n:Nat) (s:St) (dn:Bool) (M:List UInt8),(Oh handler L I O R f n s dn M).length≤n
 | 0,_,_,_=>by simp [Oh]
 | n+1,s,dn,M=>by
  unfold Oh
  cases dn with
  | true=>simp
  | false =>
   rw [if_neg (by simp),List.length_cons]
   have:=Ua (handler:=handler) (L:=L) (I:=I) (O:=O) (R:=R) (f:=f) n (qD handler L I O R f s M).2.1 (qD handler L I O R f s M).2.2.1 (qD handler L I O R f s M).2.2.2
   omega
theorem AL (f g:List UInt8) (b:Int):(tU f g b).1.length≤1048576:=by
 unfold tU
 split
 ·simp
 ·split
  ·simp
  ·split
   ·simp
   ·rename_i h
    have:=Ua (handler:=(rH f).handler) (L:=f.length) (I:=g.length) (O:=(rH f).sizes.outt.toNat) (R:=(rH f).sizes.rail.toNat) (f:=f) b.toNat (SY (rH f).reset) false (z8 f g (rH f).sizes.outt.toNat (rH f).sizes.rail.toNat)
    dsimp only
    omega
noncomputable def HY (f a b:List UInt8) (n:Int):Int×Int :=
 if (tU f a n).2≠0 then(0,(tU f a n).2) else if (tU f b n).2≠0 then(0,(tU f b n).2) else(Gf (tU f a n).1 (tU f b n).1 0,0)
section
variable (f a b:List UInt8) (hf:f.length≤9223372036854775807) (n:Int) (h:kO)
include hf
theorem c6:KK 6 [.str f,.str a,.str b,.int .i64 n] h=some (.ret (.tuple [.int .i64 (HY f a b n).1,.int .i64 (HY f a b n).2]),h):=by
 refine qC rfl rfl (av9 ..) ?_
 have k1:=fun h=>c11 f a hf n h
 have k2:=fun h=>c11 f b hf n h
 have l1:=AL f a n
 have l2:=AL f b n
 unfold HY
 generalize tU f a n=x at *
 generalize tU f b n=y at *
 obtain⟨x,e⟩:=x
 obtain⟨y,e2⟩:=y
 dsimp only at *
 have k10:∀h,KK 10 [.slice (Rw Ev.cells x) .no,.slice (Rw Ev.cells y) .no] h=some (.ret (.int .i64 (Gf x y 0)),h):=fun h=>by rw [r10,XG x y (by omega) (by omega)];rfl
 by_cases h1:e=0
 ·by_cases h2:e2=0
  ·simp -implicitDefEqProofs [m6,k1,k2,k10,h1,h2]
  ·simp -implicitDefEqProofs [m6,k1,k2,h1,h2]
 ·simp -implicitDefEqProofs [m6,k1,h1]
theorem c7 (hn:n<900000∨1048576<n):KK 7 [.str f,.str a,.str b,.int .i64 n] h=some (.ret (.tuple [.int .i64 (HY f a b n).1,.int .i64 (HY f a b n).2]),h):=by
 refine qC rfl rfl (awB ..) ?_
 have k1:=fun h=>c12 f a hf n hn h
 have k2:=fun h=>c12 f b hf n hn h
 have l1:=AL f a n
 have l2:=AL f b n
 simp only [←XX] at k1 k2
 unfold HY
 generalize tU f a n=x at *
 generalize tU f b n=y at *
 obtain⟨x,e⟩:=x
 obtain⟨y,e2⟩:=y
 dsimp only at *
 have k13:∀h,KK 13 [.slice (Rw Ev.cells x) .no,.slice (Rw Ev.cells y) .no] h=some (.ret (.int .i64 (Gf x y 0)),h):=fun h=>by rw [r13,azL x y (by omega) (by omega)];rfl
 by_cases h1:e=0
 ·by_cases h2:e2=0
  ·simp -implicitDefEqProofs [m7,k1,k2,k13,h1,h2]
  ·simp -implicitDefEqProofs [m7,k1,k2,h1,h2]
 ·simp -implicitDefEqProofs [m7,k1,h1]
end
theorem c5 (h:kO):KK 5 [] h=some (.ret (.bool true),h):=by
 refine qC rfl rfl (av8 ..) ?_
 have k1:∀h,KK 10 [.slice (Rw Ev.cells [⟨0,2,0,0⟩,⟨0,4,0,0⟩]) .no,.slice (Rw Ev.cells [⟨0,2,0,0⟩]) .no] h=some (.ret (.int .i64 1),h):=fun h=>by rw [r10,XG _ _ (by decide) (by decide)];rfl
 have k2:∀h,KK 10 [.slice (Rw Ev.cells [⟨0,2,0,0⟩,⟨0,4,0,0⟩]) .no,.slice (Rw Ev.cells [⟨0,2,0,0⟩,⟨0,4,0,0⟩]) .no] h=some (.ret (.int .i64 (-1)),h):=fun h=>by rw [r10,XG _ _ (by decide) (by decide)];rfl
 have bs:∀h,lE 2 4 [(.int .i64 0),(.int .i64 0),(.int .i64 0),(.int .i64 0)] [(0,(.agg [.int .i64 0,.int .i64 2,.int .i64 0,.int .i64 0])),(1,(.agg [.int .i64 0,.int .i64 4,.int .i64 0,.int .i64 0]))] h=some (.slice (Rw Ev.cells [⟨0,2,0,0⟩,⟨0,4,0,0⟩]) (.own h.length),h++[qL 4 2]):=fun h=>rfl
 have sl:∀T,n8 4 (.slice (Rw Ev.cells [⟨0,2,0,0⟩,⟨0,4,0,0⟩]) T) none (some (.int .i64 1))=some (.slice (Rw Ev.cells [⟨0,2,0,0⟩]) .no):=fun T=>rfl
 simp -implicitDefEqProofs [m5,k1,k2,bs,sl,-OB]
theorem c3 (f a b:List UInt8) (hf:f.length≤9223372036854775807) (n:Int) (h:kO):KK 3 [.str f,.str a,.str b,.int .i64 n] h=some (.ret (.bool true),h):=by
 refine qC rfl rfl (av5 ..) ?_
 have k4:=fun h=>k4 f hf h
 have k6:=fun h=>c6 f a b hf n h
 have k5:=c5
 generalize uH f=P at *
 obtain⟨hd,e⟩:=P
 dsimp only at k4
 by_cases hn:n<900000∨1048576<n
 ·have k7:=fun h=>c7 f a b hf n h hn
  generalize HY f a b n=q at *
  by_cases h1:(400:Int)<(f.length:Int) <;> by_cases h2:60<n <;> by_cases h3:n≤1048576 <;> by_cases h4:e=0 <;> by_cases h5:400<IntKind.i64.wrap (hd.sizes.outt+hd.sizes.rail) <;> simp -implicitDefEqProofs [m3,k4,k5,k6,k7,h1,h2,h3,h4,h5]
 ·have h2:60<n:=by omega
  have h3:n≤1048576:=by omega
  by_cases h1:(400:Int)<(f.length:Int) <;> simp -implicitDefEqProofs [m3,k4,k5,h1,h2,h3]
end
noncomputable section
open Go Hk
noncomputable def sL:Code→Code | .seq a _=>a | c=>c
noncomputable def sR:Code→Code | .seq _ b=>b | c=>c
noncomputable def scP:Code→Code | .scope a=>a | c=>c
noncomputable def cT:Code→Code | .cond _ a _=>a | c=>c
noncomputable def ahX:Code:=Tryz.f155.body.getD .skip
noncomputable def pR0:Code:=sL ahX
noncomputable def pR1:Code:=sL (scP (sR ahX))
noncomputable def pRX:Code:=sR (sR (scP (sR ahX)))
noncomputable def pR2:Code:=sL (sL pRX)
noncomputable def pR3:Code:=sL (cT (sR (sL pRX)))
noncomputable def pR4:Code:=sL (sR (cT (sR (sL pRX))))
noncomputable def pR5:Code:=sL (sR (sR (cT (sR (sL pRX)))))
noncomputable def pR6:Code:=sL (sR pRX)
theorem Xt:Tryz.f155.body=some (.seq pR0 (.scope (.seq pR1 (.seq (.label 0) (.seq (.seq pR2 (.cond (.tmp 10) (.seq pR3 (.seq pR4 (.seq pR5 (.goto 0)))) .skip)) (.seq pR6 .ret)))))):=by kernel_rfl
noncomputable def YH:xS:={ mJ with prm:=fun _=>none }
noncomputable def Zj:Cx:={ P:=Tryz.prog,A:=YH,K:=fun _ _ _=>none,lp:=nP,n:=33,full:=8589934591 }
theorem OP:Tryz.prog.follows .mixedOrders=true:=by kernel_rfl
theorem aCm:tO Tryz.prog YH:=⟨fun f hf=>(by cases hf),fun f k hf=>(by cases hf)⟩
theorem at1 {G:Gh}{h:kO}{w:World}:o_ YH G h w:=⟨fun g cs hg=>(by cases hg),fun g n hg=>(by cases hg)⟩
theorem ao3:qR Tryz.prog YH (fun _ _ _=>none):=fun f args h r h' hb=>by cases hb
section
variable {L:Nat}{u0 u1 u2 u3 u4 u5 u6 u7 u8 u9 u10 u11 u12 u13 u14 u15 u16 u17 u18 u19 u20 u21 u22 u23 u24 u25 u26 u27 u28 u29 u30 u31 u32:kN}{h:kO}{kn:List kN→kO→Option Hk.R}{ke:Ex→List kN→kO→Option Hk.R}
theorem pe0:evalCode (Zj) pR0 L [u0,u1,u2,u3,u4,u5,u6,u7,u8,u9,u10,u11,u12,u13,u14,u15,u16,u17,u18,u19,u20,u21,u22,u23,u24,u25,u26,u27,u28,u29,u30,u31,u32] h kn ke=kn [u0,u1,u2,u3,(.int .i64 0),u5,u6,u7,u8,u9,u10,u11,u12,u13,u14,u15,u16,u17,u18,u19,u20,u21,u22,u23,u24,u25,u26,u27,u28,u29,u30,u31,u32] h:=by kernel_rfl
theorem pe1:evalCode (Zj) pR1 L [u0,u1,u2,u3,u4,u5,u6,u7,u8,u9,u10,u11,u12,u13,u14,u15,u16,u17,u18,u19,u20,u21,u22,u23,u24,u25,u26,u27,u28,u29,u30,u31,u32] h kn ke=kn [u0,u1,u2,u3,u4,(.int .i64 0),u6,u7,u8,u9,u10,u11,u12,u13,u14,u15,u16,u17,u18,u19,u20,u21,u22,u23,u24,u25,u26,u27,u28,u29,u30,u31,u32] h:=by kernel_rfl
theorem pe2:evalCode (Zj) pR2 L [u0,u1,u2,u3,u4,u5,u6,u7,u8,u9,u10,u11,u12,u13,u14,u15,u16,u17,u18,u19,u20,u21,u22,u23,u24,u25,u26,u27,u28,u29,u30,u31,u32] h kn ke=(s5 u1).bind fun t0=>(lF .lss u5 t0).bind fun t1=>kn [u0,u1,u2,u3,u4,u5,u6,u5,u1,t0,t1,u11,u12,u13,u14,u15,u16,u17,u18,u19,u20,u21,u22,u23,u24,u25,u26,u27,u28,u29,u30,u31,u32] h:=by kernel_rfl
theorem pe3:evalCode (Zj) pR3 L [u0,u1,u2,u3,u4,u5,u6,u7,u8,u9,u10,u11,u12,u13,u14,u15,u16,u17,u18,u19,u20,u21,u22,u23,u24,u25,u26,u27,u28,u29,u30,u31,u32] h kn ke=(mD 4 u1 u5).bind fun t0=>(kY true 4 h t0).bind fun t1=>kW (lR 4 h (.agg [(.int .i64 0),(.int .i64 0),(.int .i64 0),(.int .i64 0)])) fun t2 h3=>(kR 4 h3 t2 t1).bind fun h4=>kn [u0,u1,u2,u3,u4,u5,t2,u7,u8,u9,u10,u1,u5,t0,t1,u15,u16,u17,u18,u19,u20,u21,u22,u23,u24,u25,u26,u27,u28,u29,u30,u31,u32] h4:=by kernel_rfl
theorem pe4:evalCode (Zj) pR4 L [u0,u1,u2,u3,u4,u5,u6,u7,u8,u9,u10,u11,u12,u13,u14,u15,u16,u17,u18,u19,u20,u21,u22,u23,u24,u25,u26,u27,u28,u29,u30,u31,u32] h kn ke=(kQ 0 u6).bind fun t0=>(kY false 1 h t0).bind fun t1=>(kQ 1 u6).bind fun t2=>(kY false 1 h t2).bind fun t3=>(lF .shr t1 t3).bind fun t4=>(kQ 2 u6).bind fun t5=>(kY false 1 h t5).bind fun t6=>(lF .shl (.int .i64 1) t6).bind fun t7=>(lF .sub t7 (.int .i64 1)).bind fun t8=>(lF .and t4 t8).bind fun t9=>(kQ 3 u6).bind fun t10=>(kY false 1 h t10).bind fun t11=>(lF .shl t9 t11).bind fun t12=>(lF .or u0 t12).bind fun t13=>kn [t13,u1,u2,u3,u4,u5,u6,u7,u8,u9,u10,u11,u12,u13,u14,u0,t0,t1,t2,t3,t4,t5,t6,t7,t8,t9,t10,t11,t12,t13,u30,u31,u32] h:=by kernel_rfl
theorem pe5:evalCode (Zj) pR5 L [u0,u1,u2,u3,u4,u5,u6,u7,u8,u9,u10,u11,u12,u13,u14,u15,u16,u17,u18,u19,u20,u21,u22,u23,u24,u25,u26,u27,u28,u29,u30,u31,u32] h kn ke=(lF .add u5 (.int .i64 1)).bind fun t0=>kn [u0,u1,u2,u3,u4,t0,u6,u7,u8,u9,u10,u11,u12,u13,u14,u15,u16,u17,u18,u19,u20,u21,u22,u23,u24,u25,u26,u27,u28,u29,u5,t0,u32] h:=by kernel_rfl
theorem pe6:evalCode (Zj) pR6 L [u0,u1,u2,u3,u4,u5,u6,u7,u8,u9,u10,u11,u12,u13,u14,u15,u16,u17,u18,u19,u20,u21,u22,u23,u24,u25,u26,u27,u28,u29,u30,u31,u32] h kn ke=kn [u0,u1,u2,u3,u0,u5,u6,u7,u8,u9,u10,u11,u12,u13,u14,u15,u16,u17,u18,u19,u20,u21,u22,u23,u24,u25,u26,u27,u28,u29,u30,u31,u0] h:=by kernel_rfl
end
theorem Wm {l0:List kN}(h0:l0.length=33):∃u0 u1 u2 u3 u4 u5 u6 u7 u8 u9 u10 u11 u12 u13 u14 u15 u16 u17 u18 u19 u20 u21 u22 u23 u24 u25 u26 u27 u28 u29 u30 u31 u32,l0=[u0,u1,u2,u3,u4,u5,u6,u7,u8,u9,u10,u11,u12,u13,u14,u15,u16,u17,u18,u19,u20,u21,u22,u23,u24,u25,u26,u27,u28,u29,u30,u31,u32]:=by
 have st:∀{n:Nat}{l:List kN},l.length=n+1→∃x r,l=x::r∧r.length=n:=fun {n l} h=>by
  cases l with
  | nil=>cases h
  | cons x r=>exact⟨x,r,rfl,by simpa using h⟩
 obtain⟨u0,l1,rfl,h1⟩:=st h0
 obtain⟨u1,l2,rfl,h2⟩:=st h1
 obtain⟨u2,l3,rfl,h3⟩:=st h2
 obtain⟨u3,l4,rfl,h4⟩:=st h3
 obtain⟨u4,l5,rfl,h5⟩:=st h4
 obtain⟨u5,l6,rfl,h6⟩:=st h5
 obtain⟨u6,l7,rfl,h7⟩:=st h6
 obtain⟨u7,l8,rfl,h8⟩:=st h7
 obtain⟨u8,l9,rfl,h9⟩:=st h8
 obtain⟨u9,l10,rfl,h10⟩:=st h9
 obtain⟨u10,l11,rfl,h11⟩:=st h10
 obtain⟨u11,l12,rfl,h12⟩:=st h11
 obtain⟨u12,l13,rfl,h13⟩:=st h12
 obtain⟨u13,l14,rfl,h14⟩:=st h13
 obtain⟨u14,l15,rfl,h15⟩:=st h14
 obtain⟨u15,l16,rfl,h16⟩:=st h15
 obtain⟨u16,l17,rfl,h17⟩:=st h16
 obtain⟨u17,l18,rfl,h18⟩:=st h17
 obtain⟨u18,l19,rfl,h19⟩:=st h18
 obtain⟨u19,l20,rfl,h20⟩:=st h19
 obtain⟨u20,l21,rfl,h21⟩:=st h20
 obtain⟨u21,l22,rfl,h22⟩:=st h21
 obtain⟨u22,l23,rfl,h23⟩:=st h22
 obtain⟨u23,l24,rfl,h24⟩:=st h23
 obtain⟨u24,l25,rfl,h25⟩:=st h24
 obtain⟨u25,l26,rfl,h26⟩:=st h25
 obtain⟨u26,l27,rfl,h27⟩:=st h26
 obtain⟨u27,l28,rfl,h28⟩:=st h27
 obtain⟨u28,l29,rfl,h29⟩:=st h28
 obtain⟨u29,l30,rfl,h30⟩:=st h29
 obtain⟨u30,l31,rfl,h31⟩:=st h30
 obtain⟨u31,l32,rfl,h32⟩:=st h31
 obtain⟨u32,l33,rfl,h33⟩:=st h32
 obtain rfl:=List.length_eq_zero_iff.1 h33
 exact⟨_,_,_,_,_,_,_,_,_,_,_,_,_,_,_,_,_,_,_,_,_,_,_,_,_,_,_,_,_,_,_,_,_,rfl⟩
theorem SU {c:Code}{ρ ρ1:List kN}{h h1:kO}{G:Gh}{w:World}{a:Act}{Q:Exit→Act→World→Prop}(hb:evalCode Zj c 0 ρ h (fun ρ' h'=>some (.normal,ρ',h')) (fun _ _ _=>none)=some (.normal,ρ1,h1)) (i:Inv G h w) (s:nC (fun a=>a.defers=[]) G h ρ a) (hn:ρ.length=33)
  (hno:∀a w,¬Q .outgrown a w) (hQ:∀G' w' a',Ext G h w G' h1 w'→Inv G' h1 w'→nC (fun a=>a.defers=[]) G' h1 ρ1 a'→ρ1.length=33→Q .normal a' w'):c.wp Tryz.prog Q a w:=by
 refine tP (cx:=Zj) OP aCm ao3 Wn c 0 ρ h _ _ _ G w a Q (rA c) hb i at1 s hn ⟨fun ρ' h' G' w' a' h2 h3 h4 h5 h6=>?_,fun e ρ' h' G' w' a' h2 h3 h4 h5 h6=>(by cases h2),fun v ρ' h' G' w' a' V h2 h3 h4 h5 h6=>(by cases h2)⟩ hno
 cases h2
 exact hQ G' w' a' h3 h4 h5 h6
noncomputable def intOf:Value→Int | .int _ q=>q | _=>0
noncomputable def StP (G0:Gh) (w0:World) (rows:List (List kN)) (v:Int) (a:Act) (w:World):Prop :=
 ∃G h ρ b,∃k:Nat,Ext G0 [] w0 G h w∧Inv G h w∧nC (fun a=>a.defers=[]) G h ρ a∧ρ.length=33∧ρ[0]?=some (.int .i64 b)∧ρ[1]?=some (.slice rows .no)∧ρ[5]?=some (.int .i64 (k:Int))∧k≤rows.length∧DV b (rows.drop k)=some v
noncomputable def EnP (G0:Gh) (w0:World) (v:Int) (a:Act) (w:World):Prop :=
 ∃G h ρ,Ext G0 [] w0 G h w∧Inv G h w∧nC (fun a=>a.defers=[]) G h ρ a∧ρ.length=33∧ρ[4]?=some (.int .i64 v)
theorem SA {b:Int}{row:List kN}{r:List (List kN)}{v:Int}(h:DV b (row::r)=some v):∃n f m a,row=[.int .i64 n,.int .i64 f,.int .i64 m,.int .i64 a]∧(0≤f∧f<64∧0≤m∧m<63∧0≤a∧a<64) ∧
  DV (IntKind.i64.wrap (BitVec.ofInt 64 b ||| BitVec.ofInt 64 (IntKind.i64.wrap ((IntKind.i64.wrap (BitVec.ofInt 64 (n.fdiv (2^f.toNat)) &&& BitVec.ofInt 64 (2^m.toNat-1)).toNat)*2^a.toNat))).toNat) r=some v:=by
 unfold DV at h
 split at h
 ·rename_i heq;cases heq
 ·rename_i heq
  cases heq
  split at h
  ·rename_i hc;exact⟨_,_,_,_,rfl,hc,h⟩
  ·cases h
 ·cases h
theorem ac8 {n:Nat}:(((n:Nat):Int)).toNat=n:=by omega
theorem X3 {n:Int}(h0:0≤n) (h1:n≤9223372036854775807):IntKind.i64.wrap n=n:=wrap64 (by omega) h1
section
variable {G0:Gh}{w0:World}{rows:List (List kN)}(hr:rows.length≤1000) {v:Int}{Q:Exit→Act→World→Prop}(hno:∀a w,¬Q .outgrown a w) (hend:∀a w,EnP G0 w0 v a w→Q .ret a w)
noncomputable def mu (rows:List (List kN)) (a:Act) (_:World):Nat:=rows.length-(intOf (a.tmps.getD 5 undef)).toNat
include hr hno hend
theorem TI (a:Act) (w:World) (hs:StP G0 w0 rows v a w) {J:Act→World→Prop}(hj:∀a' w',StP G0 w0 rows v a' w'→mu rows a' w'<mu rows a w→J a' w'):(Code.seq (.seq pR2 (.cond (.tmp 10) (.seq pR3 (.seq pR4 (.seq pR5 (.goto 0)))) .skip)) (.seq pR6 .ret)).wp Tryz.prog (Exit.jump 0 J Q) a w:=by
 obtain⟨G,h,ρ,b,k,x,i,s,hn,h0,h1,h5,hk,hv⟩:=hs
 have hmu:mu rows a w=rows.length-k:=by
  unfold mu
  have:=(s.rel 5 _ h5).oN
  rw [this]
  simp [intOf]
 obtain⟨u0,u1,u2,u3,u4,u5,u6,u7,u8,u9,u10,u11,u12,u13,u14,u15,u16,u17,u18,u19,u20,u21,u22,u23,u24,u25,u26,u27,u28,u29,u30,u31,u32,rfl⟩:=Wm hn
 simp only [List.getElem?_cons_zero,List.getElem?_cons_succ,Option.some.injEq] at h0 h1 h5
 subst h0 h1 h5
 have al:s5 (.slice rows .no)=some (.int .i64 (rows.length:Int)):=rfl
 refine wp_seq (wp_seq (SU (c:=pR2) (ρ1:=?_) (h1:=h) ?_ i s hn ?_ fun G1 w1 a1 x1 i1 s1 n1=>?_))
 ·exact [.int .i64 b,.slice rows .no,u2,u3,u4,.int .i64 (k:Int),u6,.int .i64 (k:Int),.slice rows .no,.int .i64 (rows.length:Int),.bool (decide ((k:Int)<(rows.length:Int))),u11,u12,u13,u14,u15,u16,u17,u18,u19,u20,u21,u22,u23,u24,u25,u26,u27,u28,u29,u30,u31,u32]
 ·rw [pe2,al];rfl
 ·intro a w hq;exact hno a w hq
 have hc:=(s1.rel 10 _ rfl).uJ
 by_cases hlt:k<rows.length
 ·rw [decide_eq_true (show(k:Int)<(rows.length:Int) by omega)] at hc
  refine wp_cond_true hc ?_
  obtain⟨row,hrow⟩:∃row,rows[k]?=some row:=⟨rows[k],by simp [hlt]⟩
  have hd:rows.drop k=row::rows.drop (k+1):=by
   rw [al3 hlt];congr 1
   have:=List.getElem?_eq_getElem hlt;rw [this] at hrow;cases hrow;rfl
  rw [hd] at hv
  obtain⟨n,f,m,at_,rfl,⟨f0,f1,m0,m1,a0,a1⟩,hv'⟩:=SA hv
  have ix:mD 4 (.slice rows .no) (.int .i64 (k:Int))=some (.pptr [.int .i64 n,.int .i64 f,.int .i64 m,.int .i64 at_]):=by
   simp only [mD];rw [if_pos (by omega),ac8,hrow];rfl
  refine wp_seq (SU (c:=pR3) (ρ1:=?_) (h1:=h++[.cells [.int .i64 n,.int .i64 f,.int .i64 m,.int .i64 at_]]) ?_ i1 s1 n1 ?_ fun G2 w2 a2 x2 i2 s2 n2=>?_)
  ·exact [.int .i64 b,.slice rows .no,u2,u3,u4,.int .i64 (k:Int),.ptr h.length 0,.int .i64 (k:Int),.slice rows .no,.int .i64 (rows.length:Int),.bool (decide ((k:Int)<(rows.length:Int))),.slice rows .no,.int .i64 (k:Int),.pptr [.int .i64 n,.int .i64 f,.int .i64 m,.int .i64 at_],.agg [.int .i64 n,.int .i64 f,.int .i64 m,.int .i64 at_],u15,u16,u17,u18,u19,u20,u21,u22,u23,u24,u25,u26,u27,u28,u29,u30,u31,u32]
  ·rw [pe3,ix]
   have g:pM (h++[.cells [.int .i64 0,.int .i64 0,.int .i64 0,.int .i64 0]]) h.length=some [.int .i64 0,.int .i64 0,.int .i64 0,.int .i64 0]:=by simp [pM]
   simp [g]
  ·intro a w hq;exact hno a w hq
  have g:pM (h++[.cells [.int .i64 n,.int .i64 f,.int .i64 m,.int .i64 at_]]) h.length=some [.int .i64 n,.int .i64 f,.int .i64 m,.int .i64 at_]:=by simp [pM]
  have q4:lF .shr (.int .i64 n) (.int .i64 f)=some (.int .i64 (n.fdiv (2^f.toNat))):=by
   simp only [lF];rw [if_neg (by omega),show min f.toNat IntKind.i64.bits=f.toNat from by simp [IntKind.bits];omega]
  have hp:(2:Int)^m.toNat≤4611686018427387904:=by
   have h1:(2:Nat)^m.toNat≤2^62:=Nat.pow_le_pow_right (by decide) (by omega)
   have h2:((2^m.toNat:Nat):Int)≤((2^62:Nat):Int):=by exact_mod_cast h1
   have h3:((2^m.toNat:Nat):Int)=(2:Int)^m.toNat:=by norm_cast
   omega
  have hp0:0<(2:Int)^m.toNat:=Int.pow_pos (by decide)
  have q7:lF .shl (.int .i64 1) (.int .i64 m)=some (.int .i64 (2^m.toNat)):=by
   simp only [lF];rw [if_neg (by omega),show min m.toNat IntKind.i64.bits=m.toNat from by simp [IntKind.bits];omega,Int.one_mul,X3 (by omega) (by omega)]
  have q8:lF .sub (.int .i64 (2^m.toNat)) (.int .i64 1)=some (.int .i64 (2^m.toNat-1)):=by
   simp only [lF];rw [X3 (by omega) (by omega)];rfl
  have q9:lF .and (.int .i64 (n.fdiv (2^f.toNat))) (.int .i64 (2^m.toNat-1))=some (.int .i64 (IntKind.i64.wrap (BitVec.ofInt 64 (n.fdiv (2^f.toNat)) &&& BitVec.ofInt 64 (2^m.toNat-1)).toNat)):=rfl
  generalize hX:IntKind.i64.wrap (BitVec.ofInt 64 (n.fdiv (2^f.toNat)) &&& BitVec.ofInt 64 (2^m.toNat-1)).toNat=X at q9 hv'
  have q12:lF .shl (.int .i64 X) (.int .i64 at_)=some (.int .i64 (IntKind.i64.wrap (X*2^at_.toNat))):=by
   simp only [lF];rw [if_neg (by omega),show min at_.toNat IntKind.i64.bits=at_.toNat from by simp [IntKind.bits];omega]
  generalize hY:IntKind.i64.wrap (X*2^at_.toNat)=Y at q12 hv'
  have q13:lF .or (.int .i64 b) (.int .i64 Y)=some (.int .i64 (IntKind.i64.wrap (BitVec.ofInt 64 b ||| BitVec.ofInt 64 Y).toNat)):=rfl
  generalize IntKind.i64.wrap (BitVec.ofInt 64 b ||| BitVec.ofInt 64 Y).toNat=t13 at q13 hv'
  generalize n.fdiv (2^f.toNat)=t4 at q4 q9
  generalize hZ:(2:Int)^m.toNat-1=t8 at q8 q9
  generalize (2:Int)^m.toNat=t7 at q7 q8
  refine wp_seq (SU (c:=pR4) (ρ1:=?_) (h1:=h++[.cells [.int .i64 n,.int .i64 f,.int .i64 m,.int .i64 at_]]) ?_ i2 s2 n2 ?_ fun G3 w3 a3 x3 i3 s3 n3=>?_)
  ·exact [.int .i64 t13,.slice rows .no,u2,u3,u4,.int .i64 (k:Int),.ptr h.length 0,.int .i64 (k:Int),.slice rows .no,.int .i64 (rows.length:Int),.bool (decide ((k:Int)<(rows.length:Int))),.slice rows .no,.int .i64 (k:Int),.pptr [.int .i64 n,.int .i64 f,.int .i64 m,.int .i64 at_],.agg [.int .i64 n,.int .i64 f,.int .i64 m,.int .i64 at_],.int .i64 b,.ptr h.length 0,.int .i64 n,.ptr h.length 1,.int .i64 f,.int .i64 t4,.ptr h.length 2,.int .i64 m,.int .i64 t7,.int .i64 t8,.int .i64 X,.ptr h.length 3,.int .i64 at_,.int .i64 Y,.int .i64 t13,u30,u31,u32]
  ·rw [pe4]
   simp -implicitDefEqProofs [g,q4,q7,q8,q9,q12,q13,-PO,-PQ]
  ·intro a w hq;exact hno a w hq
  refine wp_seq (SU (c:=pR5) (ρ1:=?_) (h1:=h++[.cells [.int .i64 n,.int .i64 f,.int .i64 m,.int .i64 at_]]) ?_ i3 s3 n3 ?_ fun G4 w4 a4 x4 i4 s4 n4=>?_)
  ·exact [.int .i64 t13,.slice rows .no,u2,u3,u4,.int .i64 ((k+1:Nat):Int),.ptr h.length 0,.int .i64 (k:Int),.slice rows .no,.int .i64 (rows.length:Int),.bool (decide ((k:Int)<(rows.length:Int))),.slice rows .no,.int .i64 (k:Int),.pptr [.int .i64 n,.int .i64 f,.int .i64 m,.int .i64 at_],.agg [.int .i64 n,.int .i64 f,.int .i64 m,.int .i64 at_],.int .i64 b,.ptr h.length 0,.int .i64 n,.ptr h.length 1,.int .i64 f,.int .i64 t4,.ptr h.length 2,.int .i64 m,.int .i64 t7,.int .i64 t8,.int .i64 X,.ptr h.length 3,.int .i64 at_,.int .i64 Y,.int .i64 t13,.int .i64 (k:Int),.int .i64 ((k+1:Nat):Int),u32]
  ·rw [pe5]
   have:lF .add (.int .i64 (k:Int)) (.int .i64 1)=some (.int .i64 ((k+1:Nat):Int)):=by simp only [lF];rw [X3 (by omega) (by omega)];rfl
   rw [this];rfl
  ·intro a w hq;exact hno a w hq
  refine wp_goto ⟨rfl,hj _ _ ⟨G4,_,_,t13,k+1,((((x.trans x1).trans x2).trans x3).trans x4),i4,s4,n4,rfl,rfl,rfl,by omega,hv'⟩ ?_⟩
  rw [hmu]
  unfold mu
  have:=(s4.rel 5 _ rfl).oN
  rw [this]
  simp [intOf]
  omega
 ·rw [decide_eq_false (show ¬(k:Int)<(rows.length:Int) by omega)] at hc
  refine wp_cond_false hc (wp_skip ?_)
  have hd:rows.drop k=[]:=aq8 (by omega)
  rw [hd] at hv
  have hb:b=v:=by unfold DV at hv;cases hv;rfl
  subst hb
  refine wp_seq (SU (c:=pR6) (ρ1:=?_) (h1:=h) ?_ i1 s1 n1 ?_ fun G2 w2 a2 x2 i2 s2 n2=>?_)
  ·exact [.int .i64 b,.slice rows .no,u2,u3,.int .i64 b,.int .i64 (k:Int),u6,.int .i64 (k:Int),.slice rows .no,.int .i64 (rows.length:Int),.bool (decide ((k:Int)<(rows.length:Int))),u11,u12,u13,u14,u15,u16,u17,u18,u19,u20,u21,u22,u23,u24,u25,u26,u27,u28,u29,u30,u31,.int .i64 b]
  ·rw [pe6]
  ·intro a w hq;exact hno a w hq
  exact wp_ret (hend a2 w2 ⟨G2,h,_,(x.trans x1).trans x2,i2,s2,n2,rfl⟩)
end
theorem Zo {α:Type}{A B:Array α}(hs:A.size≤B.size) (hf:∀b,b<A.size→B[b]?=A[b]?):∃os,B=A++os:=by
 refine⟨B.extract A.size B.size,?_⟩
 apply Array.ext_getElem?
 intro i
 rw [Array.getElem?_append]
 by_cases h:i<A.size
 ·rw [if_pos h];exact hf i h
 ·rw [if_neg h,Array.getElem?_extract]
  split
  ·congr 1;omega
  ·rename_i h2
   rw [Array.getElem?_eq_none (by omega)]
theorem aoP:Tryz.f155.results.toList=[.tmp 4]:=by kernel_rfl
theorem ae5:Tryz.f155.ntmps=33:=by kernel_rfl
theorem Ux {P:Program}{f:Nat}{fn:Func}(hf:P.funcs[f]?=some fn) (hb:fn.body.isSome=true) (hn:(fn.name == "runtime.NumGoroutine")=false) (X:Array Value) (w:World):(callFunc f X).run P w=.ok (.enter f X) w:=by
 obtain⟨c,hc⟩:=Option.isSome_iff_exists.1 hb
 have hn:¬fn.name = "runtime.NumGoroutine" := by simpa using hn
 simp [callFunc,Sem.run_bind,hf,hc,hn,Sem.run_pure]
theorem afA:ar3 Tryz.prog mJ 155 WN:=by
 refine⟨Ux Tryz.func155 (by kernel_rfl) (by kernel_rfl),fun G h w args X v i gl hlen hrel hg=>?_⟩
 unfold WN at hg
 split at hg
 case h_2=>cases hg
 rename_i b rows tk
 split at hg
 case isFalse=>cases hg
 rename_i hr
 obtain⟨v,hv,rfl⟩:=Option.map_eq_some_iff.1 hg
 have x0:k_ G [] (.int .i64 b) (X.getD 0 undef):=by
  have:=(hrel 0 _ rfl).oN
  rw [this];exact .p _ _ (.int _ _)
 have x1:k_ G [] (.slice rows .no) (X.getD 1 undef):=.p _ _ (hrel 1 _ rfl).uB
 have hx:xW G [] [.int .i64 b,.slice rows .no] X:=⟨by simpa using hlen,fun j u hu=>by
  match j,hu with
  | 0,hu=>simp at hu;subst hu;exact x0
  | 1,hu=>simp at hu;subst hu;exact x1
  | j+2,hu=>simp at hu⟩
 have i0:Inv G [] w:=i.empty
 refine calls_of_wp Tryz.func155 Xt ?_
 have s0:=yQ (n:=Tryz.f155.ntmps) hx (by rw [ae5];simp)
 rw [ae5] at s0 ⊢
 have n0:([.int .i64 b,.slice rows .no]++List.replicate (33 - [kN.int .i64 b,.slice rows .no].length) (.tuple []):List kN).length=33:=by simp
 generalize hρ:([.int .i64 b,.slice rows .no]++List.replicate (33 - [kN.int .i64 b,.slice rows .no].length) (.tuple []):List kN)=ρ at s0 n0
 obtain⟨u0,u1,u2,u3,u4,u5,u6,u7,u8,u9,u10,u11,u12,u13,u14,u15,u16,u17,u18,u19,u20,u21,u22,u23,u24,u25,u26,u27,u28,u29,u30,u31,u32,rfl⟩:=Wm n0
 obtain⟨hu0,hu⟩:=List.cons.inj hρ
 obtain⟨hu1,hu⟩:=List.cons.inj hu
 subst hu0 hu1
 clear hu hρ
 have fin:∀a' w',EnP G w v a' w'→bodyPost Tryz.prog Tryz.f155 (fun e w'=>(∃V,e=.returned V∧oL G.H (.int .i64 v) V)∧w'.os=w.os∧w'.tape=w.tape∧w'.output=w.output∧∃os,w'.heap=w.heap++os) .ret a' w':=by
  rintro a' w' ⟨G',h',ρ',x,i',s',n',h4⟩
  obtain⟨V,pe1,pe2⟩:=wN (P:=Tryz.prog) (fn:=Tryz.f155) (vs:=[.int .i64 v]) (by rw [aoP];simp [wH,h4]) i' s'
  refine⟨s'.df,V,pe1,⟨V,rfl,?_⟩,x.os,x.tape,x.output,Zo x.size fun b hb=>(x.frame b hb fun id=>by simp [owner]).1⟩
  have:V=.int .i64 v:=k_.oN (by simpa [oneOf] using pe2)
  rw [this];exact .int _ _
 have hno:∀a' w',¬bodyPost Tryz.prog Tryz.f155 (fun e w'=>(∃V,e=Ending.returned V∧oL G.H (.int .i64 v) V)∧w'.os=w.os∧w'.tape=w.tape∧w'.output=w.output∧∃os,w'.heap=w.heap++os) .outgrown a' w':=by
  rintro a' w' ⟨⟨V,h1,_⟩,_⟩;cases h1
 generalize bodyPost Tryz.prog Tryz.f155 (fun e w'=>(∃V,e=Ending.returned V∧oL G.H (.int .i64 v) V)∧w'.os=w.os∧w'.tape=w.tape∧w'.output=w.output∧∃os,w'.heap=w.heap++os)=Q at fin hno ⊢
 have first:∀a1 w1,StP G w rows v a1 w1→∀{J:Act→World→Prop},(∀a' w',StP G w rows v a' w'→J a' w')→pRX.wp Tryz.prog (Exit.jump 0 J Q) a1 w1:=fun a1 w1 h1 J hJ=>TI hr (fun a' w'=>hno a' w') fin a1 w1 h1 fun a' w' h2 _=>hJ a' w' h2
 refine wp_seq (SU (c:=pR0) (ρ1:=?_) (h1:=[]) ?_ i0 s0 n0 ?_ fun G1 w1 a1 x1 i1 s1 n1=>?_)
 ·exact [.int .i64 b,.slice rows .no,u2,u3,.int .i64 0,u5,u6,u7,u8,u9,u10,u11,u12,u13,u14,u15,u16,u17,u18,u19,u20,u21,u22,u23,u24,u25,u26,u27,u28,u29,u30,u31,u32]
 ·rw [pe0]
 ·intro a w hq;exact hno a w hq
 refine wp_scope_jumps 0 (StP G w rows v) (mu rows) (rest:=.seq .skip pRX) (by kernel_rfl) ?_ ?_
 ·refine wp_seq (SU (c:=pR1) (ρ1:=?_) (h1:=[]) ?_ i1 s1 n1 ?_ fun G2 w2 a2 x2 i2 s2 n2=>?_)
  ·exact [.int .i64 b,.slice rows .no,u2,u3,.int .i64 0,.int .i64 ((0:Nat):Int),u6,u7,u8,u9,u10,u11,u12,u13,u14,u15,u16,u17,u18,u19,u20,u21,u22,u23,u24,u25,u26,u27,u28,u29,u30,u31,u32]
  ·rw [pe1];rfl
  ·intro a w hq;exact hno a w hq
  refine wp_seq (wp_label ?_)
  exact first a2 w2 ⟨G2,[],_,b,0,x1.trans x2,i2,s2,n2,rfl,rfl,rfl,Nat.zero_le _,by simpa using hv⟩ fun a' w' h=>h
 ·intro a1 w1 h1
  refine wp_seq (wp_skip ?_)
  exact TI hr (fun a' w'=>hno a' w') fin a1 w1 h1 fun a' w' h2 h3=>⟨h2,h3⟩
#print axioms afA
end
end Go.Proofs.YtaaccaifoddaiaaGreat
