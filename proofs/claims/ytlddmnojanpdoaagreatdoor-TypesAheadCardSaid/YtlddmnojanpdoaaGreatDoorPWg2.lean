/-
  The texts WG.G, WG.H, WG.I, WG.J, WG.K, WG.L, WG.O, WG.Q, WG.R, WG.S1, WG.S2, WG.S3, WG.S4, WG.T, WG.U, WG.V, WG.W, WG.X1, WG.X2, WG.X3, WG.X4, WG.Y, WG.Z, WG.ZA, WG.ZB, WG.ZC, WG.ZD, WG.BA, WG.CA, one behind another. No conditions.
-/
import Derived.Test.YtlddmnojanpdoaaGreatDoorPWg1
import Derived.Test.YtlddmnojanpdoaaGreatDoorPLg1
set_option linter.unusedVariables false
set_option linter.unusedSimpArgs false
set_option linter.all false
open Bool renaming and_eq_true → ad2
open Int renaming natCast_add → ag1
open List renaming all_eq_true → ah1, append_assoc → af9, cons_append → af2, getElem?_eq_getElem → ac0, getElem?_eq_some_iff → ab1, getElem?_map → ai1, length → aa0, length_append → ac2, length_cons → ac8, length_nil → ad0, map_cons → aj2, mem_of_getElem? → af1, nil_append → ah4
open Nat renaming add_mul → al4, zero_add → al6, zero_le → ah9
open Option renaming bind_some → af4
namespace Go.Proofs.YtlddmnojanpdoaaGreatDoor
section
open Go Hk
theorem DM {n:Int}(h:n < 9223372036854775808):(vJ n).length≤20:=by
 have key:∀(k n:Nat) (acc:List UInt8),n < 10 ^ k→(CH n acc).length≤k+acc.length:=by
  intro k
  induction k with
  | zero =>
   intro n acc h
   have:n=0:=by simpa using h
   subst this
   rw [CH,if_pos rfl]; omega
  | succ k ih =>
   intro n acc h
   rw [CH]
   split
   ·omega
   ·have:=ih (n / 10) (UInt8.ofNat (48+n % 10)::acc) (by rw [Nat.pow_succ] at h; omega)
    simp only [ac8] at this
    omega
 unfold vJ EA
 split
 ·simp
 ·have:=key 20 n.toNat [] (by omega)
  simpa using this
theorem YD {x a:GE}(hx:x.args=[a]) (hk:1≤x.kind∧x.kind≤26) (ht:lJ x.kind < 8) (h1:¬lJ x.kind=1) (hnum:0≤x.num∧x.num≤4294967295) (ha:IF a) (hka:1≤a.kind∧a.kind≤26):IF x:=by
 intro w B hB hbd hn
 obtain⟨a1,a2,a3⟩:=D2 hk
 have hbn:xM x.kind=lJ x.kind:=by rw [a3,if_neg (by omega)]
 have hbs:aaY x.kind=qG x.kind:=if_pos ht
 have t1:mE x=uE (mX (lJ x.kind) (lW a).1) (lW a)++32::(qG x.kind++32::vJ x.num):=by
  rw [s_,hx]; unfold yY; rw [if_pos ht]; rfl
 have t2:mA x=sX (mX (lJ x.kind) (lW a).1) (lW a):=by
  rw [sV,hx]; unfold yM; rw [if_pos ht]; rfl
 have c1:=c83 ha hka (if lJ x.kind=1 then 2 else lJ x.kind)
 rw [(zX hk _ a hka _ (Fy hk hka ht)).1,(zX hk _ a hka _ (Fy hk hka ht)).2] at c1
 rw [t1,t2]
 rw [t1] at hbd
 rw [t2] at hn
 generalize uE (mX (lJ x.kind) (lW a).1) (lW a)=A at hbd c1 ⊢
 generalize sX (mX (lJ x.kind) (lW a).1) (lW a)=na at hn c1 ⊢
 simp only [ac2,ac8] at hbd
 refine k9 (E8 _ _ _ _) ?_
 have s2:=AA (x:=x) hB
 have s3:=AB (x:=x) (n:=3) (s:=1) hB
 have htr:=fun w C=>oD (w:=w) (C:=C) hB
 have htr2:∀w,l9 (B.length+1+3) (WH w (B++[lE.cells x.cells]))=some (WH w (B++[lE.cells x.cells])):=fun w=>by
  have:=tB (w:=w) s2
  simpa using this
 have e0:=c82 x.kind hk
 have e1:=c1 w _ s2 (by omega) (by omega)
 have e2:=P3 (w:=w.st A na 0) (x:=[32]) (y:=qG x.kind) (z:=[32]) s3 (by simp; omega)
 have e3:=c84 (w:=w.st (A++32::(qG x.kind++[32])) na 0) x.num hnum.1 (by omega) s3 (by simp; omega)
 have hpos:0 < lJ x.kind:=by omega
 have q1:∀h o,kM.mO (B.length+1+3) h (.ptr (B.length+3) o)=.ptr (B.length+3) o:=fun h o=>yR (by omega)
 have q2:∀h o,kM.mO (B.length+1+3) h (.ptr 1 o)=.ptr 1 o:=fun h o=>yR (by omega)
 simp -implicitDefEqProofs at e2 e3
 have i0:kX 5 (.slice (x.args.map GE.cells) .no) (.int .i64 0)=some (.pptr a.cells):=by rw [hx]; exact ix0
 have hl:x.args.length=1:=by rw [hx]; rfl
 have h1':¬(lJ x.kind:Int)=1:=by omega
 simp -implicitDefEqProofs [h1] at e1
 simp -implicitDefEqProofs [VU,zN,e0,hbn,hbs,hpos,h1',kS,htr2,q1,q2,nF,i0,hl,WY,Cg,pC,e1,e2,e3,lY,htr]
theorem w7 {k:Int}(ht:lJ k=8):xM k=0∧aaY k=[]:=by simp [xM,aaY,ht]
section
variable {w:WS}{B C:List lE}
theorem tr2 {x:GE}(hB:Still B):l9 (B.length+1+3) (WH w (B++lE.cells x.cells::C))=some (WH w (B++[lE.cells x.cells])):=by
 have:=oD (w:=w) (C:=C) (AA (x:=x) hB)
 simpa using this
end
theorem aEM {x:GE}(hk:x.kind=1) (hnum:0≤x.num∧x.num≤4294967295):IF x:=by
 intro w B hB hbd hn
 have t1:mE x=vJ x.num:=by rw [s_,hk]; rfl
 have t2:mA x=0:=by rw [sV,hk]; rfl
 rw [t1] at hbd
 rw [t1,t2]
 refine k9 (E8 _ _ _ _) ?_
 have s2:=AA (x:=x) hB
 have htr:=fun w C=>oD (w:=w) (C:=C) hB
 have htr2:=fun w C=>tr2 (w:=w) (C:=C) (x:=x) hB
 have e0:=c82 x.kind (by omega)
 have e3:=c84 (w:=w) x.num hnum.1 (by omega) s2 hbd
 obtain⟨b1,b2⟩:=w7 (k:=1) rfl
 simp -implicitDefEqProofs at e3
 rw [hk] at e0
 simp -implicitDefEqProofs [VU,zN,hk,e0,b1,b2,kS,htr2,nF,e3,lY,htr]
theorem azH {x:GE}(hk:x.kind=2):IF x:=by
 intro w B hB hbd hn
 have t1:mE x=x.name:=by rw [s_,hk]; rfl
 have t2:mA x=0:=by rw [sV,hk]; rfl
 rw [t1] at hbd
 rw [t1,t2]
 refine k9 (E8 _ _ _ _) ?_
 have s3:=AB (x:=x) (n:=1) (s:=1) hB
 have htr:=fun w C=>oD (w:=w) (C:=C) hB
 have htr2:=fun w C=>tr2 (w:=w) (C:=C) (x:=x) hB
 have e0:=c82 x.kind (by omega)
 have e3:=P1 (w:=w) (x:=x.name) s3 hbd
 obtain⟨b1,b2⟩:=w7 (k:=2) rfl
 rw [hk] at e0
 simp -implicitDefEqProofs [VU,zN,hk,e0,b1,b2,kS,htr2,nF,e3,lY,htr,vU,pC]
theorem aoZ {x a:GE}(hk:x.kind=3) (hx:x.args=[a]) (ha:IF a):IF x:=by
 intro w B hB hbd hn
 have t1:mE x=x.name++91::(mE a++[93]):=by rw [s_,hk,hx]; rfl
 have t2:mA x=mA a+1:=by rw [sV,hk,hx]; rfl
 rw [t1] at hbd
 rw [t2] at hn
 rw [t1,t2]
 simp only [ac2,ac8,ad0] at hbd
 refine k9 (E8 _ _ _ _) ?_
 have s3:=AB (x:=x) (n:=2) (s:=1) hB
 have s4:=Ov (x:=x) (n:=2) (s:=1) (n':=1) (s':=1) hB
 have htr:=fun w C=>oD (w:=w) (C:=C) hB
 have htr2:=fun w C=>tr2 (w:=w) (C:=C) (x:=x) hB
 have e0:=c82 x.kind (by omega)
 have e1:=P2 (w:=w) (x:=x.name) (y:=[91]) s3 (by simp; omega)
 have e2:=c85 (w:=w.st (x.name++[91]) 0 0) s3 (by simp; omega)
 have e3:=ha (w.st (x.name++[91]) 1 1) _ s3 (by simp; omega) (by simp; omega)
 have e4:=c86 (w:=w.st (x.name++91::mE a) (max 1 (nn 1 (mA a))) 1) s3 (by simp; omega) (by simp)
 have e5:=P1 (w:=w.st (x.name++91::mE a) (max 1 (nn 1 (mA a))) 0) (x:=[93]) s4 (by simp; omega)
 obtain⟨b1,b2⟩:=w7 (k:=3) rfl
 rw [hk] at e0
 have i0:kX 5 (.slice (x.args.map GE.cells) .no) (.int .i64 0)=some (.pptr a.cells):=by rw [hx]; exact ix0
 simp -implicitDefEqProofs at e2 e3 e4 e5
 simp -implicitDefEqProofs [VU,zN,hk,e0,b1,b2,kS,htr2,nF,e1,e2,e3,e4,e5,i0,WY,lY,htr,vU,Hr,pC]
 refine congrArg (fun w=>WH w B) (WS.BD rfl ?_ rfl)
 unfold nn
 split <;> omega
theorem Ru {x a:GE}(hk:x.kind=5∨x.kind=6∨x.kind=7) (hx:x.args=[a]) (ha:IF a) (hka:1≤a.kind∧a.kind≤26):IF x:=by
 intro w B hB hbd hn
 have t1:mE x=qG x.kind++uE (decide (lJ (lW a).1=8)) (lW a):=by
  rw [s_,hx]
  rcases hk with h | h | h <;> rw [h] <;> rfl
 have t2:mA x=sX (decide (lJ (lW a).1=8)) (lW a)+1:=by
  rw [sV,hx]
  rcases hk with h | h | h <;> rw [h] <;> rfl
 have c1:=c88 ha hka (qG x.kind)
 have hk':1≤x.kind∧x.kind≤26:=by omega
 rw [(zX hk' _ a hka _ (MF hka)).1,(zX hk' _ a hka _ (MF hka)).2] at c1
 rw [t1] at hbd
 rw [t2] at hn
 rw [t1,t2]
 generalize uE (decide (lJ (lW a).1=8)) (lW a)=A at hbd c1 ⊢
 generalize sX (decide (lJ (lW a).1=8)) (lW a)=na at hn c1 ⊢
 refine k9 (E8 _ _ _ _) ?_
 have s2:=AA (x:=x) hB
 have htr:=fun w C=>oD (w:=w) (C:=C) hB
 have htr2:=fun w C=>tr2 (w:=w) (C:=C) (x:=x) hB
 have e0:=c82 x.kind hk'
 have e1:=c1 w _ s2 hbd hn
 have i0:kX 5 (.slice (x.args.map GE.cells) .no) (.int .i64 0)=some (.pptr a.cells):=by rw [hx]; exact ix0
 rcases hk with h | h | h <;> rw [h] at e0 e1 ⊢
 ·obtain⟨b1,b2⟩:=w7 (k:=5) rfl
  have hs:qG 5=[126]:=rfl
  rw [hs] at e1 ⊢
  simp -implicitDefEqProofs [VU,zN,h,e0,b1,b2,kS,htr2,nF,e1,i0,WY,lY,htr]
 ·obtain⟨b1,b2⟩:=w7 (k:=6) rfl
  have hs:qG 6=[45]:=rfl
  rw [hs] at e1 ⊢
  simp -implicitDefEqProofs [VU,zN,h,e0,b1,b2,kS,htr2,nF,e1,i0,WY,lY,htr]
 ·obtain⟨b1,b2⟩:=w7 (k:=7) rfl
  have hs:qG 7=[33]:=rfl
  rw [hs] at e1 ⊢
  simp -implicitDefEqProofs [VU,zN,h,e0,b1,b2,kS,htr2,nF,e1,i0,WY,lY,htr]
theorem azG {x:GE}(hk:x.kind=4∨x.kind=23∨x.kind=24∨x.kind=25∨x.kind=26) (hnm:x.kind=4∨x.name=[]) (ha:∀a∈x.args,IF a):IF x:=by
 intro w B hB hbd hn
 have t1:mE x=qG x.kind++x.name++40::(vN (x.args.map lW)++[]++[41]):=by
  rw [s_]
  rcases hk with h | h | h | h | h <;> rw [h] <;> rfl
 have t2:mA x=wJ (x.args.map lW)+1:=by
  rw [sV]
  rcases hk with h | h | h | h | h <;> rw [h] <;> rfl
 rw [t1] at hbd
 rw [t2] at hn
 rw [t1,t2]
 refine k9 (E8 _ _ _ _) ?_
 have s2:=AA (x:=x) hB
 have htr:=fun w C=>oD (w:=w) (C:=C) hB
 have htr2:=fun w C=>tr2 (w:=w) (C:=C) (x:=x) hB
 have e0:=c82 x.kind (by omega)
 have e1:=c87 x.args ha [] (qG x.kind++x.name) w _ s2 hbd hn
 rcases hk with h | h | h | h | h <;> rw [h] at e0 e1 ⊢
 ·obtain⟨b1,b2⟩:=w7 (k:=4) rfl
  have hs:qG 4=[]:=rfl
  rw [hs,ah4] at e1 ⊢
  simp -implicitDefEqProofs at e1
  simp -implicitDefEqProofs [VU,zN,h,e0,b1,b2,kS,htr2,nF,e1,lY,htr]
 ·obtain⟨b1,b2⟩:=w7 (k:=23) rfl
  have hs:qG 23=[109,117,108,104,105]:=rfl
  have hq:x.name=[]:=hnm.resolve_left (by omega)
  rw [hs,hq,List.append_nil] at e1 ⊢
  simp -implicitDefEqProofs at e1
  simp -implicitDefEqProofs [VU,zN,h,e0,b1,b2,kS,htr2,nF,e1,lY,htr]
 ·obtain⟨b1,b2⟩:=w7 (k:=24) rfl
  have hs:qG 24=[99,97,114,114,121]:=rfl
  have hq:x.name=[]:=hnm.resolve_left (by omega)
  rw [hs,hq,List.append_nil] at e1 ⊢
  simp -implicitDefEqProofs at e1
  simp -implicitDefEqProofs [VU,zN,h,e0,b1,b2,kS,htr2,nF,e1,lY,htr]
 ·obtain⟨b1,b2⟩:=w7 (k:=25) rfl
  have hs:qG 25=[115,101,108,101,99,116]:=rfl
  have hq:x.name=[]:=hnm.resolve_left (by omega)
  rw [hs,hq,List.append_nil] at e1 ⊢
  simp -implicitDefEqProofs at e1
  simp -implicitDefEqProofs [VU,zN,h,e0,b1,b2,kS,htr2,nF,e1,lY,htr]
 ·obtain⟨b1,b2⟩:=w7 (k:=26) rfl
  have hs:qG 26=[119,111,114,100]:=rfl
  have hq:x.name=[]:=hnm.resolve_left (by omega)
  rw [hs,hq,List.append_nil] at e1 ⊢
  simp -implicitDefEqProofs at e1
  simp -implicitDefEqProofs [VU,zN,h,e0,b1,b2,kS,htr2,nF,e1,lY,htr]
theorem aE3 {w:WS}{B C:List lE}{cs:List kM}:mL (WH w (B++.cells cs::C)) (oB (WH w (B++.cells cs::C)) (B.length+3)) (B.length+3)=WH w (B++.cells cs::C):=by
 unfold oB mL
 simp only [WE,akI]
theorem aEN {x:GE}(hk:x.kind=16) (hnm:x.name=[]) (hnum:0≤x.num∧x.num≤4294967295) (ha:∀a∈x.args,IF a):IF x:=by
 intro w B hB hbd hn
 have t1:mE x=[114,111,114]++40::(vN (x.args.map lW)++(44::32::vJ x.num)++[41]):=by
  rw [s_,hk,hnm]; rfl
 have t2:mA x=wJ (x.args.map lW)+1:=by
  rw [sV,hk]; rfl
 rw [t1] at hbd
 rw [t2] at hn
 rw [t1,t2]
 refine k9 (E8 _ _ _ _) ?_
 have s2:=AA (x:=x) hB
 have htr:=fun w C=>oD (w:=w) (C:=C) hB
 have htr2:=fun w C=>tr2 (w:=w) (C:=C) (x:=x) hB
 have e0:=c82 x.kind (by omega)
 have e1:=c87 x.args ha (44::32::vJ x.num) [114,111,114] w _ s2 hbd hn
 have e2:=fun h=>c89 x.num hnum.1 (by omega) h
 have nl:=DM (n:=x.num) (by omega)
 have hle:2+(vJ x.num).length≤4611686018427387904:=by omega
 obtain⟨b1,b2⟩:=w7 (k:=16) rfl
 rw [hk] at e0
 simp -implicitDefEqProofs at e1
 simp -implicitDefEqProofs [VU,zN,hk,e0,b1,b2,kS,htr2,nF,e1,e2,hle,lY,htr,kY,nL,lP,pK,aE3]
end
section
open Go Hk
theorem vD {n:Int}:zF n=true↔0≤n∧n≤4294967295:=by simp [zF]
theorem CK {l:List GE}(h:l.length=1):∃a,l=[a]:=by
 match l,h with
 | [a],_=>exact⟨a,rfl⟩
theorem w9 {l:List GE}(h:l.length=2):∃a b,l=[a,b]:=by
 match l,h with
 | [a,b],_=>exact⟨a,b,rfl⟩
theorem B8 {s:List UInt8}(h:lI s false=true):s=[]:=by simpa [lI] using h
theorem eok:∀(n:Nat) (x:GE),x.size≤n→nU x=true→IF x:=by
 intro n
 induction n with
 | zero=>intro x hn; cases x; simp [GE.size] at hn
 | succ n ih =>
  intro x hn hw
  have hk:=CD hw
  have ha:∀a∈x.args,IF a∧1≤a.kind∧a.kind≤26:=by
   intro a hm
   cases x
   simp only [nU,ad2,wG,ah1] at hw
   have h1:=GE.oO hm
   simp only [GE.size,GE.args] at hn h1 hm
   exact⟨ih a (by omega) (hw.2 a hm),CD (hw.2 a hm)⟩
  have hnode:rL x.kind x.num x.name x.args.length=true:=by
   cases x
   simp only [nU,ad2] at hw
   exact hw.1
  have one:∀a,x.args=[a]→IF a∧1≤a.kind∧a.kind≤26:=fun a e=>ha a (by rw [e]; simp)
  have two:∀a b,x.args=[a,b]→(IF a∧1≤a.kind∧a.kind≤26)∧(IF b∧1≤b.kind∧b.kind≤26):=fun a b e=>⟨ha a (by rw [e]; simp),ha b (by rw [e]; simp)⟩
  have bin:lJ x.kind < 8→(∃a b,x.args=[a,b])→IF x:=by
   rintro ht ⟨a,b,e⟩
   obtain⟨h1,h2⟩:=two a b e
   exact aEO e hk ht h1.1 h2.1 h1.2 h2.2
  have cl:(x.kind=4∨x.kind=23∨x.kind=24∨x.kind=25∨x.kind=26)→(x.kind=4∨x.name=[])→IF x:=fun h1 h2=>azG h1 h2 fun a hm=>(ha a hm).1
  unfold rL at hnode
  rcases Ah hk with h | h | h | h | h | h | h | h | h | h | h | h | h | h | h | h | h | h | h | h | h | h | h | h | h | h <;> simp only [h] at hnode bin cl <;>
   simp [tT,k_,vD] at hnode
  ·exact aEM h hnode.2
  ·exact azH h
  ·obtain⟨a,e⟩:=CK (l:=x.args) (by have:=hnode.1.1; omega)
   exact aoZ h e (one a e).1
  ·exact cl (by simp) (by simp)
  ·obtain⟨a,e⟩:=CK (l:=x.args) (by have:=hnode.1.1; omega)
   exact Ru (.inl h) e (one a e).1 (one a e).2
  ·obtain⟨a,e⟩:=CK (l:=x.args) (by have:=hnode.1.1; omega)
   exact Ru (.inr (.inl h)) e (one a e).1 (one a e).2
  ·obtain⟨a,e⟩:=CK (l:=x.args) (by have:=hnode.1.1; omega)
   exact Ru (.inr (.inr h)) e (one a e).1 (one a e).2
  ·exact bin (by decide) (w9 (l:=x.args) (by have:=hnode.1.1; omega))
  ·exact bin (by decide) (w9 (l:=x.args) (by have:=hnode.1.1; omega))
  ·exact bin (by decide) (w9 (l:=x.args) (by have:=hnode.1.1; omega))
  ·exact bin (by decide) (w9 (l:=x.args) (by have:=hnode.1.1; omega))
  ·exact bin (by decide) (w9 (l:=x.args) (by have:=hnode.1.1; omega))
  ·exact bin (by decide) (w9 (l:=x.args) (by have:=hnode.1.1; omega))
  ·obtain⟨a,e⟩:=CK (l:=x.args) (by have:=hnode.1.1; omega)
   exact YD e hk (by rw [h]; decide) (by rw [h]; decide) hnode.2 (one a e).1 (one a e).2
  ·obtain⟨a,e⟩:=CK (l:=x.args) (by have:=hnode.1.1; omega)
   exact YD e hk (by rw [h]; decide) (by rw [h]; decide) hnode.2 (one a e).1 (one a e).2
  ·exact aEN h (B8 hnode.1.2) hnode.2 fun a hm=>(ha a hm).1
  ·exact bin (by decide) (w9 (l:=x.args) (by have:=hnode.1.1; omega))
  ·exact bin (by decide) (w9 (l:=x.args) (by have:=hnode.1.1; omega))
  ·exact bin (by decide) (w9 (l:=x.args) (by have:=hnode.1.1; omega))
  ·exact bin (by decide) (w9 (l:=x.args) (by have:=hnode.1.1; omega))
  ·exact bin (by decide) (w9 (l:=x.args) (by have:=hnode.1.1; omega))
  ·exact bin (by decide) (w9 (l:=x.args) (by have:=hnode.1.1; omega))
  ·exact cl (by simp) (.inr (B8 hnode.1.2))
  ·exact cl (by simp) (.inr (B8 hnode.1.2))
  ·exact cl (by simp) (.inr (B8 hnode.1.2))
  ·exact cl (by simp) (.inr (B8 hnode.1.2))
theorem c37 (x:GE) (hw:nU x=true):WOk 37 [.agg x.cells] (mE x) (mA x):=eok x.size x (Nat.le_refl _) hw
end
section
open Go Hk
def WS.sl (w:WS) (l:Nat):WS:={ w with ln:=l }
section
variable {w:WS}{x:List UInt8}{n k l j:Nat}{B C:List lE}{cs:List kM}
@[simp] theorem WS.aMp:(w.sl l).st x n k=(w.st x n k).sl l:=rfl
@[simp] theorem WS.aMq:(w.sl l).up=w.up.sl l:=rfl
@[simp] theorem WS.aIp:(w.sl l).down=w.down.sl l:=rfl
@[simp] theorem WS.aMo:(w.sl l).sl j=w.sl j:=rfl
@[simp] theorem WS.aMm:(w.sl l).bs=w.bs:=rfl
@[simp] theorem WS.aK2:(w.sl l).now=w.now:=rfl
@[simp] theorem WS.aMn:(w.sl l).ln=l:=rfl
theorem WS.XG:(w.st x n k).sl w.ln=w.st x n k:=rfl
theorem aw0 {n:Nat}:pU 1 (WH w B) (.ptr 1 4) (.int .i64 (n:Int))=some (WH (w.sl n) B):=(rfl)
end
theorem GT.still (t:GT) (m:Nat) (h:kP):nI m h t.cells=some t.cells:=by simp [GT.cells]
theorem Oy {t:GT}{C:List lE}(h:Still C):Still (.cells t.cells::C):=fun m y=>by simp [t.still m y,h m y]
theorem GS.still (x:GS) (m:Nat) (h:kP):nI m h x.cells=some x.cells:=by cases x; simp [GS.cells]
theorem Bl {x:GS}{C:List lE}(h:Still C):Still (.cells x.cells::C):=fun m y=>by simp [x.still m y,h m y]
@[simp] theorem GS.XT (x:GS):x.cells.map kM.uH=x.cells:=by cases x; simp [GS.cells]
@[simp] theorem GS.aK7 (x:GS):x.cells.take 11=x.cells:=by cases x; rfl
theorem GS.tok (x:GS) {k:Nat}:lD k x.cells=(x.cells,[]):=uO (by cases x; simp [GS.cells,kM.isNil])
theorem GS.Ud (x:GS):x.cells.all kM.mD=true:=by cases x; simp [GS.cells,kM.mD]
section
variable {w:WS}{B C:List lE}{cs:List kM}
theorem IX {t:GT}:lK 3 (WH w B) (.agg t.cells)=some (.ptr (B.length+3) 0,WH w (B++[.cells t.cells])):=by
 simp [lK,GT.cells,lD,nF,pC]
theorem Hp {x:GS}:lK 11 (WH w B) (.agg x.cells)=some (.ptr (B.length+3) 0,WH w (B++[.cells x.cells])):=by
 simp [lK,x.tok,x.Ud,nF,pC]
theorem ax9:lK 11 (WH w B) (.agg [.int .i64 0,.int .i64 0,.int .i64 0,.str [],.int .i64 0,.int .i64 0,.int .i64 0,.slice [] .nil,.slice [] .nil,.slice [] .nil,.bool false]) =
  some (.ptr (B.length+3) 0,WH w (B++[.cells [.int .i64 0,.int .i64 0,.int .i64 0,.str [],.int .i64 0,.int .i64 0,.int .i64 0,.slice [] (.own (B.length+4)),.slice [] (.own (B.length+5)),.slice [] (.own (B.length+6)),.bool false],.front 0 0,.front 0 0,.front 0 0])):=by
 simp [lK,lD,nF,pC]
theorem aK3 {x:GS}(hc:cs.length=11):pU 11 (WH w (B++.cells cs::C)) (.ptr (B.length+3) 0) (.agg x.cells)=some (WH w (B++.cells x.cells::C)):=by
 have e:=WE (w:=w) (B:=B) (C:=C) (cs:=cs)
 have hk:∀os,pV (WH w (B++.cells cs::C)) os x.cells=x.cells:=fun os=>rA (by cases x; simp [GS.cells,kM.isNil])
 simp only [pU,BT,e,D1,mY,af4,Fz,GS.q8,hc]
 rw [if_pos ⟨trivial,by omega,x.Ud⟩,hk]
 have:putCells cs 0 x.cells=x.cells:=by simp [putCells,hc]
 rw [this,akI]
theorem aJ9 {x:GS}{h:kP}:l_ true 11 h (.pptr x.cells)=some (.agg x.cells):=by simp [l_]
theorem trC {C D:List lE}(hB:Still B) (hC:Still C) {n:Nat}(hn:C.length=n):l9 (B.length+n+3) (WH w (B++(C++D)))=some (WH w (B++C)):=by
 have:=oD (w:=w) (B:=B++C) (C:=D) (o9 hB hC)
 rw [ac2,hn,af9] at this
 exact this
end
theorem ajF {n:Int}:0 < (vJ n).length:=by
 unfold vJ
 obtain⟨c,r,h⟩:=Rt n.toNat
 rw [h]; simp
theorem c70 {w:WS}{B:List lE}(t:GT) (ht:sK t=true) (hB:Still B) (hb:w.bs.length+(wK t).length≤140737488355328) :
  KK 70 [.ptr 1 0,.agg t.cells] (WH w B)=some (.ret (.tuple []),WH (w.st (wK t) 0 0) B):=by
 have hlen:0≤t.len∧t.len≤4294967295:=by
  simp only [sK,ad2] at ht
  exact vD.1 ht.1.2
 refine k9 (aBg _ _ _ _) ?_
 have s1:Still (B++[.cells t.cells]):=o9 hB (Oy oC)
 have s2:∀n s,Still (B++[.cells t.cells,.front n s]):=fun n s=>o9 hB (Oy (mM oC))
 have htr:=fun w C=>oD (w:=w) (C:=C) hB
 have htr2:∀w D,l9 (B.length+1+3) (WH w (B++.cells t.cells::D))=some (WH w (B++[.cells t.cells])):=fun w D=>trC (C:=[.cells t.cells]) hB (Oy oC) rfl
 have q1:∀h o,kM.mO (B.length+1+3) h (.ptr (B.length+3) o)=.ptr (B.length+3) o:=fun h o=>yR (by omega)
 have q2:∀h o,kM.mO (B.length+1+3) h (.ptr 1 o)=.ptr 1 o:=fun h o=>yR (by omega)
 have g0:∀h:0 < t.cells.length,t.cells[0]'h=.int .i64 t.elem:=fun _=>rfl
 have g1:∀h:1 < t.cells.length,t.cells[1]'h=.int .i64 t.len:=fun _=>rfl
 have gl:t.cells.length=3:=rfl
 have e0:=c89 t.len hlen.1 (by omega)
 have nl:=DM (n:=t.len) (by omega)
 have np:=ajF (n:=t.len)
 obtain⟨a,ha⟩:∃a,a=(if t.elem=1 then [109,97,115,107] else if t.elem=2 then [117,56] else [117,51,50]:List UInt8):=⟨_,rfl⟩
 have kt:wK t=a++(if 0 < t.len then 91::(vJ t.len++[93]) else []):=by rw [ha]; rfl
 rw [kt] at hb ⊢
 simp only [ac2] at hb
 have e1:=P1 (w:=w) (x:=a) (s2 1 1) (by omega)
 have fin2:0 < t.len→KK 68 [.ptr 1 0,.slice [qY [91],qY (vJ t.len),qY [93]] .no] (WH (w.st a 0 0) (B++[.cells t.cells,.front 3 1]))=some (.ret (.tuple []),WH (w.st (a++91::(vJ t.len++[93])) 0 0) (B++[.cells t.cells,.front 3 1])):=by
  intro hp
  rw [if_pos hp] at hb
  simp only [ac8,ac2,ad0] at hb
  have:=P3 (w:=w.st a 0 0) (x:=[91]) (y:=vJ t.len) (z:=[93]) (s2 3 1) (by simp; omega)
  simpa using this
 by_cases h1:t.elem=1
 ·rw [if_pos h1] at ha
  subst ha
  by_cases hp:0 < t.len
  ·simp -implicitDefEqProofs [m70,IX,g0,g1,gl,h1,hp,vU,Cg,pC,nF,e0,e1,fin2 hp,kS,htr2,q1,q2,lY,htr]
  ·simp -implicitDefEqProofs [m70,IX,g0,g1,gl,h1,hp,vU,Cg,pC,nF,e0,e1,kS,htr2,q1,q2,lY,htr]
 ·rw [if_neg h1] at ha
  by_cases h2:t.elem=2
  ·rw [if_pos h2] at ha
   subst ha
   by_cases hp:0 < t.len
   ·simp -implicitDefEqProofs [m70,IX,g0,g1,gl,h1,h2,hp,vU,Cg,pC,nF,e0,e1,fin2 hp,kS,htr2,q1,q2,lY,htr]
   ·simp -implicitDefEqProofs [m70,IX,g0,g1,gl,h1,h2,hp,vU,Cg,pC,nF,e0,e1,kS,htr2,q1,q2,lY,htr]
  ·rw [if_neg h2] at ha
   subst ha
   by_cases hp:0 < t.len
   ·simp -implicitDefEqProofs [m70,IX,g0,g1,gl,h1,h2,hp,vU,Cg,pC,nF,e0,e1,fin2 hp,kS,htr2,q1,q2,lY,htr]
   ·simp -implicitDefEqProofs [m70,IX,g0,g1,gl,h1,h2,hp,vU,Cg,pC,nF,e0,e1,kS,htr2,q1,q2,lY,htr]
def SOk (s:GS):Prop:=∀(w:WS) (B:List lE),Still B→w.bs.length+(qI w.ln s).length≤1099511627776→w.now+qT s≤1000000000000000 →
 KK 126 [.ptr 1 0,.agg s.cells] (WH w B)=some (.ret (.tuple []),WH (w.st (qI w.ln s) (qT s) 0) B)
def BOk (l:List GS):Prop:=∀(w:WS) (B:List lE),Still B→w.bs.length+(oH w.ln (oF (w.ln+1) l)).length≤1099511627776→w.now+(qJ (nX l)+1)≤1000000000000000 →
 KK 71 [.ptr 1 0,.slice (l.map GS.cells) .no] (WH w B)=some (.ret (.tuple []),WH (w.st (oH w.ln (oF (w.ln+1) l)) (qJ (nX l)+1) 0) B)
def Ns (n:Nat) (t:List UInt8):List UInt8:=qB n++t++[10]
def wU (n:Nat) (l:List GS) (i:Nat):List UInt8:=(((l.take i).map (qI n)).map (Ns n)).flatten
def z7 (l:List GS) (i:Nat):Nat:=qJ ((l.take i).map qT)
theorem Jp:∀(l:List Nat) (p:Nat),qJ (l++[p])=max (qJ l) p
 | [],p=>by simp [qJ]
 | q::l,p=>by simp only [af2,qJ,Jp l p]; omega
theorem NN:∀(a b:List Nat),qJ a≤qJ (a++b)
 | [],_=>by simp [qJ]
 | p::a,b=>by simp only [qJ,af2]; have:=NN a b; omega
theorem P5 {n:Nat}{l:List GS}{i:Nat}{x:GS}(h:l[i]?=some x):wU n l (i+1)=wU n l i++(qB n++(qI n x++[10])):=by
 simp [wU,tL h,Ns]
theorem P4 {l:List GS}{i:Nat}{x:GS}(h:l[i]?=some x):z7 l (i+1)=max (z7 l i) (qT x):=by
 simp [z7,tL h,Jp]
theorem Ys (n:Nat) (l:List GS) (i:Nat):(wU n l i).length≤(wU n l l.length).length:=by
 have:wU n l l.length=wU n l i++(((l.drop i).map (qI n)).map (Ns n)).flatten:=by
  unfold wU
  rw [←List.flatten_append,←List.map_append,←List.map_append,List.take_append_drop,List.take_length]
 rw [this]; simp
theorem aoH (l:List GS) (i:Nat):z7 l i≤z7 l l.length:=by
 have:z7 l l.length=qJ ((l.take i).map qT++(l.drop i).map qT):=by
  unfold z7
  rw [←List.map_append,List.take_append_drop,List.take_length]
 rw [this]
 exact NN _ _
theorem I0 (n:Nat) (l:List GS):oH n (oF (n+1) l)=32::123::10::(wU (n+1) l l.length++(qB n++[125])):=by
 unfold oH wU
 have e:(fun t=>qB (n+1)++t++[10])=Ns (n+1):=rfl
 rw [QV,List.take_length,e]
 simp
theorem Sq (l:List GS):qJ (nX l)=z7 l l.length:=by rw [QF]; simp [z7]
@[simp] theorem tE {n:Nat}:(qB n).length=n:=by simp [qB]
theorem aiW {w:WS}{B:List lE}(l:List GS) (hok:∀x∈l,SOk x) (n:Nat) (hB:Still B) (W:List UInt8) (hl:l.length≤4611686018427387904)
  (hb:w.bs.length+(W.length+(wU (n+1) l l.length).length)≤1099511627776) (hn:w.now+(z7 l l.length+1)≤1000000000000000):∀i,i≤l.length →
  mI (Sl KK (B.length+3)) ([.ptr 1 0,.slice (l.map GS.cells) .no,.int .i64 (l.length:Int),.int .i64 (i:Int)],WH ((w.st (W++wU (n+1) l i) (max 1 (nn 1 (z7 l i))) 1).sl (n+1)) B) =
   some (.exit 0,[.ptr 1 0,.slice (l.map GS.cells) .no,.int .i64 (l.length:Int),.int .i64 (l.length:Int)],WH ((w.st (W++wU (n+1) l l.length) (max 1 (nn 1 (z7 l l.length))) 1).sl (n+1)) B):=by
 refine tN (fun i:Nat=>([.ptr 1 0,.slice (l.map GS.cells) .no,.int .i64 (l.length:Int),.int .i64 (i:Int)],WH ((w.st (W++wU (n+1) l i) (max 1 (nn 1 (z7 l i))) 1).sl (n+1)) B)) (fun i=>i≤l.length) (fun i=>l.length - i) _ fun i hi=>?_
 have htr:=fun w C=>oD (w:=w) (C:=C) hB
 by_cases h:i < l.length
 ·left
  refine⟨i+1,?_,h,by omega,rfl⟩
  obtain⟨x,hx⟩:∃x,l[i]?=some x:=⟨l[i],ac0 h⟩
  have hxe:=hok x (af1 hx)
  have hxi:∀hh:i < l.length,l[i]'hh=x:=fun hh=>by rw [ac0 hh] at hx; exact Option.some.inj hx
  have t1:=P5 (n:=n+1) hx
  have t2:=P4 hx
  have t3:=Ys (n+1) l (i+1)
  have t4:=aoH l (i+1)
  rw [t1] at t3
  rw [t2] at t4
  simp only [ac2,ac8,ad0,tE] at t3
  have w1:=rV (a:=i) (by omega)
  have s2:Still (B++[.cells x.cells,.front 0 0,.front 0 0,.front 0 0]):=o9 hB (Bl (mM (mM (mM oC))))
  have s4:Still (B++[.cells x.cells,.front 0 0,.front 0 0,.front 0 0,.front 1 1]):=o9 hB (Bl (mM (mM (mM (mM oC)))))
  have hst:=fun w C cs (hc:aa0 cs=11)=>aK3 (w:=w) (B:=B) (C:=C) (x:=x) hc
  have e1:=aEA (w:=(w.st (W++wU (n+1) l i) (max 1 (nn 1 (z7 l i))) 1).sl (n+1)) s2 (by simp; omega) (by simp; omega)
  have e2:=hxe ((w.st (W++(wU (n+1) l i++qB (n+1))) (max 1 (nn 1 (z7 l i))) 1).sl (n+1)) _ s2 (by simp; omega) (by simp; omega)
  have e3:=P1 (w:=(w.st (W++(wU (n+1) l i++(qB (n+1)++qI (n+1) x))) (max (max 1 (nn 1 (z7 l i))) (nn 1 (qT x))) 1).sl (n+1)) (x:=[10]) s4 (by simp; omega)
  simp -implicitDefEqProofs at e1 e2 e3
  simp -implicitDefEqProofs [Sl,h,hxi,aJ9,ax9,hst,kS,htr,nF,vU,pC,e1,e2,e3,w1,y_,-ag1]
  refine congrArg (fun w=>WH w B) (congrArg (fun w=>WS.sl w (n+1)) (WS.BD (by rw [t1]) ?_ rfl))
  rw [t2]
  unfold nn
  split <;> split <;> split <;> omega
 ·right
  have:i=l.length:=by omega
  subst this
  constructor
  ·simp -implicitDefEqProofs [Sl,kS,tB hB,y_]
  ·simp
theorem c71 (l:List GS) (hok:∀x∈l,SOk x):BOk l:=by
 intro w B hB hb hn
 rw [I0] at hb ⊢
 rw [Sq] at hn ⊢
 simp only [ac2,ac8,ad0,tE] at hb
 have hl:l.length≤4611686018427387904:=by
  have key:∀(n:Nat) (l:List GS),l.length≤(wU n l l.length).length:=by
   intro n l
   unfold wU
   rw [List.take_length]
   induction l with
   | nil=>simp
   | cons x r ih=>simp only [aj2,List.flatten_cons,ac2,ac8,Ns,ad0] at ih ⊢; omega
  have:=key (w.ln+1) l
  omega
 refine k9 (aBh _ _ _ _) ?_
 have s1:=VC (n:=1) (s:=1) hB
 have s2:Still (B++[.front 1 1,.front 1 1]):=o9 hB (mM (mM oC))
 have htr:=fun w C=>oD (w:=w) (C:=C) hB
 have e1:=P1 (w:=w) (x:=[32,123,10]) s1 (by simp; omega)
 have e2:=c85 (w:=w.st [32,123,10] 0 0) s1 (by simp; omega)
 have w1:=rV (a:=w.ln) (by omega)
 have e3:=aw0 (w:=w.st [32,123,10] 1 1) (B:=B++[.front 1 1]) (n:=w.ln+1)
 have e4:=aiW (w:=w) l hok w.ln s1 [32,123,10] hl (by simp; omega) hn 0 (ah9 _)
 have w2:IntKind.wrap .i64 (((w.ln+1:Nat):Int) - 1)=(w.ln:Int):=by rw [wrap64] <;> omega
 have e5:=aw0 (w:=(w.st ([32,123,10]++wU (w.ln+1) l l.length) (max 1 (nn 1 (z7 l l.length))) 1).sl (w.ln+1)) (B:=B++[.front 1 1]) (n:=w.ln)
 have e6:=aEA (w:=w.st ([32,123,10]++wU (w.ln+1) l l.length) (max 1 (nn 1 (z7 l l.length))) 1) s1 (by simp; omega) (by simp; omega)
 have e7:=c86 (w:=w.st ([32,123,10]++(wU (w.ln+1) l l.length++qB w.ln)) (max 1 (nn 1 (z7 l l.length))) 1) s1 (by simp; omega) (by simp)
 have e8:=P1 (w:=w.st ([32,123,10]++(wU (w.ln+1) l l.length++qB w.ln)) (max 1 (nn 1 (z7 l l.length))) 0) (x:=[125]) s2 (by simp; omega)
 have t0:wU (w.ln+1) l 0=[]:=rfl
 have n0:z7 l 0=0:=rfl
 simp -implicitDefEqProofs [t0,n0,WS.XG,-ag1] at e2 e3 e4 e5 e6 e7 e8
 simp -implicitDefEqProofs [m71,vU,pC,e1,e2,w1,e3,e4,w2,e5,e6,e7,e8,nF,lY,htr,-ag1]
 refine congrArg (fun w=>WH w B) (WS.BD rfl ?_ rfl)
 unfold nn
 split <;> omega
end
section
open Go Hk
def GS.kind:GS→Int | .mk k _ _ _ _ _ _ _ _=>k
def GS.sB:GS→Int | .mk _ _ m _ _ _ _ _ _=>m
def GS.name:GS→List UInt8 | .mk _ _ _ n _ _ _ _ _=>n
def GS.ty:GS→GT | .mk _ _ _ _ t _ _ _ _=>t
def GS.args:GS→List GE | .mk _ _ _ _ _ a _ _ _=>a
def GS.body:GS→List GS | .mk _ _ _ _ _ _ b _ _=>b
def GS.els:GS→List GS | .mk _ _ _ _ _ _ _ e _=>e
def GS.has:GS→Bool | .mk _ _ _ _ _ _ _ _ h=>h
theorem qV (n:Nat) (x:GS):qI n x=Cw x.kind x.sB x.name x.ty (x.args.map mE) (oH n (oF (n+1) x.body)) (oH n (oF (n+1) x.els)) x.has:=by cases x; simp only [qI]; rfl
theorem qU (x:GS):qT x=ZR x.kind (x.args.map mA) (qJ (nX x.body)+1) (qJ (nX x.els)+1) x.has:=by cases x; simp only [qT]; rfl
section
variable (x:GS)
@[simp] theorem GS.g0 {h:0 < x.cells.length}:x.cells[0]'h=.int .i64 x.kind:=by cases x; rfl
@[simp] theorem GS.g2 {h:2 < x.cells.length}:x.cells[2]'h=.int .i64 x.sB:=by cases x; rfl
@[simp] theorem GS.g3 {h:3 < x.cells.length}:x.cells[3]'h=.str x.name:=by cases x; rfl
@[simp] theorem GS.g6 {h:6 < x.cells.length}:x.cells[6]'h=.int .i64 x.ty.label:=by cases x; rfl
@[simp] theorem GS.g7 {h:7 < x.cells.length}:x.cells[7]'h=.slice (x.args.map GE.cells) .no:=by cases x; rfl
@[simp] theorem GS.g8 {h:8 < x.cells.length}:x.cells[8]'h=.slice (x.body.map GS.cells) .no:=by cases x; simp [GS.cells,GS.body,GS.nO]
@[simp] theorem GS.g9 {h:9 < x.cells.length}:x.cells[9]'h=.slice (x.els.map GS.cells) .no:=by cases x; simp [GS.cells,GS.els,GS.nO]
@[simp] theorem GS.g10 {h:10 < x.cells.length}:x.cells[10]'h=.bool x.has:=by cases x; rfl
@[simp] theorem GS.gty:(x.cells.drop 4).take 3=x.ty.cells:=by cases x; rfl
@[simp] theorem GT.XT (t:GT):t.cells.map kM.uH=t.cells:=rfl
end
theorem X8 {x:GS}{a:GE}{l:List GE}(h:x.args=a::l):kX 5 (.slice (x.args.map GE.cells) .no) (.int .i64 0)=some (.pptr a.cells):=by rw [h]; exact ix0
theorem xi1 {x:GS}{a b:GE}{l:List GE}(h:x.args=a::b::l):kX 5 (.slice (x.args.map GE.cells) .no) (.int .i64 1)=some (.pptr b.cells):=by rw [h]; exact ix1
@[simp] theorem aIc {m:Nat}:nn 0 m=m:=by unfold nn; split <;> omega
theorem w00:IntKind.wrap .i64 0=0:=by decide
theorem w01:IntKind.wrap .i64 1=1:=by decide
section
variable {w:WS}{B:List lE}{x:GS}
theorem sS1 (hB:Still B):Still (B++[.cells x.cells]):=o9 hB (Bl oC)
theorem Th {n s:Nat}(hB:Still B):Still (B++[.cells x.cells,.front n s]):=o9 hB (Bl (mM oC))
theorem sS3 {n s n' s':Nat}(hB:Still B):Still (B++[.cells x.cells,.front n s,.front n' s']):=o9 hB (Bl (mM (mM oC)))
theorem sS4 {n s n' s' n2 s2:Nat}(hB:Still B):Still (B++[.cells x.cells,.front n s,.front n' s',.front n2 s2]):=o9 hB (Bl (mM (mM (mM oC))))
theorem trS (hB:Still B) (w:WS) (D:List lE):l9 (B.length+1+3) (WH w (B++.cells x.cells::D))=some (WH w (B++[.cells x.cells])):=trC (C:=[.cells x.cells]) hB (Bl oC) rfl
theorem qS1 {h:kP}{o:Nat}:kM.mO (B.length+1+3) h (.ptr (B.length+3) o)=.ptr (B.length+3) o:=yR (by omega)
theorem qS2 {h:kP}{o:Nat}:kM.mO (B.length+1+3) h (.ptr 1 o)=.ptr 1 o:=yR (by omega)
end
theorem aCu {x:GS}{a:GE}(hk:x.kind=1) (hx:x.args=[a]) (ha:nU a=true):SOk x:=by
 intro w B hB hb hn
 have t1:qI w.ln x=[108,101,116,32]++x.name++[32,61,32]++mE a++[59]:=by rw [qV,hk,hx]; rfl
 have t2:qT x=mA a:=by rw [qU,hk,hx]; rfl
 rw [t1] at hb
 rw [t2] at hn
 rw [t1,t2]
 simp only [ac2,ac8,ad0] at hb
 refine k9 (C4 _ _ _ _) ?_
 have htr:=fun w C=>oD (w:=w) (C:=C) hB
 have e1:=P3 (w:=w) (x:=[108,101,116,32]) (y:=x.name) (z:=[32,61,32]) (Th (x:=x) (n:=3) (s:=1) hB) (by simp; omega)
 have e2:=c37 a ha (w.st ([108,101,116,32]++(x.name++[32,61,32])) 0 0) _ (sS1 (x:=x) hB) (by simp; omega) (by simp; omega)
 have e3:=P1 (w:=w.st ([108,101,116,32]++(x.name++([32,61,32]++mE a))) (mA a) 0) (x:=[59]) (Th (x:=x) (n:=1) (s:=1) hB) (by simp; omega)
 have i0:=X8 hx
 have hl:x.args.length=1:=by rw [hx]; rfl
 simp -implicitDefEqProofs at e1 e2 e3
 simp -implicitDefEqProofs [Pu,Hp,hk,vU,Cg,pC,nF,e1,e2,e3,kS,trS hB,qS1,qS2,i0,hl,w00,WY,lY,htr]
theorem aCw {x:GS}{a:GE}(hk:x.kind=3) (hx:x.args=[a]) (ha:nU a=true):SOk x:=by
 intro w B hB hb hn
 have t1:qI w.ln x=x.name++[32,61,32]++mE a++[59]:=by rw [qV,hk,hx]; rfl
 have t2:qT x=mA a:=by rw [qU,hk,hx]; rfl
 rw [t1] at hb
 rw [t2] at hn
 rw [t1,t2]
 simp only [ac2,ac8,ad0] at hb
 refine k9 (C4 _ _ _ _) ?_
 have htr:=fun w C=>oD (w:=w) (C:=C) hB
 have e1:=P2 (w:=w) (x:=x.name) (y:=[32,61,32]) (Th (x:=x) (n:=2) (s:=1) hB) (by simp; omega)
 have e2:=c37 a ha (w.st (x.name++[32,61,32]) 0 0) _ (sS1 (x:=x) hB) (by simp; omega) (by simp; omega)
 have e3:=P1 (w:=w.st (x.name++([32,61,32]++mE a)) (mA a) 0) (x:=[59]) (Th (x:=x) (n:=1) (s:=1) hB) (by simp; omega)
 have i0:=X8 hx
 have hl:x.args.length=1:=by rw [hx]; rfl
 simp -implicitDefEqProofs at e1 e2 e3
 simp -implicitDefEqProofs [Pu,Hp,hk,vU,Hr,pC,nF,e1,e2,e3,kS,trS hB,qS1,qS2,i0,hl,w00,WY,lY,htr]
theorem aCv {x:GS}{a:GE}(hk:x.kind=8) (hx:x.args=[a]) (ha:nU a=true):SOk x:=by
 intro w B hB hb hn
 have t1:qI w.ln x=[114,101,116,117,114,110,32]++mE a++[59]:=by rw [qV,hk,hx]; rfl
 have t2:qT x=mA a:=by rw [qU,hk,hx]; rfl
 rw [t1] at hb
 rw [t2] at hn
 rw [t1,t2]
 simp only [ac2,ac8,ad0] at hb
 refine k9 (C4 _ _ _ _) ?_
 have htr:=fun w C=>oD (w:=w) (C:=C) hB
 have e1:=P1 (w:=w) (x:=[114,101,116,117,114,110,32]) (Th (x:=x) (n:=1) (s:=1) hB) (by simp; omega)
 have e2:=c37 a ha (w.st [114,101,116,117,114,110,32] 0 0) _ (sS1 (x:=x) hB) (by simp; omega) (by simp; omega)
 have e3:=P1 (w:=w.st ([114,101,116,117,114,110,32]++mE a) (mA a) 0) (x:=[59]) (Th (x:=x) (n:=1) (s:=1) hB) (by simp; omega)
 have i0:=X8 hx
 have hl:x.args.length=1:=by rw [hx]; rfl
 simp -implicitDefEqProofs at e1 e2 e3
 simp -implicitDefEqProofs [Pu,Hp,hk,vU,pC,nF,e1,e2,e3,kS,trS hB,qS1,qS2,i0,hl,w00,WY,lY,htr]
theorem at6 {x:GS}{a:GE}(hk:x.kind=7) (hx:x.args=[a]) (ha:nU a=true):SOk x:=by
 intro w B hB hb hn
 have t1:qI w.ln x=mE a++[59]:=by rw [qV,hk,hx]; rfl
 have t2:qT x=mA a:=by rw [qU,hk,hx]; rfl
 rw [t1] at hb
 rw [t2] at hn
 rw [t1,t2]
 simp only [ac2,ac8,ad0] at hb
 refine k9 (C4 _ _ _ _) ?_
 have htr:=fun w C=>oD (w:=w) (C:=C) hB
 have e2:=c37 a ha w _ (sS1 (x:=x) hB) (by omega) (by omega)
 have e3:=P1 (w:=w.st (mE a) (mA a) 0) (x:=[59]) (Th (x:=x) (n:=1) (s:=1) hB) (by simp; omega)
 have i0:=X8 hx
 have hl:x.args.length=1:=by rw [hx]; rfl
 simp -implicitDefEqProofs at e2 e3
 simp -implicitDefEqProofs [Pu,Hp,hk,vU,pC,nF,e2,e3,kS,trS hB,qS1,qS2,i0,hl,w00,WY,lY,htr]
theorem akY {x:GS}{a b:GE}(hk:x.kind=4) (hx:x.args=[a,b]) (ha:nU a=true) (hb':nU b=true) (hnm:qR x.name=true):SOk x:=by
 intro w B hB hb hn
 have t1:qI w.ln x=x.name++91::(mE a++[93])++[32,61,32]++mE b++[59]:=by rw [qV,hk,hx]; rfl
 have t2:qT x=max (mA a+1) (mA b):=by rw [qU,hk,hx]; rfl
 rw [t1] at hb
 rw [t2] at hn
 rw [t1,t2]
 simp only [ac2,ac8,ad0] at hb
 refine k9 (C4 _ _ _ _) ?_
 have htr:=fun w C=>oD (w:=w) (C:=C) hB
 have hwe:nU (.mk 3 0 0 x.name [a])=true:=by simp [nU,nH,rL,tT,lI,k_,hnm,ha]
 have hce:(GE.mk 3 0 0 x.name [a]).cells=[.int .i64 3,.int .i64 0,.int .i64 0,.str x.name,.slice [a.cells] .no]:=by simp [GE.cells,GE.rows]
 have hte:mE (.mk 3 0 0 x.name [a])=x.name++91::(mE a++[93]):=by rw [s_]; rfl
 have hne:mA (.mk 3 0 0 x.name [a])=mA a+1:=by rw [sV]; rfl
 have e1:=c37 _ hwe w _ (sS1 (x:=x) hB) (by rw [hte]; simp only [ac2,ac8,ad0]; omega) (by rw [hne]; omega)
 rw [hce,hte,hne] at e1
 have e2:=P1 (w:=w.st (x.name++91::(mE a++[93])) (mA a+1) 0) (x:=[32,61,32]) (Th (x:=x) (n:=1) (s:=1) hB) (by simp; omega)
 have e3:=c37 b hb' (w.st (x.name++91::(mE a++([93]++[32,61,32]))) (mA a+1) 0) _ (sS1 (x:=x) hB) (by simp; omega) (by simp; omega)
 have e4:=P1 (w:=w.st (x.name++91::(mE a++([93]++([32,61,32]++mE b)))) (max (mA a+1) (nn 0 (mA b))) 0) (x:=[59]) (Th (x:=x) (n:=1) (s:=1) hB) (by simp; omega)
 have i1:=xi1 hx
 have hl:x.args.length=2:=by rw [hx]; rfl
 have hsl:uT 5 (.slice (x.args.map GE.cells) .no) none (some (.int .i64 1))=some (.slice [a.cells] .no):=by
  rw [Hq (l:=0) (u:=1) (fun y=>y.q8) rfl rfl (by omega) (by omega),hx]; rfl
 have hab:lS [.int .i64 0,.int .i64 0,.int .i64 0,.str [],.slice [] .nil] [(0,1),(1,1),(2,1),(3,1),(4,1)] [(0,.int .i64 3),(3,.str x.name),(4,.slice [a.cells] .no)]=some (.agg [.int .i64 3,.int .i64 0,.int .i64 0,.str x.name,.slice [a.cells] .no]):=rfl
 simp -implicitDefEqProofs at e1 e2 e3 e4
 simp -implicitDefEqProofs [Pu,Hp,hk,vU,pC,nF,hsl,hab,e1,e2,e3,e4,kS,trS hB,qS1,qS2,i1,hl,w01,WY,lY,htr]
theorem aCx {x:GS}(hk:x.kind=2) (ht:sK x.ty=true):SOk x:=by
 intro w B hB hb hn
 have t1:qI w.ln x=[118,97,114,32]++oV x.ty.label++x.name++[58,32]++wK x.ty++[59]:=by rw [qV,hk]; rfl
 have t2:qT x=0:=by rw [qU,hk]; rfl
 rw [t1] at hb
 rw [t2] at hn
 rw [t1,t2]
 have ll:(oV x.ty.label).length=4:=by unfold oV; split <;> rfl
 simp only [ac2,ac8,ad0,ll] at hb
 refine k9 (C4 _ _ _ _) ?_
 have htr:=fun w C=>oD (w:=w) (C:=C) hB
 have e1:=P1 (w:=w) (x:=[118,97,114,32]) (Th (x:=x) (n:=1) (s:=1) hB) (by simp; omega)
 have e2:=c69 (w:=w.st [118,97,114,32] 0 0) x.ty.label (Th (x:=x) (n:=1) (s:=1) hB) (by simp; omega)
 have e3:=P2 (w:=w.st ([118,97,114,32]++oV x.ty.label) 0 0) (x:=x.name) (y:=[58,32]) (sS3 (x:=x) (n:=1) (s:=1) (n':=2) (s':=1) hB) (by simp; omega)
 have e4:=c70 (w:=w.st ([118,97,114,32]++(oV x.ty.label++(x.name++[58,32]))) 0 0) x.ty ht (sS3 (x:=x) (n:=1) (s:=1) (n':=2) (s':=1) hB) (by simp; omega)
 have e5:=P1 (w:=w.st ([118,97,114,32]++(oV x.ty.label++(x.name++([58,32]++wK x.ty)))) 0 0) (x:=[59]) (sS4 (x:=x) (n:=1) (s:=1) (n':=2) (s':=1) (n2:=1) (s2:=1) hB) (by simp; omega)
 simp -implicitDefEqProofs at e1 e2 e3 e4 e5
 simp -implicitDefEqProofs [Pu,Hp,hk,vU,Hr,pC,nF,e1,e2,e3,e4,e5,kS,trS hB,qS1,qS2,lY,htr]
end
section
open Go Hk
section
variable {w:WS}{B:List lE}{x:GS}
theorem aG3 (hB:Still B) (w:WS) (D:List lE):l9 (B.length+2+3) (WH w (B++.cells x.cells::.front 1 1::D))=some (WH w (B++[.cells x.cells,.front 1 1])) :=
 trC (C:=[.cells x.cells,.front 1 1]) hB (Bl (mM oC)) rfl
theorem qS3 {h:kP}{o:Nat}:kM.mO (B.length+2+3) h (.ptr (B.length+3) o)=.ptr (B.length+3) o:=yR (by omega)
theorem qS4 {h:kP}{o:Nat}:kM.mO (B.length+2+3) h (.ptr 1 o)=.ptr 1 o:=yR (by omega)
end
theorem aGU {x:GS}{a:GE}(hk:x.kind=5) (hx:x.args=[a]) (ha:nU a=true) (hb1:BOk x.body) (hb2:BOk x.els):SOk x:=by
 intro w B hB hb hn
 have t1:qI w.ln x=[105,102,32]++mE a++oH w.ln (oF (w.ln+1) x.body)++(if x.has then [32,101,108,115,101]++oH w.ln (oF (w.ln+1) x.els) else []):=by rw [qV,hk,hx]; rfl
 have t2:qT x=if x.has then max (mA a) (max (qJ (nX x.body)+1) (qJ (nX x.els)+1)) else max (mA a) (qJ (nX x.body)+1):=by rw [qU,hk,hx]; rfl
 rw [t1] at hb
 rw [t2] at hn
 rw [t1,t2]
 have f1:=hb1
 have f2:=hb2
 unfold BOk at f1 f2
 simp only [ac2,ac8,ad0] at hb
 refine k9 (C4 _ _ _ _) ?_
 have htr:=fun w C=>oD (w:=w) (C:=C) hB
 have i0:=X8 hx
 have e1:=P1 (w:=w) (x:=[105,102,32]) (Th (x:=x) (n:=1) (s:=1) hB) (by simp; omega)
 cases hh:x.has with
 | false =>
  rw [hh] at hb hn
  simp only [Bool.false_eq_true,if_false,ad0] at hb hn ⊢
  have e2:=c37 a ha (w.st [105,102,32] 0 0) _ (Th (x:=x) (n:=1) (s:=1) hB) (by simp; omega) (by simp; omega)
  have e3:=f1 (w.st ([105,102,32]++mE a) (mA a) 0) _ (Th (x:=x) (n:=1) (s:=1) hB) (by simp; omega) (by simp; omega)
  simp -implicitDefEqProofs at e1 e2 e3
  simp -implicitDefEqProofs [Pu,Hp,hk,vU,Cg,pC,nF,hh,e1,e2,e3,kS,trS hB,aG3 hB,qS1,qS2,qS3,qS4,i0,WY,lY,htr]
 | true =>
  rw [hh] at hb hn
  simp only [if_true,ac2,ac8,ad0] at hb hn ⊢
  have e2:=c37 a ha (w.st [105,102,32] 0 0) _ (Th (x:=x) (n:=1) (s:=1) hB) (by simp; omega) (by simp; omega)
  have e3:=f1 (w.st ([105,102,32]++mE a) (mA a) 0) _ (Th (x:=x) (n:=1) (s:=1) hB) (by simp; omega) (by simp; omega)
  have e4:=P1 (w:=w.st ([105,102,32]++(mE a++oH w.ln (oF (w.ln+1) x.body))) (max (mA a) (qJ (nX x.body)+1)) 0) (x:=[32,101,108,115,101]) (sS3 (x:=x) (n:=1) (s:=1) (n':=1) (s':=1) hB) (by simp; omega)
  have e5:=f2 (w.st ([105,102,32]++(mE a++(oH w.ln (oF (w.ln+1) x.body)++[32,101,108,115,101]))) (max (mA a) (qJ (nX x.body)+1)) 0) _ (sS3 (x:=x) (n:=1) (s:=1) (n':=1) (s':=1) hB) (by simp; omega) (by simp; omega)
  simp -implicitDefEqProofs at e1 e2 e3 e4 e5
  simp -implicitDefEqProofs [Pu,Hp,hk,vU,Cg,pC,nF,hh,e1,e2,e3,e4,e5,kS,trS hB,aG3 hB,qS1,qS2,qS3,qS4,i0,WY,lY,htr]
theorem aCt {x:GS}{a:GE}(hk:x.kind=6) (hx:x.args=[a]) (ha:nU a=true) (hm:0≤x.sB∧x.sB≤4294967295) (hb1:BOk x.body):SOk x:=by
 intro w B hB hb hn
 have t1:qI w.ln x=[102,111,114,32]++x.name++[32,60,32]++mE a++[32,109,97,120,32]++vJ x.sB++oH w.ln (oF (w.ln+1) x.body):=by rw [qV,hk,hx]; rfl
 have t2:qT x=max (mA a) (qJ (nX x.body)+1):=by rw [qU,hk,hx]; rfl
 rw [t1] at hb
 rw [t2] at hn
 rw [t1,t2]
 have f1:=hb1
 unfold BOk at f1
 simp only [ac2,ac8,ad0] at hb
 refine k9 (C4 _ _ _ _) ?_
 have htr:=fun w C=>oD (w:=w) (C:=C) hB
 have i0:=X8 hx
 have e0:=c89 x.sB hm.1 (by omega)
 have e1:=P3 (w:=w) (x:=[102,111,114,32]) (y:=x.name) (z:=[32,60,32]) (Th (x:=x) (n:=3) (s:=1) hB) (by simp; omega)
 have e2:=c37 a ha (w.st ([102,111,114,32]++(x.name++[32,60,32])) 0 0) _ (Th (x:=x) (n:=3) (s:=1) hB) (by simp; omega) (by simp; omega)
 have e3:=P2 (w:=w.st ([102,111,114,32]++(x.name++([32,60,32]++mE a))) (mA a) 0) (x:=[32,109,97,120,32]) (y:=vJ x.sB) (sS3 (x:=x) (n:=3) (s:=1) (n':=2) (s':=1) hB) (by simp; omega)
 have e4:=f1 (w.st ([102,111,114,32]++(x.name++([32,60,32]++(mE a++([32,109,97,120,32]++vJ x.sB))))) (mA a) 0) _ (sS3 (x:=x) (n:=3) (s:=1) (n':=2) (s':=1) hB) (by simp; omega) (by simp; omega)
 simp -implicitDefEqProofs at e1 e2 e3 e4
 simp -implicitDefEqProofs [Pu,Hp,hk,Hr,Cg,pC,nF,e0,e1,e2,e3,e4,kS,trS hB,qS1,qS2,i0,WY,lY,htr]
theorem Ro {k:Int}(h:1≤k∧k≤8):k=1∨k=2∨k=3∨k=4∨k=5∨k=6∨k=7∨k=8:=by omega
theorem Co {k m:Int}{name:List UInt8}{ty:GT}{args:List GE}{nb ne:Nat}{has:Bool}(h:lR k m name ty args nb ne has=true):1≤k∧k≤8:=by
 unfold lR lL at h
 split at h
 ·cases h
 ·rename_i m hm
  split at hm
  ·cases hm
  ·omega
theorem sok:∀(n:Nat) (x:GS),x.size≤n→pX x=true→SOk x:=by
 intro n
 induction n with
 | zero=>intro x hn; cases x; simp [GS.size] at hn
 | succ n ih =>
  intro x hn hw
  have hnode:lR x.kind x.sB x.name x.ty x.args x.body.length x.els.length x.has=true:=by
   cases x
   simp only [pX,ad2] at hw
   exact hw.1.1
  have hb1:BOk x.body:=c71 _ fun y hy=>by
   cases x
   simp only [pX,ad2,wH,ah1] at hw
   have h1:=GS.oO hy
   simp only [GS.size,GS.body] at hn h1 hy
   exact ih y (by omega) (hw.1.2 y hy)
  have hb2:BOk x.els:=c71 _ fun y hy=>by
   cases x
   simp only [pX,ad2,wH,ah1] at hw
   have h1:=GS.oO hy
   simp only [GS.size,GS.els] at hn h1 hy
   exact ih y (by omega) (hw.2 y hy)
  have hk:=Co hnode
  unfold lR at hnode
  have one:x.args.length=1→nH x.args=true→∃a,x.args=[a]∧nU a=true:=by
   intro h1 h2
   obtain⟨a,e⟩:=CK h1
   rw [e] at h2
   simp only [nH,Bool.and_true] at h2
   exact⟨a,e,h2⟩
  rcases Ro hk with h | h | h | h | h | h | h | h <;> simp only [h] at hnode <;>
   simp [lL,k_,vD] at hnode
  ·obtain⟨a,e,hwa⟩:=one (by simp_all) (by simp_all)
   exact aCu h e hwa
  ·exact aCx h (by simp_all)
  ·obtain⟨a,e,hwa⟩:=one (by simp_all) (by simp_all)
   exact aCw h e hwa
  ·obtain⟨a,b,e⟩:=w9 (l:=x.args) (by simp_all)
   have h2:nH x.args=true:=by simp_all
   have h3:lI x.name true=true:=by simp_all
   rw [e] at h2
   simp only [nH,Bool.and_true,ad2] at h2
   exact akY h e h2.1 h2.2 h3
  ·obtain⟨a,e,hwa⟩:=one (by simp_all) (by simp_all)
   exact aGU h e hwa hb1 hb2
  ·obtain⟨a,e,hwa⟩:=one (by simp_all) (by simp_all)
   exact aCt h e hwa (by simp_all) hb1
  ·obtain⟨a,e,hwa⟩:=one (by simp_all) (by simp_all)
   exact at6 h e hwa
  ·obtain⟨a,e,hwa⟩:=one (by simp_all) (by simp_all)
   exact aCv h e hwa
theorem aJE (l:List GS) (hw:nW l=true):BOk l:=c71 l fun x hx=>sok x.size x (Nat.le_refl _) (by rw [wH,ah1] at hw; exact hw x hx)
end
section
open Go Hk
section
variable (x:GP)
@[simp] theorem GP.q8:x.cells.length=6:=rfl
theorem GP.still (m:Nat) (h:kP):nI m h x.cells=some x.cells:=by simp [GP.cells]
theorem Ox {x:GP}{C:List lE}(h:Still C):Still (.cells x.cells::C):=fun m y=>by simp [x.still m y,h m y]
@[simp] theorem GP.g1 {h:1 < x.cells.length}:x.cells[1]'h=.str x.name:=rfl
@[simp] theorem GP.g4 {h:4 < x.cells.length}:x.cells[4]'h=.int .i64 x.ty.label:=rfl
@[simp] theorem GP.g5 {h:5 < x.cells.length}:x.cells[5]'h=.bool x.out:=rfl
@[simp] theorem GP.gty:(x.cells.drop 2).take 3=x.ty.cells:=rfl
theorem GP.Ud:x.cells.all kM.mD=true:=by simp [GP.cells,kM.mD]
theorem apW {h:kP}:l_ true 6 h (.pptr x.cells)=some (.agg x.cells):=by simp [l_]; rfl
end
section
variable (x:GF)
@[simp] theorem GF.q8:x.cells.length=8:=rfl
theorem GF.still (m:Nat) (h:kP):nI m h x.cells=some x.cells:=by simp [GF.cells]
theorem Fl {x:GF}{C:List lE}(h:Still C):Still (.cells x.cells::C):=fun m y=>by simp [x.still m y,h m y]
@[simp] theorem GF.g1 {h:1 < x.cells.length}:x.cells[1]'h=.str x.name:=rfl
@[simp] theorem GF.g2 {h:2 < x.cells.length}:x.cells[2]'h=.slice (x.params.map GP.cells) .no:=rfl
@[simp] theorem GF.g3 {h:3 < x.cells.length}:x.cells[3]'h=.bool x.has:=rfl
@[simp] theorem GF.g6 {h:6 < x.cells.length}:x.cells[6]'h=.int .i64 x.result.label:=rfl
@[simp] theorem GF.g7 {h:7 < x.cells.length}:x.cells[7]'h=.slice (x.body.map GS.cells) .no:=rfl
@[simp] theorem GF.gty:(x.cells.drop 4).take 3=x.result.cells:=rfl
@[simp] theorem GF.XT:x.cells.map kM.uH=x.cells:=rfl
theorem GF.tok {k:Nat}:lD k x.cells=(x.cells,[]):=uO (by simp [GF.cells,kM.isNil])
theorem GF.Ud:x.cells.all kM.mD=true:=by simp [GF.cells,kM.mD]
end
section
variable {w:WS}{B C:List lE}{cs:List kM}
theorem au8 {x:GF}:lK 8 (WH w B) (.agg x.cells)=some (.ptr (B.length+3) 0,WH w (B++[.cells x.cells])):=by
 simp [lK,x.tok,x.Ud,nF,pC]
theorem Rj:lK 6 (WH w B) (.agg [.int .i64 0,.str [],.int .i64 0,.int .i64 0,.int .i64 0,.bool false]) =
  some (.ptr (B.length+3) 0,WH w (B++[.cells [.int .i64 0,.str [],.int .i64 0,.int .i64 0,.int .i64 0,.bool false]])):=by
 simp [lK,lD,nF,pC]
theorem stP {x:GP}(hc:cs.length=6):pU 6 (WH w (B++.cells cs::C)) (.ptr (B.length+3) 0) (.agg x.cells)=some (WH w (B++.cells x.cells::C)):=by
 have e:=WE (w:=w) (B:=B) (C:=C) (cs:=cs)
 have hk:∀os,pV (WH w (B++.cells cs::C)) os x.cells=x.cells:=fun os=>rA (by simp [GP.cells,kM.isNil])
 simp only [pU,BT,e,D1,mY,af4,Fz,GP.q8,hc]
 rw [if_pos ⟨trivial,by omega,x.Ud⟩,hk]
 have:putCells cs 0 x.cells=x.cells:=by simp [putCells,hc]
 rw [this,akI]
end
def AW (l:List GP) (i:Nat):List UInt8:=xC ((l.take i).map qK)
theorem JZ:∀(l:List (List UInt8)) (p:List UInt8),xC (l++[p])=xC l++(if l=[] then [] else [44,32])++p
 | [],p=>by simp [xC]
 | [q],p=>by simp [xC]
 | q::r::l,p=>by
  have:=JZ (r::l) p
  simp only [af2,xC] at this ⊢
  rw [this]
  simp
theorem QI {l:List GP}{i:Nat}{x:GP}(h:l[i]?=some x):AW l (i+1)=AW l i++(if i=0 then [] else [44,32])++qK x:=by
 have hl:i < l.length:=(ab1.1 h).1
 unfold AW
 rw [tL h,List.map_append,aj2,List.map_nil,JZ]
 congr 2
 have:((l.take i).map qK=[])=(i=0):=by
  rw [List.map_eq_nil_iff,List.take_eq_nil_iff]
  apply propext
  constructor
  ·rintro(h | h)
   ·exact h
   ·subst h; simp at hl
  ·exact .inl
 simp only [this]
theorem Vo (a:List (List UInt8)):∀(b:List (List UInt8)),(xC a).length≤(xC (a++b)).length
 | []=>by simp
 | p::b=>by
  have h1:=Vo (a++[p]) b
  rw [af9] at h1
  rw [JZ] at h1
  simp only [ac2,af2,ah4] at h1
  omega
theorem G8:∀(l:List (List UInt8)),l.length≤(xC l).length+1
 | []=>by simp
 | [p]=>by simp
 | p::q::r=>by
  have:=G8 (q::r)
  simp only [xC,ac2,ac8] at this ⊢
  omega
theorem Zz (l:List GP) (i:Nat):(AW l i).length≤(xC (l.map qK)).length:=by
 have:=Vo ((l.take i).map qK) ((l.drop i).map qK)
 rw [←List.map_append,List.take_append_drop] at this
 exact this
theorem tG {n:Int}:(oV n).length=4:=by unfold oV; split <;> rfl
theorem aiH {w:WS}{B:List lE}(l:List GP) (hok:∀x∈l,sK x.ty=true) (p:Nat) (hp:p < B.length+3) (hB:Still B) (W:List UInt8) (hl:l.length≤4611686018427387904)
  (hb:w.bs.length+(W.length+(xC (l.map qK)).length)≤1099511627776):∀i,i≤l.length →
  mI (GO KK (B.length+3)) ([.ptr 1 0,.ptr p 0,.slice (l.map GP.cells) .no,.int .i64 (l.length:Int),.int .i64 (i:Int)],WH (w.st (W++AW l i) 0 0) B) =
   some (.exit 0,[.ptr 1 0,.ptr p 0,.slice (l.map GP.cells) .no,.int .i64 (l.length:Int),.int .i64 (l.length:Int)],WH (w.st (W++xC (l.map qK)) 0 0) B):=by
 refine tN (fun i:Nat=>([.ptr 1 0,.ptr p 0,.slice (l.map GP.cells) .no,.int .i64 (l.length:Int),.int .i64 (i:Int)],WH (w.st (W++AW l i) 0 0) B)) (fun i=>i≤l.length) (fun i=>l.length - i) _ fun i hi=>?_
 have htr:=fun w C=>oD (w:=w) (C:=C) hB
 have q0:∀h o,kM.mO (B.length+3) h (.ptr p o)=.ptr p o:=fun h o=>yR hp
 by_cases h:i < l.length
 ·left
  refine⟨i+1,?_,h,by omega,rfl⟩
  obtain⟨x,hx⟩:∃x,l[i]?=some x:=⟨l[i],ac0 h⟩
  have hxe:=hok x (af1 hx)
  have hxi:∀hh:i < l.length,l[i]'hh=x:=fun hh=>by rw [ac0 hh] at hx; exact Option.some.inj hx
  have t1:=QI hx
  have t3:=Zz l (i+1)
  obtain⟨pre,hpre⟩:∃pre,pre=(if i=0 then [] else [44,32]:List UInt8):=⟨_,rfl⟩
  obtain⟨ot,hot⟩:∃ot,ot=(if x.out then [111,117,116,32] else []:List UInt8):=⟨_,rfl⟩
  have tp:AW l (i+1)=AW l i++(pre++(ot++(oV x.ty.label++(x.name++([58,32]++wK x.ty))))):=by rw [t1,hpre,hot]; simp [qK]
  rw [tp] at t3
  simp only [ac2,ac8,ad0,tG] at t3
  have w1:=rV (a:=i) (by omega)
  have s1:Still [lE.cells x.cells]:=Ox oC
  have s2:Still (B++[.cells x.cells]):=o9 hB s1
  have s3:Still (B++[.cells x.cells,.front 1 1]):=o9 hB (Ox (mM oC))
  have s4:Still (B++[.cells x.cells,.front 2 1]):=o9 hB (Ox (mM oC))
  have htr2:∀w D,l9 (B.length+1+3) (WH w (B++.cells x.cells::D))=some (WH w (B++[.cells x.cells])):=fun w D=>trC (C:=[.cells x.cells]) hB s1 rfl
  have q1:∀h o,kM.mO (B.length+1+3) h (.ptr (B.length+3) o)=.ptr (B.length+3) o:=fun h o=>yR (by omega)
  have q2:∀h o,kM.mO (B.length+1+3) h (.ptr 1 o)=.ptr 1 o:=fun h o=>yR (by omega)
  have q3:∀h o,kM.mO (B.length+1+3) h (.ptr p o)=.ptr p o:=fun h o=>yR (by omega)
  have hst:=fun w C cs (hc:aa0 cs=6)=>stP (w:=w) (B:=B) (C:=C) (x:=x) hc
  have e1:=P1 (w:=w.st (W++AW l i) 0 0) (x:=[44,32]) s3
  have e2:=P1 (w:=w.st (W++(AW l i++pre)) 0 0) (x:=[111,117,116,32]) s3
  have e3:=c69 (w:=w.st (W++(AW l i++(pre++ot))) 0 0) x.ty.label s2 (by simp; omega)
  have e4:=P2 (w:=w.st (W++(AW l i++(pre++(ot++oV x.ty.label)))) 0 0) (x:=x.name) (y:=[58,32]) s4 (by simp [tG]; omega)
  have e5:=c70 (w:=w.st (W++(AW l i++(pre++(ot++(oV x.ty.label++(x.name++[58,32])))))) 0 0) x.ty hxe s4 (by simp [tG]; omega)
  by_cases h0:i=0
  ·have hp:¬0 < i:=by omega
   rw [if_pos h0] at hpre
   subst hpre
   cases ho:x.out with
   | false =>
    rw [ho] at hot
    simp only [Bool.false_eq_true,if_false] at hot
    subst hot
    simp -implicitDefEqProofs at e3 e4 e5
    simp -implicitDefEqProofs [GO,h,hxi,apW,Rj,hst,kS,htr,htr2,nF,vU,Hr,pC,hp,ho,e3,e4,e5,w1,y_,q0,q1,q2,q3,-ag1]
    exact congrArg (fun w=>WH w B) (WS.BD (by rw [tp]; simp) rfl rfl)
   | true =>
    rw [ho] at hot
    simp only [if_true] at hot
    subst hot
    have e2:=e2 (by simp; simp at t3; omega)
    simp -implicitDefEqProofs at e2 e3 e4 e5
    simp -implicitDefEqProofs [GO,h,hxi,apW,Rj,hst,kS,htr,htr2,nF,vU,Hr,pC,hp,ho,e2,e3,e4,e5,w1,y_,q0,q1,q2,q3,-ag1]
    exact congrArg (fun w=>WH w B) (WS.BD (by rw [tp]; simp) rfl rfl)
  ·have hp:0 < i:=by omega
   rw [if_neg h0] at hpre
   subst hpre
   have e1:=e1 (by simp; simp at t3; omega)
   cases ho:x.out with
   | false =>
    rw [ho] at hot
    simp only [Bool.false_eq_true,if_false] at hot
    subst hot
    simp -implicitDefEqProofs at e1 e3 e4 e5
    simp -implicitDefEqProofs [GO,h,hxi,apW,Rj,hst,kS,htr,htr2,nF,vU,Hr,pC,hp,ho,e1,e3,e4,e5,w1,y_,q0,q1,q2,q3,-ag1]
    exact congrArg (fun w=>WH w B) (WS.BD (by rw [tp]; simp) rfl rfl)
   | true =>
    rw [ho] at hot
    simp only [if_true] at hot
    subst hot
    have e2:=e2 (by simp; simp at t3; omega)
    simp -implicitDefEqProofs at e1 e2 e3 e4 e5
    simp -implicitDefEqProofs [GO,h,hxi,apW,Rj,hst,kS,htr,htr2,nF,vU,Hr,pC,hp,ho,e1,e2,e3,e4,e5,w1,y_,q0,q1,q2,q3,-ag1]
    exact congrArg (fun w=>WH w B) (WS.BD (by rw [tp]; simp) rfl rfl)
 ·right
  have:i=l.length:=by omega
  subst this
  constructor
  ·simp -implicitDefEqProofs [GO,kS,tB hB,y_,q0,AW]
  ·simp
theorem c32 {w:WS}{B:List lE}(f:GF) (hw:o0 f=true) (h0:w.ln=0) (hB:Still B) (hb:w.bs.length+(vF f).length≤1099511627776) (hn:w.now+vB f≤1000000000000000) :
  KK 32 [.ptr 1 0,.agg f.cells] (WH w B)=some (.ret (.tuple []),WH (w.st (vF f) (vB f) 0) B):=by
 simp only [o0,ad2,ah1] at hw
 obtain⟨⟨⟨hw1,hw2⟩,hw3⟩,hw4⟩:=hw
 have hpt:∀x∈f.params,sK x.ty=true:=fun x hx=>by
  have:=hw3 x hx
  simp only [uV,ad2] at this
  exact this.2
 obtain⟨res,hres⟩:∃res,res=(if f.has then [58,32]++oV f.result.label++wK f.result else []:List UInt8):=⟨_,rfl⟩
 have tf:vF f=[102,110,32]++(f.name++([40]++(xC (f.params.map qK)++([41]++(res++(oH 0 (oF 1 f.body)++[10])))))):=by
  rw [hres]; simp [vF]
 have nf:vB f=qJ (nX f.body)+1:=rfl
 rw [tf] at hb ⊢
 rw [nf] at hn ⊢
 simp only [ac2,ac8,ad0] at hb
 refine k9 (aAS _ _ _ _) ?_
 have htr:=fun w C=>oD (w:=w) (C:=C) hB
 have s1:Still (B++[.cells f.cells,.front 3 1]):=o9 hB (Fl (mM oC))
 have s2:Still (B++[.cells f.cells,.front 3 1,.front 1 1]):=o9 hB (Fl (mM (mM oC)))
 have s3:Still (B++[.cells f.cells,.front 3 1,.front 1 1,.front 1 1]):=o9 hB (Fl (mM (mM (mM oC))))
 have hl:f.params.length≤4611686018427387904:=by
  have:=G8 (f.params.map qK)
  rw [List.length_map] at this
  omega
 have e1:=P3 (w:=w) (x:=[102,110,32]) (y:=f.name) (z:=[40]) s1 (by simp; omega)
 have e2:=aiH (w:=w) f.params hpt (B.length+3) (by simp) s1 ([102,110,32]++(f.name++[40])) hl (by simp; omega) 0 (ah9 _)
 have p0:AW f.params 0=[]:=rfl
 have e3:=P1 (w:=w.st ([102,110,32]++(f.name++([40]++xC (f.params.map qK)))) 0 0) (x:=[41]) s2 (by simp; omega)
 have hblk:=aJE f.body hw2
 unfold BOk at hblk
 have e7:=hblk (w.st ([102,110,32]++(f.name++([40]++(xC (f.params.map qK)++([41]++res))))) 0 0) _ s2 (by simp [h0]; omega) (by simp; omega)
 have e8:=P1 (w:=w.st ([102,110,32]++(f.name++([40]++(xC (f.params.map qK)++([41]++(res++oH 0 (oF 1 f.body))))))) (qJ (nX f.body)+1) 0) (x:=[10]) s3 (by simp; omega)
 have htr3:∀w D,l9 (B.length+3+3) (WH w (B++.cells f.cells::.front 3 1::.front 1 1::D))=some (WH w (B++[.cells f.cells,.front 3 1,.front 1 1])) :=
  fun w D=>trC (C:=[.cells f.cells,.front 3 1,.front 1 1]) hB (Fl (mM (mM oC))) rfl
 have q1:∀h o,kM.mO (B.length+3+3) h (.ptr (B.length+3) o)=.ptr (B.length+3) o:=fun h o=>yR (by omega)
 have q2:∀h o,kM.mO (B.length+3+3) h (.ptr 1 o)=.ptr 1 o:=fun h o=>yR (by omega)
 cases hh:f.has with
 | false =>
  rw [hh] at hres
  simp only [Bool.false_eq_true,if_false] at hres
  subst hres
  simp -implicitDefEqProofs [p0,h0] at e1 e2 e3 e7 e8
  simp -implicitDefEqProofs [m32,au8,nF,vU,Cg,pC,hh,e1,e2,e3,e7,e8,kS,htr,htr3,q1,q2,lY]
 | true =>
  rw [hh] at hres hw4
  simp only [if_true,ad2] at hres hw4
  subst hres
  simp only [ac2,ac8,ad0,tG] at hb
  have s4:Still (B++[.cells f.cells,.front 3 1,.front 1 1,.front 1 1]):=s3
  have e4:=P1 (w:=w.st ([102,110,32]++(f.name++([40]++(xC (f.params.map qK)++[41])))) 0 0) (x:=[58,32]) s4 (by simp; omega)
  have e5:=c69 (w:=w.st ([102,110,32]++(f.name++([40]++(xC (f.params.map qK)++([41]++[58,32]))))) 0 0) f.result.label s4 (by simp; omega)
  have e6:=c70 (w:=w.st ([102,110,32]++(f.name++([40]++(xC (f.params.map qK)++([41]++([58,32]++oV f.result.label)))))) 0 0) f.result hw4.1.1 s4 (by simp [tG]; omega)
  simp -implicitDefEqProofs [p0,h0] at e1 e2 e3 e4 e5 e6 e7 e8
  simp -implicitDefEqProofs [m32,au8,nF,vU,Cg,pC,hh,e1,e2,e3,e4,e5,e6,e7,e8,kS,htr,htr3,q1,q2,lY]
end
section
open Go Hk
theorem N_:∀(bs:List UInt8),Ax (tX bs)=some bs
 | []=>rfl
 | b::r=>by
  have h1:=N_ r
  have hb:(0:Int)≤(b.toNat:Int)∧(b.toNat:Int) < 256:=⟨by omega,by have:=b.toNat_lt; omega⟩
  have h2:tX (b::r)=[kM.int .u8 (b.toNat:Int)]::tX r:=rfl
  rw [h2]
  unfold Ax
  rw [if_pos hb,h1]
  simp
theorem afV {e fid:Nat}{h:kP}{rows:List (List kM)}:afU e h (.slice rows (.own fid))=(match h[fid]? with
  | some (.front n sz t)=>bif rows.length == n then(match n with
   | 0=>bif sz == 0 then some (.ret (.str []),h) else none
   | _+1=>bif sz == 1 && t == e+1 then(match Ax rows with
    | some bs=>some (.ret (.str bs),h.set fid .gone)
    | none=>none) else none) else none
  | _=>none):=by cases rows <;> rfl
def WHg (w:WS) (B:List lE):kP:=match w.bs with
 | []=>WH w B
 | _::_=>.cells w.a::.tcells 86 (Dq w w.bs)::.gone::B
theorem c72 {w:WS}{B:List lE}:KK 72 [.ptr 1 0] (WH w B)=some (.ret (.str w.bs),WHg w B):=by
 refine k9 (m:=Ew mJ.bld (.bldString 5) [.ptr 1 0] (WH w B)) rfl ?_
 obtain⟨a,ok,u,bs,now,ov,ln⟩:=w
 have h0:Ew mJ.bld (.bldString 5) [.ptr 1 0] (WH ⟨a,ok,u,bs,now,ov,ln⟩ B)=afU 5 (WH ⟨a,ok,u,bs,now,ov,ln⟩ B) (.slice (tX bs) (.own 2)):=rfl
 rw [h0]
 cases bs with
 | nil=>rfl
 | cons b r =>
  have h1:(tX (b::r)).length=r.length+1:=by rw [AZ]; rfl
  have h3:(WH ⟨a,ok,u,b::r,now,ov,ln⟩ B)[2]?=some (.front (r.length+1) 1 6):=rfl
  rw [afV,h3]
  simp [h1,N_,WHg,WH,Mk]
theorem aaK {w:WS}{B:List lE}(h:Still B):l9 (B.length+3) (WHg w B)=some (WHg w B):=by
 unfold WHg
 split
 ·exact tB h
 ·rename_i b r hbs
  have h0:=PU (w:=w) (cs:=w.bs) (fs:=w.bs) h (m:=B.length+3) (x:=.cells w.a::.tcells 86 (Dq w w.bs)::.gone::B) (by omega)
  simp only [Mk,oM,Option.bind_eq_some_iff,Option.map_eq_some_iff] at h0
  obtain⟨b1,e1,r1,⟨b2,e2,r2,⟨b3,e3,r3,e4,e5⟩,e6⟩,e7⟩:=h0
  cases e5; cases e6; cases e7
  have hg:∀m x,pF m x .gone=some .gone:=fun _ _=>rfl
  have ht:(lE.cells w.a::.tcells 86 (Dq w w.bs)::.gone::B).take (B.length+3)=.cells w.a::.tcells 86 (Dq w w.bs)::.gone::B:=by simp
  simp only [l9,ht,oM,e1,e2,hg,e4,af4,Option.map_some]
theorem c33 {w:WS}{B:List lE}(hB:Still B):∃H,KK 33 [.ptr 1 0] (WH w B)=some (.ret (.tuple [.str (if w.over then [] else w.bs),.int .i64 (if w.over then 11 else 0)]),H):=by
 cases ho:w.over with
 | true =>
  refine⟨WH w B,k9 (aiI _ _ _) ?_⟩
  simp -implicitDefEqProofs [m33,ho,lY,nF,tB hB]
 | false =>
  refine⟨WHg w B,k9 (aiI _ _ _) ?_⟩
  simp -implicitDefEqProofs [m33,ho,c72,lY,nF,aaK hB]
def WS.new (a:List kM) (ok:∀m h,nI m h a=some a):WS:=⟨a,ok,false,[],0,false,0⟩
def w0:kM:=.agg [.nilptr,.slice [] .nil,.int .i64 0,.bool false,.int .i64 0]
theorem asN:lS [.nilptr,.slice [] .nil,.int .i64 0,.bool false,.int .i64 0] [(0,2),(2,2),(4,1)] []=some w0:=rfl
theorem asO (a:List kM) (ok:∀m h,nI m h a=some a):Kk 86 5 [.cells a] w0=some (.ptr 1 0,WH (WS.new a ok) []):=rfl
@[simp] theorem aKD (a:List kM) (ok:∀m h,nI m h a=some a):(WS.new a ok).bs=[]:=rfl
@[simp] theorem aIb (a:List kM) (ok:∀m h,nI m h a=some a):(WS.new a ok).now=0:=rfl
@[simp] theorem aKE (a:List kM) (ok:∀m h,nI m h a=some a):(WS.new a ok).ln=0:=rfl
theorem UZ (a:List kM) (ok:∀m h,nI m h a=some a) (x:List UInt8) (n k:Nat):((WS.new a ok).st x n k).over=decide (64 < n):=by
 simp only [WS.st,WS.new,Bool.false_or,al6]
 exact decide_eq_decide.2 (by omega)
end
section
open Go Hk
theorem c65 (s:List UInt8) (h:kP):KK 65 [.str s] h=some (.ret (.bool (qR s)),h):=by
 refine lA rfl rfl (k9 (aBa _ _ _) ?_)
 have hc:=c49 s
 obtain⟨⟨l,e,p⟩,hr⟩:∃r,oI s=r:=⟨_,rfl⟩
 rw [hr] at hc
 by_cases he:e=0
 ·subst he
  match l with
  | []=>simp -implicitDefEqProofs [m65,hc,lK,lD,putCells,kN,qR,hr]
  | [t]=>simp -implicitDefEqProofs [m65,hc,lK,lD,putCells,kN,qR,hr]
  | [t,u] =>
   have i0:kX 4 (.slice [t.cells,u.cells] .no) (.int .i64 0)=some (.pptr t.cells):=by rw [nZ]; simp; rfl
   have tl:t.cells.length=4:=rfl
   have g0:∀h:0 < t.cells.length,t.cells[0]'h=.int .i64 (t.kind:Int):=fun _=>rfl
   have g3:∀h:3 < t.cells.length,t.cells[3]'h=.str t.text:=fun _=>rfl
   have hk:((t.kind:Int)=1)↔t.kind=1:=by omega
   by_cases h1:t.kind=1
   ·by_cases h2:t.text=s
    ·simp -implicitDefEqProofs [m65,hc,lK,lD,putCells,kN,qR,hr,i0,tl,g0,g3,h1,h2]
    ·simp -implicitDefEqProofs [m65,hc,lK,lD,putCells,kN,qR,hr,i0,tl,g0,g3,h1,h2]
   ·simp -implicitDefEqProofs [m65,hc,lK,lD,putCells,kN,qR,hr,i0,tl,g0,g3,hk,h1]
  | t::u::v::r =>
   have:¬((r.length:Int)+1+1+1=2):=by omega
   simp -implicitDefEqProofs [m65,hc,lK,lD,putCells,kN,qR,hr,this]
 ·have he':¬((e:Int)=0):=by omega
  have hf:qR s=false:=by
   unfold qR
   rw [hr]
   split
   ·rename_i h; simp only [Prod.mk.injEq] at h; omega
   ·rfl
  rw [hf]
  simp -implicitDefEqProofs [m65,hc,lK,lD,putCells,kN,he]
theorem c79 (s:List UInt8) (b:Bool) (h:kP):KK 79 [.str s,.bool b] h=some (.ret (.bool (lI s b)),h):=by
 refine lA rfl rfl (k9 (aBo _ _ _ _) ?_)
 cases b
 ·simp -implicitDefEqProofs [m79,lI,kN]
  by_cases hs:s=[] <;> simp [hs]
 ·simp -implicitDefEqProofs [m79,lI,kN,c65]
theorem c80 (n:Int) (b:Bool) (h:kP):KK 80 [.int .i64 n,.bool b] h=some (.ret (.bool (k_ n b)),h):=by
 refine lA rfl rfl (k9 (aBp _ _ _ _) ?_)
 by_cases h0:n=0
 ·subst h0; cases b <;> simp -implicitDefEqProofs [m80,k_,zF,kN]
 ·cases b
  ·simp -implicitDefEqProofs [m80,k_,kN,h0]
  ·by_cases h1:0 < n
   ·by_cases h2:n≤4294967295
    ·have h3:0≤n:=by omega
     simp -implicitDefEqProofs [m80,k_,zF,kN,h0,h1,h2,h3]
    ·simp -implicitDefEqProofs [m80,k_,zF,kN,h0,h1,h2]
   ·have h3:¬0≤n:=by omega
    simp -implicitDefEqProofs [m80,k_,zF,kN,h0,h1,h3]
theorem c78 (k:Int) (h:kP):KK 78 [.int .i64 k] h=some (.ret (.tuple [.int .i64 ((tT k).getD 0),.bool (tT k).isSome]),h):=by
 refine lA rfl rfl (k9 (aBn _ _ _) ?_)
 by_cases hk:1≤k∧k≤26
 ·rcases Ah hk with rfl | rfl | rfl | rfl | rfl | rfl | rfl | rfl | rfl | rfl | rfl | rfl | rfl | rfl | rfl | rfl | rfl | rfl | rfl | rfl | rfl | rfl | rfl | rfl | rfl | rfl <;>
   simp -implicitDefEqProofs [m78,kN,tT]
 ·have h0:tT k=none:=by unfold tT; rw [if_pos (by omega)]
  rw [h0]
  have n1:¬k=1:=by omega
  have n2:¬k=2:=by omega
  have n3:¬k=3:=by omega
  have n4:¬k=4:=by omega
  have n5:¬k=25:=by omega
  have n6:¬k=26:=by omega
  by_cases hl:k < 1
  ·have l1:¬5≤k:=by omega
   have l2:¬14≤k:=by omega
   have l3:¬8≤k:=by omega
   have l4:¬17≤k:=by omega
   simp -implicitDefEqProofs [m78,kN,n1,n2,n3,n4,n5,n6,l1,l2,l3,l4]
  ·have l1:5≤k:=by omega
   have l2:14≤k:=by omega
   have l3:8≤k:=by omega
   have l4:17≤k:=by omega
   have l5:¬k≤7:=by omega
   have l6:¬k≤16:=by omega
   have l7:¬k≤13:=by omega
   have l8:¬k≤24:=by omega
   simp -implicitDefEqProofs [m78,kN,n1,n2,n3,n4,n5,n6,l1,l2,l3,l4,l5,l6,l7,l8]
theorem GE.shut (x:GE):([kM.agg x.cells].all (kM.nP 0))=true:=by cases x; simp [GE.cells,kM.nP,kM.pE,qA]
theorem lX {x:GE}{h:kP}:lK 5 h (.agg x.cells)=some (.ptr h.length 0,h++[.cells x.cells]):=by
 simp [lK,x.tok,x.Ud]
def V6 (x:GE):Prop:=∀h,KK 36 [.agg x.cells] h=some (.ret (.bool (nU x)),h)
theorem Ar {α:Type}{F:List kM×kP→Option R}(l:List α) (p:α→Bool) (enc:Nat→List kM×kP) (bad:Nat→R) (fin:R)
  (hok:∀i x,l[i]?=some x→p x=true→F (enc i)=some (.normal,enc (i+1))) (hbad:∀i x,l[i]?=some x→p x=false→F (enc i)=some (bad i)) (hb:∀i,(bad i).1≠.normal)
  (hend:F (enc l.length)=some fin) (hf:fin.1≠.normal):(l.all p=true→mI F (enc 0)=some fin)∧(l.all p=false→∃i,mI F (enc 0)=some (bad i)):=by
 have stop:∀(s:List kM×kP) (r:R),F s=some r→r.1≠.normal→mI F s=some r:=by
  intro s r h1 h2
  rw [lZ,h1]
  obtain⟨e,v⟩:=r
  cases e <;> first | exact absurd rfl h2 | rfl
 have key:∀n i,l.length - i=n→i≤l.length→((l.drop i).all p=true→mI F (enc i)=some fin)∧((l.drop i).all p=false→∃j,mI F (enc i)=some (bad j)):=by
  intro n
  induction n with
  | zero =>
   intro i h1 h2
   have:i=l.length:=by omega
   subst this
   refine⟨fun _=>stop _ _ hend hf,fun h=>by simp at h⟩
  | succ n ih =>
   intro i h1 h2
   have hi:i < l.length:=by omega
   have hg:=ac0 hi
   have hd:l.drop i=l[i]::l.drop (i+1):=List.drop_eq_getElem_cons hi
   obtain⟨a,b⟩:=ih (i+1) (by omega) (by omega)
   rw [hd]
   simp only [List.all_cons,ad2,Bool.and_eq_false_iff]
   cases hp:p l[i] with
   | true =>
    have e:=hok i _ hg hp
    have e2:mI F (enc i)=mI F (enc (i+1)):=by rw [lZ,e]; rfl
    rw [e2]
    exact⟨fun h=>a h.2,fun h=>b (h.resolve_left (by simp))⟩
   | false =>
    refine⟨fun h=>by simp at h,fun _=>⟨i,stop _ _ (hbad i _ hg hp) (hb i)⟩⟩
 have:=key l.length 0 (by omega) (ah9 _)
 simpa using this
theorem afM {h:kP}:lK 5 h (.agg [.int .i64 0,.int .i64 0,.int .i64 0,.str [],.slice [] .nil]) =
  some (.ptr h.length 0,h++[.cells [.int .i64 0,.int .i64 0,.int .i64 0,.str [],.slice [] (.own (h.length+1))],.front 0 0]):=by
 simp [lK,lD]
theorem YM {x:GE}{h:kP}{os:List kM}:pV h os x.cells=x.cells:=rA (by cases x; simp [GE.cells,kM.isNil])
theorem Uo {l:List GE}{i:Nat}{x:GE}(h:l[i]?=some x):∀hh:i < l.length,l[i]'hh=x:=fun hh=>by rw [ac0 hh] at h; exact Option.some.inj h
theorem aF2 {x:GE}{cs:List kM}(h:cs.length=5):putCells cs 0 x.cells=x.cells:=by simp [putCells,h]
theorem ag0 {x:GE}:(∀c,c∈x.cells→c.mD=true)=True:=eq_true (by have:=x.Ud; rwa [ah1] at this)
theorem aiZ (l:List GE) (hok:∀x∈l,V6 x) (hl:l.length≤4611686018427387904) :
  (l.all nU=true→mI (GW KK 0) ([.bool false,.slice (l.map GE.cells) .no,.int .i64 (l.length:Int),.int .i64 0],[]) =
   some (.exit 0,[.bool false,.slice (l.map GE.cells) .no,.int .i64 (l.length:Int),.int .i64 (l.length:Int)],[])) ∧
  (l.all nU=false→∃i:Nat,mI (GW KK 0) ([.bool false,.slice (l.map GE.cells) .no,.int .i64 (l.length:Int),.int .i64 0],[]) =
   some (.ret,[.bool false,.slice (l.map GE.cells) .no,.int .i64 (l.length:Int),.int .i64 (i:Int)],[])):=by
 have main:=Ar (F:=GW KK 0) l nU (fun i=>([.bool false,.slice (l.map GE.cells) .no,.int .i64 (l.length:Int),.int .i64 (i:Int)],[]))
  (fun i=>(.ret,[.bool false,.slice (l.map GE.cells) .no,.int .i64 (l.length:Int),.int .i64 (i:Int)],[])) (.exit 0,[.bool false,.slice (l.map GE.cells) .no,.int .i64 (l.length:Int),.int .i64 (l.length:Int)],[]) ?_ ?_ (fun _=>by simp) ?_ (by simp)
 ·exact main
 ·intro i x hx hw
  have h:i < l.length:=(ab1.1 hx).1
  have w1:=rV (a:=i) (by omega)
  have hc:=hok x (af1 hx)
  unfold V6 at hc
  simp -implicitDefEqProofs [GW,h,Uo hx,afM,YM,aF2,ag0,hc,hw,w1,nS,-ag1]
 ·intro i x hx hw
  have h:i < l.length:=(ab1.1 hx).1
  have hc:=hok x (af1 hx)
  unfold V6 at hc
  simp -implicitDefEqProofs [GW,h,Uo hx,afM,YM,aF2,ag0,hc,hw,nS]
 ·simp -implicitDefEqProofs [GW,nS]
theorem c81 (l:List GE) (hok:∀x∈l,V6 x) (hl:l.length≤4611686018427387904) (h:kP):KK 81 [.slice (l.map GE.cells) .no] h=some (.ret (.bool (nH l)),h):=by
 refine lA rfl (by simp [kM.nP,kM.pE,qA]) (k9 (aBq _ _ _) ?_)
 obtain⟨h1,h2⟩:=aiZ l hok hl
 rw [wG]
 cases hw:l.all nU with
 | true=>simp -implicitDefEqProofs [m81,h1 hw,kN]
 | false =>
  obtain⟨i,hi⟩:=h2 hw
  simp -implicitDefEqProofs [m81,hi,kN]
set_option maxHeartbeats 4000000 in
theorem af0 (x:GE) (hok:∀a∈x.args,V6 a) (hl:x.args.length≤4611686018427387904):V6 x:=by
 intro h
 refine lA rfl x.shut (k9 (aAV _ _ _) ?_)
 have e1:=c78 x.kind
 have e2:=c79 x.name
 have e3:=c80 x.num
 have e4:=c81 x.args hok hl
 have hw:nU x=(rL x.kind x.num x.name x.args.length && nH x.args):=by cases x; rfl
 rw [hw]
 unfold rL
 cases ha:tT x.kind with
 | none =>
  rw [ha] at e1
  simp -implicitDefEqProofs [CL,lX,e1,kN]
 | some m =>
  rw [ha] at e1
  have hk:1≤x.kind∧x.kind≤26:=by
   unfold tT at ha
   split at ha
   ·cases ha
   ·omega
  have hm:m=-1∧x.kind=4∨0≤m∧¬x.kind=4:=by
   clear e1 e2 e3 e4 hw
   generalize x.kind=k at ha hk
   rcases Ah hk with rfl | rfl | rfl | rfl | rfl | rfl | rfl | rfl | rfl | rfl | rfl | rfl | rfl | rfl | rfl | rfl | rfl | rfl | rfl | rfl | rfl | rfl | rfl | rfl | rfl | rfl <;>
    simp [tT] at ha <;> omega
  simp only [Option.getD_some,Option.isSome_some] at e1
  show _=some (vG.ret (kM.bool (((m == -1 || m == (x.args.length:Int)) && lI x.name (x.kind == 2 || x.kind == 3 || x.kind == 4) && k_ x.num (x.kind == 1 || x.kind == 14 || x.kind == 15 || x.kind == 16)) && nH x.args)),[])
  by_cases har:(m == -1 || m == (x.args.length:Int))=true
  ·rw [har,Bool.true_and]
   have hc:¬0≤m∨(0≤m∧((x.args.length:Int)=m)):=by
    simp only [Bool.or_eq_true,beq_iff_eq] at har
    omega
   have cls:x.kind=1∨x.kind=2∨x.kind=3∨x.kind=4∨(14≤x.kind∧x.kind≤16)∨(5≤x.kind∧x.kind < 14)∨(17≤x.kind):=by omega
   rcases cls with h' | h' | h' | h' | h' | h' | h'
   ·rw [h'] at e1
    have f1:(x.kind == 2 || x.kind == 3 || x.kind == 4)=false:=by simp [h']
    have f2:(x.kind == 1 || x.kind == 14 || x.kind == 15 || x.kind == 16)=true:=by simp [h']
    rw [f1,f2]
    cases hN:lI x.name false
    ·rcases hc with hc | ⟨hc,hc'⟩
     ·simp -implicitDefEqProofs [CL,lX,e1,e2,e3,e4,hc,hN,h',kN]
     ·simp -implicitDefEqProofs [CL,lX,e1,e2,e3,e4,hc,hc',hN,h',kN]
    ·cases hU:k_ x.num true
     ·rcases hc with hc | ⟨hc,hc'⟩
      ·simp -implicitDefEqProofs [CL,lX,e1,e2,e3,e4,hc,hN,hU,h',kN]
      ·simp -implicitDefEqProofs [CL,lX,e1,e2,e3,e4,hc,hc',hN,hU,h',kN]
     ·rcases hc with hc | ⟨hc,hc'⟩
      ·simp -implicitDefEqProofs [CL,lX,e1,e2,e3,e4,hc,hN,hU,h',kN]
      ·simp -implicitDefEqProofs [CL,lX,e1,e2,e3,e4,hc,hc',hN,hU,h',kN]
   ·rw [h'] at e1
    have f1:(x.kind == 2 || x.kind == 3 || x.kind == 4)=true:=by simp [h']
    have f2:(x.kind == 1 || x.kind == 14 || x.kind == 15 || x.kind == 16)=false:=by simp [h']
    rw [f1,f2]
    cases hN:lI x.name true
    ·rcases hc with hc | ⟨hc,hc'⟩
     ·simp -implicitDefEqProofs [CL,lX,e1,e2,e3,e4,hc,hN,h',kN]
     ·simp -implicitDefEqProofs [CL,lX,e1,e2,e3,e4,hc,hc',hN,h',kN]
    ·cases hU:k_ x.num false
     ·rcases hc with hc | ⟨hc,hc'⟩
      ·simp -implicitDefEqProofs [CL,lX,e1,e2,e3,e4,hc,hN,hU,h',kN]
      ·simp -implicitDefEqProofs [CL,lX,e1,e2,e3,e4,hc,hc',hN,hU,h',kN]
     ·rcases hc with hc | ⟨hc,hc'⟩
      ·simp -implicitDefEqProofs [CL,lX,e1,e2,e3,e4,hc,hN,hU,h',kN]
      ·simp -implicitDefEqProofs [CL,lX,e1,e2,e3,e4,hc,hc',hN,hU,h',kN]
   ·rw [h'] at e1
    have f1:(x.kind == 2 || x.kind == 3 || x.kind == 4)=true:=by simp [h']
    have f2:(x.kind == 1 || x.kind == 14 || x.kind == 15 || x.kind == 16)=false:=by simp [h']
    rw [f1,f2]
    cases hN:lI x.name true
    ·rcases hc with hc | ⟨hc,hc'⟩
     ·simp -implicitDefEqProofs [CL,lX,e1,e2,e3,e4,hc,hN,h',kN]
     ·simp -implicitDefEqProofs [CL,lX,e1,e2,e3,e4,hc,hc',hN,h',kN]
    ·cases hU:k_ x.num false
     ·rcases hc with hc | ⟨hc,hc'⟩
      ·simp -implicitDefEqProofs [CL,lX,e1,e2,e3,e4,hc,hN,hU,h',kN]
      ·simp -implicitDefEqProofs [CL,lX,e1,e2,e3,e4,hc,hc',hN,hU,h',kN]
     ·rcases hc with hc | ⟨hc,hc'⟩
      ·simp -implicitDefEqProofs [CL,lX,e1,e2,e3,e4,hc,hN,hU,h',kN]
      ·simp -implicitDefEqProofs [CL,lX,e1,e2,e3,e4,hc,hc',hN,hU,h',kN]
   ·rw [h'] at e1
    have f1:(x.kind == 2 || x.kind == 3 || x.kind == 4)=true:=by simp [h']
    have f2:(x.kind == 1 || x.kind == 14 || x.kind == 15 || x.kind == 16)=false:=by simp [h']
    rw [f1,f2]
    cases hN:lI x.name true
    ·rcases hc with hc | ⟨hc,hc'⟩
     ·simp -implicitDefEqProofs [CL,lX,e1,e2,e3,e4,hc,hN,h',kN]
     ·simp -implicitDefEqProofs [CL,lX,e1,e2,e3,e4,hc,hc',hN,h',kN]
    ·cases hU:k_ x.num false
     ·rcases hc with hc | ⟨hc,hc'⟩
      ·simp -implicitDefEqProofs [CL,lX,e1,e2,e3,e4,hc,hN,hU,h',kN]
      ·simp -implicitDefEqProofs [CL,lX,e1,e2,e3,e4,hc,hc',hN,hU,h',kN]
     ·rcases hc with hc | ⟨hc,hc'⟩
      ·simp -implicitDefEqProofs [CL,lX,e1,e2,e3,e4,hc,hN,hU,h',kN]
      ·simp -implicitDefEqProofs [CL,lX,e1,e2,e3,e4,hc,hc',hN,hU,h',kN]
   ·have n1:¬x.kind=1:=by omega
    have n2:¬x.kind=2:=by omega
    have n3:¬x.kind=3:=by omega
    have n4:¬x.kind=4:=by omega
    obtain⟨g1,g2⟩:=h'
    have n5:x.kind=14∨x.kind=15∨x.kind=16:=by omega
    have f1:(x.kind == 2 || x.kind == 3 || x.kind == 4)=false:=by simp; omega
    have f2:(x.kind == 1 || x.kind == 14 || x.kind == 15 || x.kind == 16)=true:=by simp; omega
    rw [f1,f2]
    cases hN:lI x.name false
    ·rcases hc with hc | ⟨hc,hc'⟩
     ·simp -implicitDefEqProofs [CL,lX,e1,e2,e3,e4,hc,hN,n1,n2,n3,n4,g1,g2,kN]
     ·simp -implicitDefEqProofs [CL,lX,e1,e2,e3,e4,hc,hc',hN,n1,n2,n3,n4,g1,g2,kN]
    ·cases hU:k_ x.num true
     ·rcases hc with hc | ⟨hc,hc'⟩
      ·simp -implicitDefEqProofs [CL,lX,e1,e2,e3,e4,hc,hN,hU,n1,n2,n3,n4,g1,g2,kN]
      ·simp -implicitDefEqProofs [CL,lX,e1,e2,e3,e4,hc,hc',hN,hU,n1,n2,n3,n4,g1,g2,kN]
     ·rcases hc with hc | ⟨hc,hc'⟩
      ·simp -implicitDefEqProofs [CL,lX,e1,e2,e3,e4,hc,hN,hU,n1,n2,n3,n4,g1,g2,kN]
      ·simp -implicitDefEqProofs [CL,lX,e1,e2,e3,e4,hc,hc',hN,hU,n1,n2,n3,n4,g1,g2,kN]
   ·have n1:¬x.kind=1:=by omega
    have n2:¬x.kind=2:=by omega
    have n3:¬x.kind=3:=by omega
    have n4:¬x.kind=4:=by omega
    have g1:¬14≤x.kind:=by omega
    have f1:(x.kind == 2 || x.kind == 3 || x.kind == 4)=false:=by simp; omega
    have f2:(x.kind == 1 || x.kind == 14 || x.kind == 15 || x.kind == 16)=false:=by simp; omega
    rw [f1,f2]
    cases hN:lI x.name false
    ·rcases hc with hc | ⟨hc,hc'⟩
     ·simp -implicitDefEqProofs [CL,lX,e1,e2,e3,e4,hc,hN,n1,n2,n3,n4,g1,kN]
     ·simp -implicitDefEqProofs [CL,lX,e1,e2,e3,e4,hc,hc',hN,n1,n2,n3,n4,g1,kN]
    ·cases hU:k_ x.num false
     ·rcases hc with hc | ⟨hc,hc'⟩
      ·simp -implicitDefEqProofs [CL,lX,e1,e2,e3,e4,hc,hN,hU,n1,n2,n3,n4,g1,kN]
      ·simp -implicitDefEqProofs [CL,lX,e1,e2,e3,e4,hc,hc',hN,hU,n1,n2,n3,n4,g1,kN]
     ·rcases hc with hc | ⟨hc,hc'⟩
      ·simp -implicitDefEqProofs [CL,lX,e1,e2,e3,e4,hc,hN,hU,n1,n2,n3,n4,g1,kN]
      ·simp -implicitDefEqProofs [CL,lX,e1,e2,e3,e4,hc,hc',hN,hU,n1,n2,n3,n4,g1,kN]
   ·have n1:¬x.kind=1:=by omega
    have n2:¬x.kind=2:=by omega
    have n3:¬x.kind=3:=by omega
    have n4:¬x.kind=4:=by omega
    have g1:14≤x.kind:=by omega
    have g2:¬x.kind≤16:=by omega
    have f1:(x.kind == 2 || x.kind == 3 || x.kind == 4)=false:=by simp; omega
    have f2:(x.kind == 1 || x.kind == 14 || x.kind == 15 || x.kind == 16)=false:=by simp; omega
    rw [f1,f2]
    cases hN:lI x.name false
    ·rcases hc with hc | ⟨hc,hc'⟩
     ·simp -implicitDefEqProofs [CL,lX,e1,e2,e3,e4,hc,hN,n1,n2,n3,n4,g1,g2,kN]
     ·simp -implicitDefEqProofs [CL,lX,e1,e2,e3,e4,hc,hc',hN,n1,n2,n3,n4,g1,g2,kN]
    ·cases hU:k_ x.num false
     ·rcases hc with hc | ⟨hc,hc'⟩
      ·simp -implicitDefEqProofs [CL,lX,e1,e2,e3,e4,hc,hN,hU,n1,n2,n3,n4,g1,g2,kN]
      ·simp -implicitDefEqProofs [CL,lX,e1,e2,e3,e4,hc,hc',hN,hU,n1,n2,n3,n4,g1,g2,kN]
     ·rcases hc with hc | ⟨hc,hc'⟩
      ·simp -implicitDefEqProofs [CL,lX,e1,e2,e3,e4,hc,hN,hU,n1,n2,n3,n4,g1,g2,kN]
      ·simp -implicitDefEqProofs [CL,lX,e1,e2,e3,e4,hc,hc',hN,hU,n1,n2,n3,n4,g1,g2,kN]
  ·have hf:(m == -1 || m == (x.args.length:Int))=false:=by simpa using har
   rw [hf]
   simp only [Bool.or_eq_false_iff,beq_eq_false_iff_ne] at hf
   have h0:0≤m:=by omega
   have h1:¬(x.args.length:Int)=m:=fun e=>hf.2 e.symm
   simp -implicitDefEqProofs [CL,lX,e1,kN,h0,h1]
end
section
open Go Hk
theorem c36:∀(n:Nat) (x:GE),x.size≤n→n≤4611686018427387904→V6 x:=by
 intro n
 induction n with
 | zero=>intro x hn; cases x; simp [GE.size] at hn
 | succ n ih =>
  intro x hn hb
  have key:∀l:List GE,l.length≤GE.nJ l:=by
   intro l
   induction l with
   | nil=>simp
   | cons y r ih=>cases y; simp only [GE.nJ,GE.size,ac8]; omega
  refine af0 x (fun a ha=>?_) ?_
  ·cases x
   simp only [GE.size,GE.args] at hn ha
   have:=GE.oO ha
   exact ih a (by omega) (by omega)
  ·cases x
   simp only [GE.size,GE.args] at hn ⊢
   have:=key (by assumption:List GE)
   omega
theorem J1 (l:List GE):l.length≤GE.nJ l:=by
 induction l with
 | nil=>simp
 | cons y r ih=>cases y; simp only [GE.nJ,GE.size,ac8]; omega
theorem T8 (l:List GE) (hs:GE.nJ l≤4611686018427387904) (h:kP):KK 81 [.slice (l.map GE.cells) .no] h=some (.ret (.bool (nH l)),h) :=
 c81 l (fun x hx=>c36 _ x (GE.oO hx) hs) (by have:=J1 l; omega) h
theorem tZ {t:GT}{h:kP}:lK 3 h (.agg t.cells)=some (.ptr h.length 0,h++[.cells t.cells]):=by
 simp [lK,GT.cells,lD]
theorem GT.shut (t:GT):([kM.agg t.cells].all (kM.nP 0))=true:=by simp [GT.cells,kM.nP,kM.pE,qA]
theorem c67 (t:GT) (h:kP):KK 67 [.agg t.cells] h=some (.ret (.bool (sK t)),h):=by
 refine lA rfl t.shut (k9 (aBc _ _ _) ?_)
 have e1:=c80 t.len true
 have g0:∀h:0 < t.cells.length,t.cells[0]'h=.int .i64 t.elem:=fun _=>rfl
 have g1:∀h:1 < t.cells.length,t.cells[1]'h=.int .i64 t.len:=fun _=>rfl
 have g2:∀h:2 < t.cells.length,t.cells[2]'h=.int .i64 t.label:=fun _=>rfl
 have gl:t.cells.length=3:=rfl
 have hn:k_ t.len true=zF t.len:=rfl
 rw [hn] at e1
 have hl:t.label=0∨t.label=1∨(¬t.label=0∧¬t.label=1):=by omega
 unfold sK
 rcases hl with h1 | h1 | ⟨h1,h2⟩
 ·cases hN:zF t.len
  ·simp -implicitDefEqProofs [m67,tZ,e1,g0,g1,g2,gl,h1,hN,kN]
  ·have hp:=(vD.1 hN).1
   by_cases e1':t.elem=1
   ·simp -implicitDefEqProofs [m67,tZ,e1,g0,g1,g2,gl,h1,hN,e1',kN]
    by_cases h0:t.len=0 <;> simp [h0]
   ·by_cases e0:t.elem=0
    ·simp -implicitDefEqProofs [m67,tZ,e1,g0,g1,g2,gl,h1,hN,e0,kN]
    ·by_cases e2:t.elem=2
     ·have:(0 < t.len)↔¬t.len=0:=by omega
      simp -implicitDefEqProofs [m67,tZ,e1,g0,g1,g2,gl,h1,hN,e2,this,kN]
      by_cases h0:t.len=0 <;> simp [h0]
     ·simp -implicitDefEqProofs [m67,tZ,e1,g0,g1,g2,gl,h1,hN,e0,e1',e2,kN]
 ·cases hN:zF t.len
  ·simp -implicitDefEqProofs [m67,tZ,e1,g0,g1,g2,gl,h1,hN,kN]
  ·have hp:=(vD.1 hN).1
   by_cases e1':t.elem=1
   ·simp -implicitDefEqProofs [m67,tZ,e1,g0,g1,g2,gl,h1,hN,e1',kN]
    by_cases h0:t.len=0 <;> simp [h0]
   ·by_cases e0:t.elem=0
    ·simp -implicitDefEqProofs [m67,tZ,e1,g0,g1,g2,gl,h1,hN,e0,kN]
    ·by_cases e2:t.elem=2
     ·have:(0 < t.len)↔¬t.len=0:=by omega
      simp -implicitDefEqProofs [m67,tZ,e1,g0,g1,g2,gl,h1,hN,e2,this,kN]
      by_cases h0:t.len=0 <;> simp [h0]
     ·simp -implicitDefEqProofs [m67,tZ,e1,g0,g1,g2,gl,h1,hN,e0,e1',e2,kN]
 ·simp -implicitDefEqProofs [m67,tZ,g0,g1,g2,gl,h1,h2,kN]
def mH (n k:Bool) (a:Int) (m b o:Bool):kM:=.agg [.bool n,.bool k,.int .i64 a,.bool m,.bool b,.bool o]
theorem ayQ (h:kP):KK 160 [.int .i64 1] h=some (.ret (.tuple [mH true false 1 false false false,.bool true]),h):=by
 refine lA rfl rfl (k9 (B0 _ _ _) ?_)
 simp -implicitDefEqProofs [Pw,lK,lD,lS,putCells,kS,l9,kN,mH,lC]
theorem ayR (h:kP):KK 160 [.int .i64 2] h=some (.ret (.tuple [mH true true 0 false false false,.bool true]),h):=by
 refine lA rfl rfl (k9 (B0 _ _ _) ?_)
 simp -implicitDefEqProofs [Pw,lK,lD,lS,putCells,kS,l9,kN,mH,lC]
theorem ayS (h:kP):KK 160 [.int .i64 3] h=some (.ret (.tuple [mH true false 1 false false false,.bool true]),h):=by
 refine lA rfl rfl (k9 (B0 _ _ _) ?_)
 simp -implicitDefEqProofs [Pw,lK,lD,lS,putCells,kS,l9,kN,mH,lC]
theorem ayT (h:kP):KK 160 [.int .i64 4] h=some (.ret (.tuple [mH true false 2 false false false,.bool true]),h):=by
 refine lA rfl rfl (k9 (B0 _ _ _) ?_)
 simp -implicitDefEqProofs [Pw,lK,lD,lS,putCells,kS,l9,kN,mH,lC]
theorem ayU (h:kP):KK 160 [.int .i64 5] h=some (.ret (.tuple [mH false false 1 false true true,.bool true]),h):=by
 refine lA rfl rfl (k9 (B0 _ _ _) ?_)
 simp -implicitDefEqProofs [Pw,lK,lD,lS,putCells,kS,l9,kN,mH,lC]
theorem ayV (h:kP):KK 160 [.int .i64 6] h=some (.ret (.tuple [mH true false 1 true true false,.bool true]),h):=by
 refine lA rfl rfl (k9 (B0 _ _ _) ?_)
 simp -implicitDefEqProofs [Pw,lK,lD,lS,putCells,kS,l9,kN,mH,lC]
theorem ayW (h:kP):KK 160 [.int .i64 7] h=some (.ret (.tuple [mH false false 1 false false false,.bool true]),h):=by
 refine lA rfl rfl (k9 (B0 _ _ _) ?_)
 simp -implicitDefEqProofs [Pw,lK,lD,lS,putCells,kS,l9,kN,mH,lC]
theorem ayX (h:kP):KK 160 [.int .i64 8] h=some (.ret (.tuple [mH false false 1 false false false,.bool true]),h):=by
 refine lA rfl rfl (k9 (B0 _ _ _) ?_)
 simp -implicitDefEqProofs [Pw,lK,lD,lS,putCells,kS,l9,kN,mH,lC]
theorem ayP (k:Int) (hk:¬(1≤k∧k≤8)) (h:kP):KK 160 [.int .i64 k] h=some (.ret (.tuple [mH false false 0 false false false,.bool false]),h):=by
 refine lA rfl rfl (k9 (B0 _ _ _) ?_)
 have n1:¬k=1:=by omega
 have n2:¬k=2:=by omega
 have n3:¬k=3:=by omega
 have n4:¬k=4:=by omega
 have n5:¬k=5:=by omega
 have n6:¬k=6:=by omega
 have n7:¬k=7:=by omega
 have n8:¬k=8:=by omega
 simp -implicitDefEqProofs [Pw,n1,n2,n3,n4,n5,n6,n7,n8,lK,lD,lS,putCells,kS,l9,kN,mH,lC]
theorem lO {x:GS}{h:kP}:lK 11 h (.agg x.cells)=some (.ptr h.length 0,h++[.cells x.cells]):=by
 simp [lK,x.tok,x.Ud]
theorem GS.shut (x:GS):([kM.agg x.cells].all (kM.nP 0))=true:=by cases x; simp [GS.cells,kM.nP,kM.pE,qA]
theorem mU {h:kP}:lK 6 h (.agg [.bool false,.bool false,.int .i64 0,.bool false,.bool false,.bool false])=some (.ptr h.length 0,h++[.cells [.bool false,.bool false,.int .i64 0,.bool false,.bool false,.bool false]]):=by
 simp [lK,lD]
theorem Ry {t:GT}:rX [.i,.i,.i] (.agg t.cells) (.agg [.int .i64 0,.int .i64 0,.int .i64 0])=some (decide (t=GT.zero)):=by
 obtain⟨a,b,c⟩:=t
 simp only [GT.cells,GT.zero,GT.mk.injEq]
 by_cases h1:a=0 <;> by_cases h2:b=0 <;> by_cases h3:c=0 <;> simp [rX,rM,Gu,beq_false_of_ne,h1,h2,h3]
def Hg (x:GS):Prop:=∀h,KK 123 [.agg x.cells] h=some (.ret (.bool (pX x)),h)
def z_ (l:List GS):Prop:=∀h,KK 66 [.slice (l.map GS.cells) .no] h=some (.ret (.bool (nW l)),h)
theorem sJ (x:GS):pX x=(lR x.kind x.sB x.name x.ty x.args x.body.length x.els.length x.has && nW x.body && nW x.els):=by cases x; simp only [pX]; rfl
theorem pT:lS [.int .i64 0,.int .i64 0,.int .i64 0] [(0,1),(1,1),(2,1)] []=some (.agg [.int .i64 0,.int .i64 0,.int .i64 0]):=rfl
theorem mT (t:GT):(t == GT.zero)=decide (t=GT.zero):=by by_cases h:t=GT.zero <;> simp [h]
end
section
open Go Hk
set_option maxHeartbeats 40000000 in
set_option maxRecDepth 100000 in
theorem aB0 (x:GS) (hk:x.kind=1) (hs:GE.nJ x.args≤4611686018427387904) (hb:z_ x.body) (he:z_ x.els):Hg x:=by
 intro h
 refine lA rfl x.shut (k9 (BY _ _ _) ?_)
 have e0:=ayQ
 have e1:=c79 x.name
 have e2:=c80 x.sB
 have e3:=T8 x.args hs
 have e4:=c67 x.ty
 have eb:=hb
 have ee:=he
 unfold z_ at eb ee
 rw [sJ]
 cases hN:lI x.name true
 ·
  simp -implicitDefEqProofs [pS,lO,mU,e0,e1,e2,e3,e4,eb,ee,mH,hk,putCells,kN,lR,lL,mT,pT,hN]
 ·
  cases hU:k_ x.sB false
  ·
   simp -implicitDefEqProofs [pS,lO,mU,e0,e1,e2,e3,e4,eb,ee,mH,hk,putCells,kN,lR,lL,mT,pT,hN,hU]
  ·
   by_cases hL:x.args.length=1
   ·
    have hL':(x.args.length:Int)=1:=by omega
    cases hE:nH x.args
    ·
     simp -implicitDefEqProofs [pS,lO,mU,e0,e1,e2,e3,e4,eb,ee,mH,hk,putCells,kN,lR,lL,mT,pT,hN,hU,hL,hL',hE]
    ·
     have eq:=Ry (t:=x.ty)
     by_cases hT:x.ty=GT.zero
     ·
      rw [decide_eq_true hT,hT] at eq
      by_cases hB:x.body.length=0
      ·
       cases hH:x.has
       ·
        by_cases hZ:x.els.length=0
        ·
         cases hP:nW x.body
         ·
          simp -implicitDefEqProofs [pS,lO,mU,e0,e1,e2,e3,e4,eb,ee,mH,hk,putCells,kN,lR,lL,mT,pT,hN,hU,hL,hL',hE,eq,hT,hB,hH,hZ,hP]
         ·
          simp -implicitDefEqProofs [pS,lO,mU,e0,e1,e2,e3,e4,eb,ee,mH,hk,putCells,kN,lR,lL,mT,pT,hN,hU,hL,hL',hE,eq,hT,hB,hH,hZ,hP]
        ·
         have hZ':0 < x.els.length:=by omega
         simp -implicitDefEqProofs [pS,lO,mU,e0,e1,e2,e3,e4,eb,ee,mH,hk,putCells,kN,lR,lL,mT,pT,hN,hU,hL,hL',hE,eq,hT,hB,hH,hZ,hZ']
       ·
        simp -implicitDefEqProofs [pS,lO,mU,e0,e1,e2,e3,e4,eb,ee,mH,hk,putCells,kN,lR,lL,mT,pT,hN,hU,hL,hL',hE,eq,hT,hB,hH]
      ·
       have hB':0 < x.body.length:=by omega
       simp -implicitDefEqProofs [pS,lO,mU,e0,e1,e2,e3,e4,eb,ee,mH,hk,putCells,kN,lR,lL,mT,pT,hN,hU,hL,hL',hE,eq,hT,hB,hB']
     ·
      rw [decide_eq_false hT] at eq
      simp -implicitDefEqProofs [pS,lO,mU,e0,e1,e2,e3,e4,eb,ee,mH,hk,putCells,kN,lR,lL,mT,pT,hN,hU,hL,hL',hE,eq,hT]
   ·
    have hL':¬(x.args.length:Int)=1:=by omega
    simp -implicitDefEqProofs [pS,lO,mU,e0,e1,e2,e3,e4,eb,ee,mH,hk,putCells,kN,lR,lL,mT,pT,hN,hU,hL,hL']
set_option maxHeartbeats 40000000 in
set_option maxRecDepth 100000 in
theorem aB1 (x:GS) (hk:x.kind=2) (hs:GE.nJ x.args≤4611686018427387904) (hb:z_ x.body) (he:z_ x.els):Hg x:=by
 intro h
 refine lA rfl x.shut (k9 (BY _ _ _) ?_)
 have e0:=ayR
 have e1:=c79 x.name
 have e2:=c80 x.sB
 have e3:=T8 x.args hs
 have e4:=c67 x.ty
 have eb:=hb
 have ee:=he
 unfold z_ at eb ee
 rw [sJ]
 cases hN:lI x.name true
 ·
  simp -implicitDefEqProofs [pS,lO,mU,e0,e1,e2,e3,e4,eb,ee,mH,hk,putCells,kN,lR,lL,mT,pT,hN]
 ·
  cases hU:k_ x.sB false
  ·
   simp -implicitDefEqProofs [pS,lO,mU,e0,e1,e2,e3,e4,eb,ee,mH,hk,putCells,kN,lR,lL,mT,pT,hN,hU]
  ·
   by_cases hL:x.args.length=0
   ·
    have hL':(x.args.length:Int)=0:=by omega
    cases hE:nH x.args
    ·
     simp -implicitDefEqProofs [pS,lO,mU,e0,e1,e2,e3,e4,eb,ee,mH,hk,putCells,kN,lR,lL,mT,pT,hN,hU,hL,hL',hE]
    ·
     cases hT:sK x.ty
     ·
      simp -implicitDefEqProofs [pS,lO,mU,e0,e1,e2,e3,e4,eb,ee,mH,hk,putCells,kN,lR,lL,mT,pT,hN,hU,hL,hL',hE,hT]
     ·
      by_cases hB:x.body.length=0
      ·
       cases hH:x.has
       ·
        by_cases hZ:x.els.length=0
        ·
         cases hP:nW x.body
         ·
          simp -implicitDefEqProofs [pS,lO,mU,e0,e1,e2,e3,e4,eb,ee,mH,hk,putCells,kN,lR,lL,mT,pT,hN,hU,hL,hL',hE,hT,hB,hH,hZ,hP]
         ·
          simp -implicitDefEqProofs [pS,lO,mU,e0,e1,e2,e3,e4,eb,ee,mH,hk,putCells,kN,lR,lL,mT,pT,hN,hU,hL,hL',hE,hT,hB,hH,hZ,hP]
        ·
         have hZ':0 < x.els.length:=by omega
         simp -implicitDefEqProofs [pS,lO,mU,e0,e1,e2,e3,e4,eb,ee,mH,hk,putCells,kN,lR,lL,mT,pT,hN,hU,hL,hL',hE,hT,hB,hH,hZ,hZ']
       ·
        simp -implicitDefEqProofs [pS,lO,mU,e0,e1,e2,e3,e4,eb,ee,mH,hk,putCells,kN,lR,lL,mT,pT,hN,hU,hL,hL',hE,hT,hB,hH]
      ·
       have hB':0 < x.body.length:=by omega
       simp -implicitDefEqProofs [pS,lO,mU,e0,e1,e2,e3,e4,eb,ee,mH,hk,putCells,kN,lR,lL,mT,pT,hN,hU,hL,hL',hE,hT,hB,hB']
   ·
    have hL':¬(x.args.length:Int)=0:=by omega
    simp -implicitDefEqProofs [pS,lO,mU,e0,e1,e2,e3,e4,eb,ee,mH,hk,putCells,kN,lR,lL,mT,pT,hN,hU,hL,hL']
end
section
open Go Hk
set_option maxHeartbeats 40000000 in
set_option maxRecDepth 100000 in
theorem aB2 (x:GS) (hk:x.kind=3) (hs:GE.nJ x.args≤4611686018427387904) (hb:z_ x.body) (he:z_ x.els):Hg x:=by
 intro h
 refine lA rfl x.shut (k9 (BY _ _ _) ?_)
 have e0:=ayS
 have e1:=c79 x.name
 have e2:=c80 x.sB
 have e3:=T8 x.args hs
 have e4:=c67 x.ty
 have eb:=hb
 have ee:=he
 unfold z_ at eb ee
 rw [sJ]
 cases hN:lI x.name true
 ·
  simp -implicitDefEqProofs [pS,lO,mU,e0,e1,e2,e3,e4,eb,ee,mH,hk,putCells,kN,lR,lL,mT,pT,hN]
 ·
  cases hU:k_ x.sB false
  ·
   simp -implicitDefEqProofs [pS,lO,mU,e0,e1,e2,e3,e4,eb,ee,mH,hk,putCells,kN,lR,lL,mT,pT,hN,hU]
  ·
   by_cases hL:x.args.length=1
   ·
    have hL':(x.args.length:Int)=1:=by omega
    cases hE:nH x.args
    ·
     simp -implicitDefEqProofs [pS,lO,mU,e0,e1,e2,e3,e4,eb,ee,mH,hk,putCells,kN,lR,lL,mT,pT,hN,hU,hL,hL',hE]
    ·
     have eq:=Ry (t:=x.ty)
     by_cases hT:x.ty=GT.zero
     ·
      rw [decide_eq_true hT,hT] at eq
      by_cases hB:x.body.length=0
      ·
       cases hH:x.has
       ·
        by_cases hZ:x.els.length=0
        ·
         cases hP:nW x.body
         ·
          simp -implicitDefEqProofs [pS,lO,mU,e0,e1,e2,e3,e4,eb,ee,mH,hk,putCells,kN,lR,lL,mT,pT,hN,hU,hL,hL',hE,eq,hT,hB,hH,hZ,hP]
         ·
          simp -implicitDefEqProofs [pS,lO,mU,e0,e1,e2,e3,e4,eb,ee,mH,hk,putCells,kN,lR,lL,mT,pT,hN,hU,hL,hL',hE,eq,hT,hB,hH,hZ,hP]
        ·
         have hZ':0 < x.els.length:=by omega
         simp -implicitDefEqProofs [pS,lO,mU,e0,e1,e2,e3,e4,eb,ee,mH,hk,putCells,kN,lR,lL,mT,pT,hN,hU,hL,hL',hE,eq,hT,hB,hH,hZ,hZ']
       ·
        simp -implicitDefEqProofs [pS,lO,mU,e0,e1,e2,e3,e4,eb,ee,mH,hk,putCells,kN,lR,lL,mT,pT,hN,hU,hL,hL',hE,eq,hT,hB,hH]
      ·
       have hB':0 < x.body.length:=by omega
       simp -implicitDefEqProofs [pS,lO,mU,e0,e1,e2,e3,e4,eb,ee,mH,hk,putCells,kN,lR,lL,mT,pT,hN,hU,hL,hL',hE,eq,hT,hB,hB']
     ·
      rw [decide_eq_false hT] at eq
      simp -implicitDefEqProofs [pS,lO,mU,e0,e1,e2,e3,e4,eb,ee,mH,hk,putCells,kN,lR,lL,mT,pT,hN,hU,hL,hL',hE,eq,hT]
   ·
    have hL':¬(x.args.length:Int)=1:=by omega
    simp -implicitDefEqProofs [pS,lO,mU,e0,e1,e2,e3,e4,eb,ee,mH,hk,putCells,kN,lR,lL,mT,pT,hN,hU,hL,hL']
set_option maxHeartbeats 40000000 in
set_option maxRecDepth 100000 in
theorem aB3 (x:GS) (hk:x.kind=4) (hs:GE.nJ x.args≤4611686018427387904) (hb:z_ x.body) (he:z_ x.els):Hg x:=by
 intro h
 refine lA rfl x.shut (k9 (BY _ _ _) ?_)
 have e0:=ayT
 have e1:=c79 x.name
 have e2:=c80 x.sB
 have e3:=T8 x.args hs
 have e4:=c67 x.ty
 have eb:=hb
 have ee:=he
 unfold z_ at eb ee
 rw [sJ]
 cases hN:lI x.name true
 ·
  simp -implicitDefEqProofs [pS,lO,mU,e0,e1,e2,e3,e4,eb,ee,mH,hk,putCells,kN,lR,lL,mT,pT,hN]
 ·
  cases hU:k_ x.sB false
  ·
   simp -implicitDefEqProofs [pS,lO,mU,e0,e1,e2,e3,e4,eb,ee,mH,hk,putCells,kN,lR,lL,mT,pT,hN,hU]
  ·
   by_cases hL:x.args.length=2
   ·
    have hL':(x.args.length:Int)=2:=by omega
    cases hE:nH x.args
    ·
     simp -implicitDefEqProofs [pS,lO,mU,e0,e1,e2,e3,e4,eb,ee,mH,hk,putCells,kN,lR,lL,mT,pT,hN,hU,hL,hL',hE]
    ·
     have eq:=Ry (t:=x.ty)
     by_cases hT:x.ty=GT.zero
     ·
      rw [decide_eq_true hT,hT] at eq
      by_cases hB:x.body.length=0
      ·
       cases hH:x.has
       ·
        by_cases hZ:x.els.length=0
        ·
         cases hP:nW x.body
         ·
          simp -implicitDefEqProofs [pS,lO,mU,e0,e1,e2,e3,e4,eb,ee,mH,hk,putCells,kN,lR,lL,mT,pT,hN,hU,hL,hL',hE,eq,hT,hB,hH,hZ,hP]
         ·
          simp -implicitDefEqProofs [pS,lO,mU,e0,e1,e2,e3,e4,eb,ee,mH,hk,putCells,kN,lR,lL,mT,pT,hN,hU,hL,hL',hE,eq,hT,hB,hH,hZ,hP]
        ·
         have hZ':0 < x.els.length:=by omega
         simp -implicitDefEqProofs [pS,lO,mU,e0,e1,e2,e3,e4,eb,ee,mH,hk,putCells,kN,lR,lL,mT,pT,hN,hU,hL,hL',hE,eq,hT,hB,hH,hZ,hZ']
       ·
        simp -implicitDefEqProofs [pS,lO,mU,e0,e1,e2,e3,e4,eb,ee,mH,hk,putCells,kN,lR,lL,mT,pT,hN,hU,hL,hL',hE,eq,hT,hB,hH]
      ·
       have hB':0 < x.body.length:=by omega
       simp -implicitDefEqProofs [pS,lO,mU,e0,e1,e2,e3,e4,eb,ee,mH,hk,putCells,kN,lR,lL,mT,pT,hN,hU,hL,hL',hE,eq,hT,hB,hB']
     ·
      rw [decide_eq_false hT] at eq
      simp -implicitDefEqProofs [pS,lO,mU,e0,e1,e2,e3,e4,eb,ee,mH,hk,putCells,kN,lR,lL,mT,pT,hN,hU,hL,hL',hE,eq,hT]
   ·
    have hL':¬(x.args.length:Int)=2:=by omega
    simp -implicitDefEqProofs [pS,lO,mU,e0,e1,e2,e3,e4,eb,ee,mH,hk,putCells,kN,lR,lL,mT,pT,hN,hU,hL,hL']
end
section
open Go Hk
set_option maxHeartbeats 40000000 in
set_option maxRecDepth 100000 in
theorem aB4 (x:GS) (hk:x.kind=5) (hs:GE.nJ x.args≤4611686018427387904) (hb:z_ x.body) (he:z_ x.els):Hg x:=by
 intro h
 refine lA rfl x.shut (k9 (BY _ _ _) ?_)
 have e0:=ayU
 have e1:=c79 x.name
 have e2:=c80 x.sB
 have e3:=T8 x.args hs
 have e4:=c67 x.ty
 have eb:=hb
 have ee:=he
 unfold z_ at eb ee
 rw [sJ]
 cases hN:lI x.name false
 ·
  simp -implicitDefEqProofs [pS,lO,mU,e0,e1,e2,e3,e4,eb,ee,mH,hk,putCells,kN,lR,lL,mT,pT,hN]
 ·
  cases hU:k_ x.sB false
  ·
   simp -implicitDefEqProofs [pS,lO,mU,e0,e1,e2,e3,e4,eb,ee,mH,hk,putCells,kN,lR,lL,mT,pT,hN,hU]
  ·
   by_cases hL:x.args.length=1
   ·
    have hL':(x.args.length:Int)=1:=by omega
    cases hE:nH x.args
    ·
     simp -implicitDefEqProofs [pS,lO,mU,e0,e1,e2,e3,e4,eb,ee,mH,hk,putCells,kN,lR,lL,mT,pT,hN,hU,hL,hL',hE]
    ·
     have eq:=Ry (t:=x.ty)
     by_cases hT:x.ty=GT.zero
     ·
      rw [decide_eq_true hT,hT] at eq
      cases hH:x.has
      ·
       by_cases hZ:x.els.length=0
       ·
        cases hP:nW x.body
        ·
         simp -implicitDefEqProofs [pS,lO,mU,e0,e1,e2,e3,e4,eb,ee,mH,hk,putCells,kN,lR,lL,mT,pT,hN,hU,hL,hL',hE,eq,hT,hH,hZ,hP]
        ·
         simp -implicitDefEqProofs [pS,lO,mU,e0,e1,e2,e3,e4,eb,ee,mH,hk,putCells,kN,lR,lL,mT,pT,hN,hU,hL,hL',hE,eq,hT,hH,hZ,hP]
       ·
        have hZ':0 < x.els.length:=by omega
        simp -implicitDefEqProofs [pS,lO,mU,e0,e1,e2,e3,e4,eb,ee,mH,hk,putCells,kN,lR,lL,mT,pT,hN,hU,hL,hL',hE,eq,hT,hH,hZ,hZ']
      ·
       cases hP:nW x.body
       ·
        simp -implicitDefEqProofs [pS,lO,mU,e0,e1,e2,e3,e4,eb,ee,mH,hk,putCells,kN,lR,lL,mT,pT,hN,hU,hL,hL',hE,eq,hT,hH,hP]
       ·
        simp -implicitDefEqProofs [pS,lO,mU,e0,e1,e2,e3,e4,eb,ee,mH,hk,putCells,kN,lR,lL,mT,pT,hN,hU,hL,hL',hE,eq,hT,hH,hP]
     ·
      rw [decide_eq_false hT] at eq
      simp -implicitDefEqProofs [pS,lO,mU,e0,e1,e2,e3,e4,eb,ee,mH,hk,putCells,kN,lR,lL,mT,pT,hN,hU,hL,hL',hE,eq,hT]
   ·
    have hL':¬(x.args.length:Int)=1:=by omega
    simp -implicitDefEqProofs [pS,lO,mU,e0,e1,e2,e3,e4,eb,ee,mH,hk,putCells,kN,lR,lL,mT,pT,hN,hU,hL,hL']
set_option maxHeartbeats 40000000 in
set_option maxRecDepth 100000 in
theorem aB5 (x:GS) (hk:x.kind=6) (hs:GE.nJ x.args≤4611686018427387904) (hb:z_ x.body) (he:z_ x.els):Hg x:=by
 intro h
 refine lA rfl x.shut (k9 (BY _ _ _) ?_)
 have e0:=ayV
 have e1:=c79 x.name
 have e2:=c80 x.sB
 have e3:=T8 x.args hs
 have e4:=c67 x.ty
 have eb:=hb
 have ee:=he
 unfold z_ at eb ee
 rw [sJ]
 cases hN:lI x.name true
 ·
  simp -implicitDefEqProofs [pS,lO,mU,e0,e1,e2,e3,e4,eb,ee,mH,hk,putCells,kN,lR,lL,mT,pT,hN]
 ·
  cases hU:k_ x.sB true
  ·
   simp -implicitDefEqProofs [pS,lO,mU,e0,e1,e2,e3,e4,eb,ee,mH,hk,putCells,kN,lR,lL,mT,pT,hN,hU]
  ·
   by_cases hL:x.args.length=1
   ·
    have hL':(x.args.length:Int)=1:=by omega
    cases hE:nH x.args
    ·
     simp -implicitDefEqProofs [pS,lO,mU,e0,e1,e2,e3,e4,eb,ee,mH,hk,putCells,kN,lR,lL,mT,pT,hN,hU,hL,hL',hE]
    ·
     have eq:=Ry (t:=x.ty)
     by_cases hT:x.ty=GT.zero
     ·
      rw [decide_eq_true hT,hT] at eq
      cases hH:x.has
      ·
       by_cases hZ:x.els.length=0
       ·
        cases hP:nW x.body
        ·
         simp -implicitDefEqProofs [pS,lO,mU,e0,e1,e2,e3,e4,eb,ee,mH,hk,putCells,kN,lR,lL,mT,pT,hN,hU,hL,hL',hE,eq,hT,hH,hZ,hP]
        ·
         simp -implicitDefEqProofs [pS,lO,mU,e0,e1,e2,e3,e4,eb,ee,mH,hk,putCells,kN,lR,lL,mT,pT,hN,hU,hL,hL',hE,eq,hT,hH,hZ,hP]
       ·
        have hZ':0 < x.els.length:=by omega
        simp -implicitDefEqProofs [pS,lO,mU,e0,e1,e2,e3,e4,eb,ee,mH,hk,putCells,kN,lR,lL,mT,pT,hN,hU,hL,hL',hE,eq,hT,hH,hZ,hZ']
      ·
       simp -implicitDefEqProofs [pS,lO,mU,e0,e1,e2,e3,e4,eb,ee,mH,hk,putCells,kN,lR,lL,mT,pT,hN,hU,hL,hL',hE,eq,hT,hH]
     ·
      rw [decide_eq_false hT] at eq
      simp -implicitDefEqProofs [pS,lO,mU,e0,e1,e2,e3,e4,eb,ee,mH,hk,putCells,kN,lR,lL,mT,pT,hN,hU,hL,hL',hE,eq,hT]
   ·
    have hL':¬(x.args.length:Int)=1:=by omega
    simp -implicitDefEqProofs [pS,lO,mU,e0,e1,e2,e3,e4,eb,ee,mH,hk,putCells,kN,lR,lL,mT,pT,hN,hU,hL,hL']
end
section
open Go Hk
set_option maxHeartbeats 40000000 in
set_option maxRecDepth 100000 in
theorem aB6 (x:GS) (hk:x.kind=7) (hs:GE.nJ x.args≤4611686018427387904) (hb:z_ x.body) (he:z_ x.els):Hg x:=by
 intro h
 refine lA rfl x.shut (k9 (BY _ _ _) ?_)
 have e0:=ayW
 have e1:=c79 x.name
 have e2:=c80 x.sB
 have e3:=T8 x.args hs
 have e4:=c67 x.ty
 have eb:=hb
 have ee:=he
 unfold z_ at eb ee
 rw [sJ]
 cases hN:lI x.name false
 ·
  simp -implicitDefEqProofs [pS,lO,mU,e0,e1,e2,e3,e4,eb,ee,mH,hk,putCells,kN,lR,lL,mT,pT,hN]
 ·
  cases hU:k_ x.sB false
  ·
   simp -implicitDefEqProofs [pS,lO,mU,e0,e1,e2,e3,e4,eb,ee,mH,hk,putCells,kN,lR,lL,mT,pT,hN,hU]
  ·
   by_cases hL:x.args.length=1
   ·
    have hL':(x.args.length:Int)=1:=by omega
    cases hE:nH x.args
    ·
     simp -implicitDefEqProofs [pS,lO,mU,e0,e1,e2,e3,e4,eb,ee,mH,hk,putCells,kN,lR,lL,mT,pT,hN,hU,hL,hL',hE]
    ·
     have eq:=Ry (t:=x.ty)
     by_cases hT:x.ty=GT.zero
     ·
      rw [decide_eq_true hT,hT] at eq
      obtain⟨a,ha⟩:=CK hL
      have i0:=X8 ha
      have hM:P6 x.args=(a.kind == 4):=by rw [ha]; rfl
      by_cases hA:a.kind=4
      ·
       by_cases hB:x.body.length=0
       ·
        cases hH:x.has
        ·
         by_cases hZ:x.els.length=0
         ·
          cases hP:nW x.body
          ·
           simp -implicitDefEqProofs [pS,lO,mU,e0,e1,e2,e3,e4,eb,ee,mH,hk,putCells,kN,lR,lL,mT,pT,hN,hU,hL,hL',hE,eq,hT,i0,hM,hA,hB,hH,hZ,hP]
          ·
           simp -implicitDefEqProofs [pS,lO,mU,e0,e1,e2,e3,e4,eb,ee,mH,hk,putCells,kN,lR,lL,mT,pT,hN,hU,hL,hL',hE,eq,hT,i0,hM,hA,hB,hH,hZ,hP]
         ·
          have hZ':0 < x.els.length:=by omega
          simp -implicitDefEqProofs [pS,lO,mU,e0,e1,e2,e3,e4,eb,ee,mH,hk,putCells,kN,lR,lL,mT,pT,hN,hU,hL,hL',hE,eq,hT,i0,hM,hA,hB,hH,hZ,hZ']
        ·
         simp -implicitDefEqProofs [pS,lO,mU,e0,e1,e2,e3,e4,eb,ee,mH,hk,putCells,kN,lR,lL,mT,pT,hN,hU,hL,hL',hE,eq,hT,i0,hM,hA,hB,hH]
       ·
        have hB':0 < x.body.length:=by omega
        simp -implicitDefEqProofs [pS,lO,mU,e0,e1,e2,e3,e4,eb,ee,mH,hk,putCells,kN,lR,lL,mT,pT,hN,hU,hL,hL',hE,eq,hT,i0,hM,hA,hB,hB']
      ·
       simp -implicitDefEqProofs [pS,lO,mU,e0,e1,e2,e3,e4,eb,ee,mH,hk,putCells,kN,lR,lL,mT,pT,hN,hU,hL,hL',hE,eq,hT,i0,hM,hA]
     ·
      rw [decide_eq_false hT] at eq
      simp -implicitDefEqProofs [pS,lO,mU,e0,e1,e2,e3,e4,eb,ee,mH,hk,putCells,kN,lR,lL,mT,pT,hN,hU,hL,hL',hE,eq,hT]
   ·
    have hL':¬(x.args.length:Int)=1:=by omega
    simp -implicitDefEqProofs [pS,lO,mU,e0,e1,e2,e3,e4,eb,ee,mH,hk,putCells,kN,lR,lL,mT,pT,hN,hU,hL,hL']
set_option maxHeartbeats 40000000 in
set_option maxRecDepth 100000 in
theorem aB7 (x:GS) (hk:x.kind=8) (hs:GE.nJ x.args≤4611686018427387904) (hb:z_ x.body) (he:z_ x.els):Hg x:=by
 intro h
 refine lA rfl x.shut (k9 (BY _ _ _) ?_)
 have e0:=ayX
 have e1:=c79 x.name
 have e2:=c80 x.sB
 have e3:=T8 x.args hs
 have e4:=c67 x.ty
 have eb:=hb
 have ee:=he
 unfold z_ at eb ee
 rw [sJ]
 cases hN:lI x.name false
 ·
  simp -implicitDefEqProofs [pS,lO,mU,e0,e1,e2,e3,e4,eb,ee,mH,hk,putCells,kN,lR,lL,mT,pT,hN]
 ·
  cases hU:k_ x.sB false
  ·
   simp -implicitDefEqProofs [pS,lO,mU,e0,e1,e2,e3,e4,eb,ee,mH,hk,putCells,kN,lR,lL,mT,pT,hN,hU]
  ·
   by_cases hL:x.args.length=1
   ·
    have hL':(x.args.length:Int)=1:=by omega
    cases hE:nH x.args
    ·
     simp -implicitDefEqProofs [pS,lO,mU,e0,e1,e2,e3,e4,eb,ee,mH,hk,putCells,kN,lR,lL,mT,pT,hN,hU,hL,hL',hE]
    ·
     have eq:=Ry (t:=x.ty)
     by_cases hT:x.ty=GT.zero
     ·
      rw [decide_eq_true hT,hT] at eq
      by_cases hB:x.body.length=0
      ·
       cases hH:x.has
       ·
        by_cases hZ:x.els.length=0
        ·
         cases hP:nW x.body
         ·
          simp -implicitDefEqProofs [pS,lO,mU,e0,e1,e2,e3,e4,eb,ee,mH,hk,putCells,kN,lR,lL,mT,pT,hN,hU,hL,hL',hE,eq,hT,hB,hH,hZ,hP]
         ·
          simp -implicitDefEqProofs [pS,lO,mU,e0,e1,e2,e3,e4,eb,ee,mH,hk,putCells,kN,lR,lL,mT,pT,hN,hU,hL,hL',hE,eq,hT,hB,hH,hZ,hP]
        ·
         have hZ':0 < x.els.length:=by omega
         simp -implicitDefEqProofs [pS,lO,mU,e0,e1,e2,e3,e4,eb,ee,mH,hk,putCells,kN,lR,lL,mT,pT,hN,hU,hL,hL',hE,eq,hT,hB,hH,hZ,hZ']
       ·
        simp -implicitDefEqProofs [pS,lO,mU,e0,e1,e2,e3,e4,eb,ee,mH,hk,putCells,kN,lR,lL,mT,pT,hN,hU,hL,hL',hE,eq,hT,hB,hH]
      ·
       have hB':0 < x.body.length:=by omega
       simp -implicitDefEqProofs [pS,lO,mU,e0,e1,e2,e3,e4,eb,ee,mH,hk,putCells,kN,lR,lL,mT,pT,hN,hU,hL,hL',hE,eq,hT,hB,hB']
     ·
      rw [decide_eq_false hT] at eq
      simp -implicitDefEqProofs [pS,lO,mU,e0,e1,e2,e3,e4,eb,ee,mH,hk,putCells,kN,lR,lL,mT,pT,hN,hU,hL,hL',hE,eq,hT]
   ·
    have hL':¬(x.args.length:Int)=1:=by omega
    simp -implicitDefEqProofs [pS,lO,mU,e0,e1,e2,e3,e4,eb,ee,mH,hk,putCells,kN,lR,lL,mT,pT,hN,hU,hL,hL']
end
section
open Go Hk
theorem Yo {h:kP}:lK 11 h (.agg [.int .i64 0,.int .i64 0,.int .i64 0,.str [],.int .i64 0,.int .i64 0,.int .i64 0,.slice [] .nil,.slice [] .nil,.slice [] .nil,.bool false]) =
  some (.ptr h.length 0,h++[.cells [.int .i64 0,.int .i64 0,.int .i64 0,.str [],.int .i64 0,.int .i64 0,.int .i64 0,.slice [] (.own (h.length+1)),.slice [] (.own (h.length+2)),.slice [] (.own (h.length+3)),.bool false],.front 0 0,.front 0 0,.front 0 0]):=by
 simp [lK,lD]
theorem YO {x:GS}{h:kP}{os:List kM}:pV h os x.cells=x.cells:=rA (by cases x; simp [GS.cells,kM.isNil])
theorem ag2 {l:List GS}{i:Nat}{x:GS}(h:l[i]?=some x):∀hh:i < l.length,l[i]'hh=x:=fun hh=>by rw [ac0 hh] at h; exact Option.some.inj h
theorem awL {x:GS}{cs:List kM}(h:cs.length=11):putCells cs 0 x.cells=x.cells:=by simp [putCells,h]
theorem ag5 {x:GS}:(∀c,c∈x.cells→c.mD=true)=True:=eq_true (by have:=x.Ud; rwa [ah1] at this)
theorem aiU (l:List GS) (hok:∀x∈l,Hg x) (hl:l.length≤4611686018427387904) :
  (l.all pX=true→mI (GU KK 0) ([.bool false,.slice (l.map GS.cells) .no,.int .i64 (l.length:Int),.int .i64 0],[]) =
   some (.exit 0,[.bool false,.slice (l.map GS.cells) .no,.int .i64 (l.length:Int),.int .i64 (l.length:Int)],[])) ∧
  (l.all pX=false→∃i:Nat,mI (GU KK 0) ([.bool false,.slice (l.map GS.cells) .no,.int .i64 (l.length:Int),.int .i64 0],[]) =
   some (.ret,[.bool false,.slice (l.map GS.cells) .no,.int .i64 (l.length:Int),.int .i64 (i:Int)],[])):=by
 have main:=Ar (F:=GU KK 0) l pX (fun i=>([.bool false,.slice (l.map GS.cells) .no,.int .i64 (l.length:Int),.int .i64 (i:Int)],[]))
  (fun i=>(.ret,[.bool false,.slice (l.map GS.cells) .no,.int .i64 (l.length:Int),.int .i64 (i:Int)],[])) (.exit 0,[.bool false,.slice (l.map GS.cells) .no,.int .i64 (l.length:Int),.int .i64 (l.length:Int)],[]) ?_ ?_ (fun _=>by simp) ?_ (by simp)
 ·exact main
 ·intro i x hx hw
  have h:i < l.length:=(ab1.1 hx).1
  have w1:=rV (a:=i) (by omega)
  have hc:=hok x (af1 hx)
  unfold Hg at hc
  simp -implicitDefEqProofs [GU,h,ag2 hx,Yo,YO,awL,ag5,hc,hw,w1,nS,-ag1]
 ·intro i x hx hw
  have h:i < l.length:=(ab1.1 hx).1
  have hc:=hok x (af1 hx)
  unfold Hg at hc
  simp -implicitDefEqProofs [GU,h,ag2 hx,Yo,YO,awL,ag5,hc,hw,nS]
 ·simp -implicitDefEqProofs [GU,nS]
theorem c66 (l:List GS) (hok:∀x∈l,Hg x) (hl:l.length≤4611686018427387904):z_ l:=by
 intro h
 refine lA rfl (by simp [kM.nP,kM.pE,qA]) (k9 (aBb _ _ _) ?_)
 obtain⟨h1,h2⟩:=aiU l hok hl
 rw [wH]
 cases hw:l.all pX with
 | true=>simp -implicitDefEqProofs [m66,h1 hw,kN]
 | false =>
  obtain⟨i,hi⟩:=h2 hw
  simp -implicitDefEqProofs [m66,hi,kN]
theorem A0 (l:List GS):l.length≤GS.nJ l:=by
 induction l with
 | nil=>simp
 | cons y r ih=>cases y; simp only [GS.nJ,GS.size,ac8]; omega
theorem GS.size_eq (x:GS):x.size=1+GE.nJ x.args+GS.nJ x.body+GS.nJ x.els:=by cases x; simp only [GS.size]; rfl
set_option maxRecDepth 100000 in
theorem aa1 (x:GS) (hk:¬(1≤x.kind∧x.kind≤8)):Hg x:=by
 intro h
 refine lA rfl x.shut (k9 (BY _ _ _) ?_)
 have e0:=ayP x.kind hk
 have hw:pX x=false:=by
  rw [sJ]
  have:lR x.kind x.sB x.name x.ty x.args x.body.length x.els.length x.has=false:=by
   cases hn:lR x.kind x.sB x.name x.ty x.args x.body.length x.els.length x.has with
   | false=>rfl
   | true=>exact absurd (Co hn) hk
  rw [this]; rfl
 rw [hw]
 simp -implicitDefEqProofs [pS,lO,mU,e0,mH,putCells,kN]
theorem aI6:∀(n:Nat) (x:GS),x.size≤n→n≤4611686018427387904→Hg x:=by
 intro n
 induction n with
 | zero=>intro x hn; cases x; simp [GS.size] at hn
 | succ n ih =>
  intro x hn hb
  rw [GS.size_eq] at hn
  have h1:=A0 x.body
  have h2:=A0 x.els
  have hB:z_ x.body:=c66 _ (fun y hy=>ih y (by have:=GS.oO hy; omega) (by omega)) (by omega)
  have hE:z_ x.els:=c66 _ (fun y hy=>ih y (by have:=GS.oO hy; omega) (by omega)) (by omega)
  have ha:GE.nJ x.args≤4611686018427387904:=by omega
  by_cases hk:1≤x.kind∧x.kind≤8
  ·rcases Ro hk with h | h | h | h | h | h | h | h
   ·exact aB0 x h ha hB hE
   ·exact aB1 x h ha hB hE
   ·exact aB2 x h ha hB hE
   ·exact aB3 x h ha hB hE
   ·exact aB4 x h ha hB hE
   ·exact aB5 x h ha hB hE
   ·exact aB6 x h ha hB hE
   ·exact aB7 x h ha hB hE
  ·exact aa1 x hk
theorem aJA (l:List GS) (hs:GS.nJ l≤4611686018427387904):z_ l:=c66 l (fun x hx=>aI6 _ x (GS.oO hx) hs) (by have:=A0 l; omega)
def GF.size (f:GF):Nat:=1+f.params.length+GS.nJ f.body
theorem wT {x:GF}{h:kP}:lK 8 h (.agg x.cells)=some (.ptr h.length 0,h++[.cells x.cells]):=by
 simp [lK,x.tok,x.Ud]
theorem Rk {h:kP}:lK 6 h (.agg [.int .i64 0,.str [],.int .i64 0,.int .i64 0,.int .i64 0,.bool false])=some (.ptr h.length 0,h++[.cells [.int .i64 0,.str [],.int .i64 0,.int .i64 0,.int .i64 0,.bool false]]):=by
 simp [lK,lD]
theorem GF.shut (x:GF):([kM.agg x.cells].all (kM.nP 0))=true:=by simp [GF.cells,kM.nP,kM.pE,qA]
theorem Ps {l:List GP}{i:Nat}{x:GP}(h:l[i]?=some x):∀hh:i < l.length,l[i]'hh=x:=fun hh=>by rw [ac0 hh] at h; exact Option.some.inj h
theorem RY {x:GP}{h:kP}{os:List kM}:pV h os x.cells=x.cells:=rA (by simp [GP.cells,kM.isNil])
theorem aBO {x:GP}{cs:List kM}(h:cs.length=6):putCells cs 0 x.cells=x.cells:=by simp [putCells,h]
theorem WI {x:GP}:(∀c,c∈x.cells→c.mD=true)=True:=eq_true (by have:=x.Ud; rwa [ah1] at this)
@[simp] theorem GP.aMx (x:GP):x.cells.take 6=x.cells:=rfl
theorem XJ {f:GF}{C:List lE}:l9 1 (.cells f.cells::C)=some [.cells f.cells]:=by simp [l9,f.still]
theorem aiG (f:GF) (l:List GP) (hl:l.length≤4611686018427387904) :
  (l.all uV=true→mI (E6 KK 1) ([.ptr 0 0,.bool false,.slice (l.map GP.cells) .no,.int .i64 (l.length:Int),.int .i64 0],[.cells f.cells]) =
   some (.exit 0,[.ptr 0 0,.bool false,.slice (l.map GP.cells) .no,.int .i64 (l.length:Int),.int .i64 (l.length:Int)],[.cells f.cells])) ∧
  (l.all uV=false→∃i:Nat,mI (E6 KK 1) ([.ptr 0 0,.bool false,.slice (l.map GP.cells) .no,.int .i64 (l.length:Int),.int .i64 0],[.cells f.cells]) =
   some (.ret,[.ptr 0 0,.bool false,.slice (l.map GP.cells) .no,.int .i64 (l.length:Int),.int .i64 (i:Int)],[.cells f.cells])):=by
 have q0:∀h o,kM.mO 1 h (.ptr 0 o)=.ptr 0 o:=fun h o=>lC (by omega)
 have main:=Ar (F:=E6 KK 1) l uV (fun i=>([.ptr 0 0,.bool false,.slice (l.map GP.cells) .no,.int .i64 (l.length:Int),.int .i64 (i:Int)],[.cells f.cells]))
  (fun i=>(.ret,[.ptr 0 0,.bool false,.slice (l.map GP.cells) .no,.int .i64 (l.length:Int),.int .i64 (i:Int)],[.cells f.cells])) (.exit 0,[.ptr 0 0,.bool false,.slice (l.map GP.cells) .no,.int .i64 (l.length:Int),.int .i64 (l.length:Int)],[.cells f.cells]) ?_ ?_ (fun _=>by simp) ?_ (by simp)
 ·exact main
 ·intro i x hx hw
  have h:i < l.length:=(ab1.1 hx).1
  have w1:=rV (a:=i) (by omega)
  have e1:=c65 x.name
  have e2:=c67 x.ty
  simp only [uV,ad2] at hw
  simp -implicitDefEqProofs [E6,h,Ps hx,Rk,RY,aBO,WI,e1,e2,hw.1,hw.2,w1,kS,XJ,q0,-ag1]
 ·intro i x hx hw
  have h:i < l.length:=(ab1.1 hx).1
  have e1:=c65 x.name
  have e2:=c67 x.ty
  simp only [uV] at hw
  cases hn:qR x.name with
  | false=>simp -implicitDefEqProofs [E6,h,Ps hx,Rk,RY,aBO,WI,e1,e2,hn,kS,XJ,q0]
  | true =>
   rw [hn,Bool.true_and] at hw
   simp -implicitDefEqProofs [E6,h,Ps hx,Rk,RY,aBO,WI,e1,e2,hn,hw,kS,XJ,q0]
 ·simp -implicitDefEqProofs [E6,kS,XJ,q0]
theorem c31 (f:GF) (hs:f.size≤4611686018427387904) (h:kP):KK 31 [.agg f.cells] h=some (.ret (.bool (o0 f)),h):=by
 refine lA rfl f.shut (k9 (aAR _ _ _) ?_)
 unfold GF.size at hs
 have e1:=c65 f.name
 have e2:=aJA f.body (by omega)
 unfold z_ at e2
 have e3:=c67 f.result
 have eq:=Ry (t:=f.result)
 obtain⟨h1,h2⟩:=aiG f f.params (by omega)
 have g0:∀h:4 < f.cells.length,f.cells[4]'h=.int .i64 f.result.elem:=fun _=>rfl
 have g1:∀h:5 < f.cells.length,f.cells[5]'h=.int .i64 f.result.len:=fun _=>rfl
 unfold o0
 cases hN:qR f.name with
 | false=>simp -implicitDefEqProofs [m31,wT,e1,hN,kN]
 | true =>
  cases hS:nW f.body with
  | false=>simp -implicitDefEqProofs [m31,wT,e1,e2,hN,hS,kN]
  | true =>
   cases hP:f.params.all uV with
   | false =>
    obtain⟨i,hi⟩:=h2 hP
    simp -implicitDefEqProofs [m31,wT,e1,e2,hN,hS,hi,kN]
   | true =>
    have hi:=h1 hP
    cases hH:f.has with
    | false =>
     simp -implicitDefEqProofs [m31,wT,e1,e2,hN,hS,hi,hH,pT,eq,kN,mT]
    | true =>
     cases hT:sK f.result with
     | false=>simp -implicitDefEqProofs [m31,wT,e1,e2,e3,hN,hS,hi,hH,hT,kN]
     | true =>
      by_cases hL:f.result.len=0
      ·by_cases hE:f.result.elem=2
       ·simp -implicitDefEqProofs [m31,wT,e1,e2,e3,hN,hS,hi,hH,hT,hL,hE,g0,g1,kN]
       ·simp -implicitDefEqProofs [m31,wT,e1,e2,e3,hN,hS,hi,hH,hT,hL,hE,g0,g1,kN]
      ·simp -implicitDefEqProofs [m31,wT,e1,e2,e3,hN,hS,hi,hH,hT,hL,g0,g1,kN]
end
section
open Go Hk
def oT (l:List GF):List kM:=[.slice (l.map GF.cells) .no]
theorem y5 (l:List GF) (m:Nat) (h:kP):nI m h (oT l)=some (oT l):=by simp [oT]
theorem Yn {h:kP}:lK 8 h (.agg [.int .i64 0,.str [],.slice [] .nil,.bool false,.int .i64 0,.int .i64 0,.int .i64 0,.slice [] .nil]) =
  some (.ptr h.length 0,h++[.cells [.int .i64 0,.str [],.slice [] (.own (h.length+1)),.bool false,.int .i64 0,.int .i64 0,.int .i64 0,.slice [] (.own (h.length+2))],.front 0 0,.front 0 0]):=by
 simp [lK,lD]
theorem abI {l:List GF}{i:Nat}{x:GF}(h:l[i]?=some x):∀hh:i < l.length,l[i]'hh=x:=fun hh=>by rw [ac0 hh] at h; exact Option.some.inj h
theorem RX {x:GF}{h:kP}{os:List kM}:pV h os x.cells=x.cells:=rA (by simp [GF.cells,kM.isNil])
theorem aBP {x:GF}{cs:List kM}(h:cs.length=8):putCells cs 0 x.cells=x.cells:=by simp [putCells,h]
theorem ag3 {x:GF}:(∀c,c∈x.cells→c.mD=true)=True:=eq_true (by have:=x.Ud; rwa [ah1] at this)
@[simp] theorem GF.aMy (x:GF):x.cells.take 8=x.cells:=rfl
theorem trG {l:List GF}{C:List lE}:l9 1 (.cells (oT l)::C)=some [.cells (oT l)]:=by simp [l9,y5]
theorem aAd {x:GF}{h:kP}:l_ true 8 h (.pptr x.cells)=some (.agg x.cells):=by simp [l_]
theorem ab8 (l:List GF) (hs:∀f∈l,f.size≤4611686018427387904) (hl:l.length≤4611686018427387904) :
  (l.all o0=true→mI (GK KK 1) ([.ptr 0 0,.str [],.int .i64 0,.slice (l.map GF.cells) .no,.int .i64 (l.length:Int),.int .i64 0],[.cells (oT l)]) =
   some (.exit 0,[.ptr 0 0,.str [],.int .i64 0,.slice (l.map GF.cells) .no,.int .i64 (l.length:Int),.int .i64 (l.length:Int)],[.cells (oT l)])) ∧
  (l.all o0=false→∃i:Nat,mI (GK KK 1) ([.ptr 0 0,.str [],.int .i64 0,.slice (l.map GF.cells) .no,.int .i64 (l.length:Int),.int .i64 0],[.cells (oT l)]) =
   some (.ret,[.ptr 0 0,.str [],.int .i64 2,.slice (l.map GF.cells) .no,.int .i64 (l.length:Int),.int .i64 (i:Int)],[.cells (oT l)])):=by
 have q0:∀h o,kM.mO 1 h (.ptr 0 o)=.ptr 0 o:=fun h o=>lC (by omega)
 have main:=Ar (F:=GK KK 1) l o0 (fun i=>([.ptr 0 0,.str [],.int .i64 0,.slice (l.map GF.cells) .no,.int .i64 (l.length:Int),.int .i64 (i:Int)],[.cells (oT l)]))
  (fun i=>(.ret,[.ptr 0 0,.str [],.int .i64 2,.slice (l.map GF.cells) .no,.int .i64 (l.length:Int),.int .i64 (i:Int)],[.cells (oT l)])) (.exit 0,[.ptr 0 0,.str [],.int .i64 0,.slice (l.map GF.cells) .no,.int .i64 (l.length:Int),.int .i64 (l.length:Int)],[.cells (oT l)]) ?_ ?_ (fun _=>by simp) ?_ (by simp)
 ·exact main
 ·intro i x hx hw
  have h:i < l.length:=(ab1.1 hx).1
  have w1:=rV (a:=i) (by omega)
  have e1:=c31 x (hs x (af1 hx))
  have st:∀cs C,aa0 cs=8→pU 8 (.cells (oT l)::.cells cs::C) (.ptr 1 0) (.agg x.cells)=some (.cells (oT l)::.cells x.cells::C):=fun cs C hc=>by
   simp [pU,BT,RX,aBP hc,ag3,hc]
  have ld:∀C,l_ true 8 (.cells (oT l)::.cells x.cells::C) (.ptr 1 0)=some (.agg x.cells):=fun C=>by simp [l_,BT]
  simp -implicitDefEqProofs [GK,h,abI hx,aAd,Yn,st,ld,e1,hw,w1,kS,trG,q0,-ag1]
 ·intro i x hx hw
  have h:i < l.length:=(ab1.1 hx).1
  have e1:=c31 x (hs x (af1 hx))
  have st:∀cs C,aa0 cs=8→pU 8 (.cells (oT l)::.cells cs::C) (.ptr 1 0) (.agg x.cells)=some (.cells (oT l)::.cells x.cells::C):=fun cs C hc=>by
   simp [pU,BT,RX,aBP hc,ag3,hc]
  have ld:∀C,l_ true 8 (.cells (oT l)::.cells x.cells::C) (.ptr 1 0)=some (.agg x.cells):=fun C=>by simp [l_,BT]
  simp -implicitDefEqProofs [GK,h,abI hx,aAd,Yn,st,ld,e1,hw,kS,trG,q0]
 ·simp -implicitDefEqProofs [GK,kS,trG,q0]
def uM (l:List GF) (i:Nat):List UInt8:=((l.take i).map vF).flatten
def uF (l:List GF) (i:Nat):Nat:=qJ ((l.take i).map vB)
theorem N5 {l:List GF}{i:Nat}{x:GF}(h:l[i]?=some x):uM l (i+1)=uM l i++vF x:=by simp [uM,tL h]
theorem NY {l:List GF}{i:Nat}{x:GF}(h:l[i]?=some x):uF l (i+1)=max (uF l i) (vB x):=by simp [uF,tL h,Jp]
theorem U_ (l:List GF) (i:Nat):(uM l i).length≤(uM l l.length).length:=by
 have:uM l l.length=uM l i++((l.drop i).map vF).flatten:=by
  unfold uM
  rw [←List.flatten_append,←List.map_append,List.take_append_drop,List.take_length]
 rw [this]; simp
theorem ajV (l:List GF) (i:Nat):uF l i≤uF l l.length:=by
 have:uF l l.length=qJ ((l.take i).map vB++(l.drop i).map vB):=by
  unfold uF
  rw [←List.map_append,List.take_append_drop,List.take_length]
 rw [this]
 exact NN _ _
def yE (w:WS) (l:List GF):Nat→WS
 | 0=>w
 | i+1=>w.st (uM l (i+1)) (uF l (i+1)) 0
theorem ax8 {w:WS}{B:List lE}:lK 8 (WH w B) (.agg [.int .i64 0,.str [],.slice [] .nil,.bool false,.int .i64 0,.int .i64 0,.int .i64 0,.slice [] .nil]) =
  some (.ptr (B.length+3) 0,WH w (B++[.cells [.int .i64 0,.str [],.slice [] (.own (B.length+4)),.bool false,.int .i64 0,.int .i64 0,.int .i64 0,.slice [] (.own (B.length+5))],.front 0 0,.front 0 0])):=by
 simp [lK,lD,nF,pC]
theorem stF {w:WS}{B C:List lE}{cs:List kM}{x:GF}(hc:cs.length=8):pU 8 (WH w (B++.cells cs::C)) (.ptr (B.length+3) 0) (.agg x.cells)=some (WH w (B++.cells x.cells::C)):=by
 have e:=WE (w:=w) (B:=B) (C:=C) (cs:=cs)
 simp only [pU,BT,e,D1,mY,af4,Fz,GF.q8,hc]
 rw [if_pos ⟨trivial,by omega,x.Ud⟩,RX,aBP hc,akI]
theorem ab9 {w:WS}(l:List GF) (hw:l.all o0=true) (h0:w.ln=0) (hl:l.length≤4611686018427387904) (hb:w.bs.length+(uM l l.length).length≤1099511627776) (hn:w.now+uF l l.length≤1000000000000000):∀i,i≤l.length →
  mI (Sc KK 3) ([.str [],.int .i64 0,.ptr 1 0,.slice (l.map GF.cells) .no,.int .i64 (l.length:Int),.int .i64 (i:Int)],WH (yE w l i) []) =
   some (.exit 2,[.str [],.int .i64 0,.ptr 1 0,.slice (l.map GF.cells) .no,.int .i64 (l.length:Int),.int .i64 (l.length:Int)],WH (yE w l l.length) []):=by
 refine tN (fun i:Nat=>([.str [],.int .i64 0,.ptr 1 0,.slice (l.map GF.cells) .no,.int .i64 (l.length:Int),.int .i64 (i:Int)],WH (yE w l i) [])) (fun i=>i≤l.length) (fun i=>l.length - i) _ fun i hi=>?_
 have htr:=fun w C=>oD (w:=w) (B:=[]) (C:=C) oC
 simp only [ah4,ad0,al6] at htr
 have q0:∀h o,kM.mO 3 h (.ptr 1 o)=.ptr 1 o:=fun h o=>lC (by omega)
 by_cases h:i < l.length
 ·left
  refine⟨i+1,?_,h,by omega,rfl⟩
  obtain⟨x,hx⟩:∃x,l[i]?=some x:=⟨l[i],ac0 h⟩
  have w1:=rV (a:=i) (by omega)
  have t1:=N5 hx
  have t2:=NY hx
  have t3:=U_ l (i+1)
  have t4:=ajV l (i+1)
  rw [t1,ac2] at t3
  rw [t2] at t4
  have hx1:o0 x=true:=ah1.1 hw x (af1 hx)
  have s2:Still [.cells x.cells,.front 0 0,.front 0 0]:=Fl (mM (mM oC))
  have hz:=ax8 (w:=yE w l i) (B:=[])
  have hst:=fun C cs (hc:aa0 cs=8)=>stF (w:=yE w l i) (B:=[]) (C:=C) (x:=x) hc
  have hld:=fun C=>aJ7 (w:=yE w l i) (B:=[]) (C:=C) (cs:=x.cells) (n:=8) (i:=0)
  have hbs:(yE w l i).bs=w.bs++uM l i:=by cases i <;> simp [yE,uM]
  have hnow:(yE w l i).now=w.now:=by cases i <;> simp [yE]
  have hln:(yE w l i).ln=0:=by cases i <;> simp [yE,h0]
  have e1:=c32 (w:=yE w l i) x hx1 hln s2 (by rw [hbs,ac2]; omega) (by rw [hnow]; omega)
  have hres:(yE w l i).st (vF x) (vB x) 0=yE w l (i+1):=by
   cases i with
   | zero =>
    have a1:uM l 0=[]:=rfl
    have a2:uF l 0=0:=rfl
    simp only [yE,t1,t2,a1,a2,ah4]
    exact WS.BD rfl (by omega) rfl
   | succ j =>
    simp only [yE,WS.akT,t1,t2]
    exact WS.BD rfl (by simp) rfl
  rw [hres] at e1
  simp only [ah4,ad0,al6] at hz hst hld
  simp -implicitDefEqProofs [Sc,h,abI hx,aAd,hz,hst,hld,e1,w1,kS,htr,q0,-ag1]
 ·right
  have:i=l.length:=by omega
  subst this
  have htr0:=fun w=>tB (w:=w) (B:=[]) oC
  simp only [ad0,al6] at htr0
  constructor
  ·simp -implicitDefEqProofs [Sc,kS,htr0,q0]
  ·simp
theorem c14 (l:List GF) (hs:∀f∈l,f.size≤4611686018427387904) (hl:l.length≤4611686018427387904) (hb:l.all o0=true→(uM l l.length).length≤1099511627776) (hn:l.all o0=true→uF l l.length≤1000000000000000) (h:kP) :
  KK 14 [.agg (oT l)] h=some (.ret (.tuple [.str (qE l).1,.int .i64 (qE l).2]),h):=by
 refine lA rfl (by simp [oT,kM.nP,kM.pE,qA]) (k9 (aAu _ _ _) ?_)
 have hnew:∀h,lK 1 h (.agg (oT l))=some (.ptr h.length 0,h++[.cells (oT l)]):=fun h=>by
  have:lD (h.length+1) (oT l)=(oT l,[]):=uO (by simp [oT,kM.isNil])
  simp [lK,this]; simp [oT,kM.mD]
 have ld:l_ false 1 [.cells (oT l)] (.ptr 0 0)=some (.slice (l.map GF.cells) .no):=rfl
 obtain⟨h1,h2⟩:=ab8 l hs hl
 unfold qE
 have ht:((l.map vF).flatten)=uM l l.length:=by simp [uM]
 have hnn:qJ (l.map vB)=uF l l.length:=by simp [uF]
 rw [ht,hnn]
 cases hw:l.all o0 with
 | false =>
  obtain⟨i,hi⟩:=h2 hw
  simp -implicitDefEqProofs [m14,hnew,ld,hi,kN]
 | true =>
  have hi:=h1 hw
  have e1:=ab9 (w:=WS.new (oT l) (y5 l)) l hw rfl hl (by simpa using hb hw) (by simpa using hn hw) 0 (ah9 _)
  obtain⟨H,e3⟩:=c33 (w:=yE (WS.new (oT l) (y5 l)) l l.length) (B:=[]) oC
  have ld2:l_ false 1 (WH (WS.new (oT l) (y5 l)) []) (.ptr 0 0)=some (.slice (l.map GF.cells) .no):=rfl
  have hov:(yE (WS.new (oT l) (y5 l)) l l.length).over=decide (64 < uF l l.length):=by
   cases hll:l.length with
   | zero=>rfl
   | succ j=>simp only [yE]; exact UZ _ _ _ _ _
  have hbs:(yE (WS.new (oT l) (y5 l)) l l.length).bs=uM l l.length:=by
   cases hll:l.length with
   | zero=>rfl
   | succ j=>simp [yE]
  have hp0:yE (WS.new (oT l) (y5 l)) l 0=WS.new (oT l) (y5 l):=rfl
  rw [hp0] at e1
  rw [hov,hbs] at e3
  simp only [Int.cast_ofNat_Int] at e1
  by_cases hd:64 < uF l l.length
  ·rw [decide_eq_true hd] at e3
   simp -implicitDefEqProofs at e3
   simp -implicitDefEqProofs [m14,hnew,ld,hi,asN,asO (oT l) (y5 l),ld2,nF,e1,e3,hd,kN]
  ·rw [decide_eq_false hd] at e3
   simp -implicitDefEqProofs at e3
   simp -implicitDefEqProofs [m14,hnew,ld,hi,asN,asO (oT l) (y5 l),ld2,nF,e1,e3,hd,kN]
end
section
open Go Hk

end
section
open Go Hk

end
section
open Go Hk

end
section
open Go Hk

end
section
open Go Hk

end
section
open Go Hk

end
section
open Go Hk

end
section
open Go Hk

end
section
open Go Hk

end
section
open Go Hk

end
section
open Go Hk

end
section
open Go Hk

end
section
open Go Hk
mutual
def wE:GE→Nat
 | .mk _ _ _ name args=>name.length+60+F4 args
def F4:List GE→Nat
 | []=>0
 | x::r=>wE x+4+F4 r
end
mutual
def wS:GS→Nat
 | .mk _ _ _ name _ args body els _=>name.length+120+F4 args+F5 body+F5 els
def F5:List GS→Nat
 | []=>0
 | x::r=>wS x+4+F5 r
end
mutual
def dS:GS→Nat
 | .mk _ _ _ _ _ _ body els _=>1+max (FA body) (FA els)
def FA:List GS→Nat
 | []=>0
 | x::r=>max (dS x) (FA r)
end
def wP (p:GP):Nat:=p.name.length+60
def VO:List GP→Nat
 | []=>0
 | p::r=>wP p+4+VO r
def wF (f:GF):Nat:=f.name.length+120+VO f.params+F5 f.body
def J5:List GF→Nat
 | []=>0
 | f::r=>wF f+J5 r
theorem adD (k:Int):(qG k).length≤6:=by
 unfold qG
 cases h:(([[],[],[],[],[],[126],[45],[33],[43],[45],[42],[38],[124],[94],[60,60],[62,62],[114,111,114],[61,61],[33,61],[60],[60,61],[62],[62,61],
 [109,117,108,104,105],[99,97,114,114,121],[115,101,108,101,99,116],[119,111,114,100]]:List (List UInt8))[k.toNat]?) with
 | none=>simp
 | some s =>
  have hm:=af1 h
  have key:∀s∈([[],[],[],[],[],[126],[45],[33],[43],[45],[42],[38],[124],[94],[60,60],[62,62],[114,111,114],[61,61],[33,61],[60],[60,61],[62],[62,61],
   [109,117,108,104,105],[99,97,114,114,121],[115,101,108,101,99,116],[119,111,114,100]]:List (List UInt8)),s.length≤6:=by decide
  exact key s hm
def pw (l:List Part):Nat:=match l with
 | []=>0
 | p::r=>p.2.1.length+4+pw r
def pd (l:List Part):Nat:=match l with
 | []=>0
 | p::r=>p.2.2+4+pd r
theorem akH:∀l:List Part,(vN l).length≤pw l
 | []=>by simp [vN,pw]
 | [p]=>by simp only [vN,pw]; omega
 | p::q::r=>by
  have:=akH (q::r)
  simp only [vN,ac2,ac8,pw] at this ⊢
  omega
theorem ai3:∀l:List Part,wJ l≤pd l
 | []=>by simp [wJ,pd]
 | p::r=>by
  have:=ai3 r
  simp only [wJ,pd]
  omega
theorem LK (b:Bool) (p:Part):(uE b p).length≤p.2.1.length+2:=by
 cases b <;> simp [uE]
theorem LJ (b:Bool) (p:Part):sX b p≤p.2.2+1:=by
 cases b <;> simp [sX]
theorem asV (k n:Int) (name:List UInt8) (l:List Part) (hn:n < 9223372036854775808):(yY k n name l).length≤name.length+60+pw l:=by
 have h1:=adD k
 have h2:=DM hn
 have h3:=akH l
 unfold yY
 split
 ·match l with
  | []=>simp
  | [a] =>
   have:=LK (mX (lJ k) a.1) a
   simp only [ac2,ac8,pw]
   omega
  | a::b::r =>
   have:=LK (mX (lJ k) a.1) a
   have:=LK (decide (lJ k < lJ b.1)) b
   simp only [ac2,ac8,pw]
   omega
 ·split
  ·omega
  ·split
   ·omega
   ·split
    ·match l with
     | []=>simp
     | a::r=>simp only [ac2,ac8,ad0,pw]; omega
    ·split
     ·match l with
      | []=>simp
      | a::r =>
       have:=LK (decide (lJ a.1=8)) a
       simp only [ac2,pw]
       omega
     ·split <;> simp only [ac2,ac8,ad0] <;> omega
theorem asU (k:Int) (l:List Part):yM k l≤60+pd l:=by
 have h3:=ai3 l
 unfold yM
 split
 ·match l with
  | []=>simp
  | [a] =>
   have:=LJ (mX (lJ k) a.1) a
   simp only [pd]
   omega
  | a::b::r =>
   have:=LJ (mX (lJ k) a.1) a
   have:=LJ (decide (lJ k < lJ b.1)) b
   simp only [pd]
   omega
 ·split
  ·omega
  ·split
   ·match l with
    | []=>simp
    | a::r=>simp only [pd]; omega
   ·split
    ·match l with
     | []=>simp
     | a::r =>
      have:=LJ (decide (lJ a.1=8)) a
      simp only [pd]
      omega
    ·omega
mutual
theorem LS:∀x:GE,nU x=true→(lW x).2.1.length≤wE x∧(lW x).2.2≤wE x
 | .mk k p n name args,h=>by
  simp only [nU,ad2] at h
  have hn:n < 9223372036854775808:=by
   have h1:=h.1
   unfold rL at h1
   split at h1
   ·cases h1
   ·simp only [ad2] at h1
    have h2:=h1.2
    unfold k_ at h2
    split at h2
    ·have:=vD.1 h2; omega
    ·have:n=0:=by simpa using h2
     omega
  obtain⟨h1,h2⟩:=VG args h.2
  have h3:=asV k n name (yC args) hn
  have h4:=asU k (yC args)
  simp only [lW,wE]
  exact⟨by omega,by omega⟩
theorem VG:∀l:List GE,nH l=true→pw (yC l)≤F4 l∧pd (yC l)≤F4 l
 | [],_=>by simp [yC,pw,pd,F4]
 | x::r,h=>by
  simp only [nH,ad2] at h
  obtain⟨h1,h2⟩:=LS x h.1
  obtain⟨h3,h4⟩:=VG r h.2
  simp only [yC,pw,pd,F4]
  exact⟨by omega,by omega⟩
end
theorem S7 {x:GE}:∀{l:List GE},x∈l→wE x≤F4 l
 | y::r,h=>by
  simp only [F4]
  cases h with
  | head=>omega
  | tail _ h=>have:=S7 h; omega
theorem Jc {t:GT}(h:sK t=true):(wK t).length≤26:=by
 have hlen:0≤t.len∧t.len≤4294967295:=by
  simp only [sK,ad2] at h
  exact vD.1 h.1.2
 have:=DM (n:=t.len) (by omega)
 unfold wK
 rw [ac2]
 have a:(if t.elem=1 then [109,97,115,107] else if t.elem=2 then [117,56] else [117,51,50]:List UInt8).length≤4:=by
  split
  ·simp
  ·split <;> simp
 have b:(if 0 < t.len then 91::(vJ t.len++[93]) else []:List UInt8).length≤22:=by
  split
  ·simp; omega
  ·simp
 omega
def tw (l:List (List UInt8)):Nat:=match l with
 | []=>0
 | p::r=>p.length+tw r
theorem MI (n:Nat) (l:List (List UInt8)):(oH n l).length=4+n+(tw l+l.length * (n+2)):=by
  unfold oH
  simp only [ac8,ac2,ad0,tE]
  have key:∀l:List (List UInt8),((l.map fun t=>qB (n+1)++t++[10]).flatten).length=tw l+l.length * (n+2):=by
   intro l
   induction l with
   | nil=>simp [tw]
   | cons x r ih =>
    simp only [aj2,List.flatten_cons,ac2,ac8,ad0,tE,ih,tw,al4]
    omega
  have:=key l
  omega
theorem Wj {args:List GE}{i:Nat}(h:nH args=true):(((args.map mE)[i]?).getD []).length≤F4 args∧((args.map mA)[i]?).getD 0≤F4 args:=by
 rw [ai1,ai1]
 cases hi:args[i]? with
 | none=>simp
 | some a =>
  have hm:=af1 hi
  have hw:nU a=true:=by
   rw [wG,ah1] at h
   exact h a hm
  have h1:=LS a hw
  have h2:=S7 hm
  simp only [Option.map_some,Option.getD_some]
  exact⟨by show(lW a).2.1.length≤_; omega,by show(lW a).2.2≤_; omega⟩
theorem Yp {args:List GE}(h:nH args=true):(((args.map mE)[0]?).getD []).length+(((args.map mE)[1]?).getD []).length≤F4 args∧((args.map mA)[0]?).getD 0≤F4 args∧((args.map mA)[1]?).getD 0≤F4 args:=by
 refine⟨?_,(Wj h).2,(Wj h).2⟩
 match args with
 | []=>simp
 | [a]=>exact(Wj (i:=0) h).1
 | a::b::r =>
  simp only [nH,ad2] at h
  have h1:=LS a h.1
  have h2:=LS b h.2.1
  simp only [aj2,List.getElem?_cons_zero,List.getElem?_cons_succ,Option.getD_some,F4]
  show(lW a).2.1.length+(lW b).2.1.length≤_
  omega
theorem at3 {k m:Int}{name:List UInt8}{ty:GT}{args:List GE}{body els:List UInt8}{has:Bool}{nb ne:Nat}(hn:lR k m name ty args nb ne has=true) :
  (Cw k m name ty (args.map mE) body els has).length≤name.length+110+F4 args+body.length+els.length:=by
 have hk:=Co hn
 unfold lR at hn
 split at hn
 ·cases hn
 ·simp only [ad2] at hn
  have hwe:nH args=true:=by simp_all
  obtain⟨a1,a2,a3⟩:=Yp hwe
  have hm:(vJ m).length≤20:=by
   have hm:k_ m (k == 6)=true:=by simp_all
   refine DM ?_
   unfold k_ at hm
   split at hm
   ·have:=vD.1 hm; omega
   ·have:m=0:=by simpa using hm
    omega
  have hl:(oV ty.label).length=4:=by unfold oV; split <;> rfl
  unfold Cw
  generalize ((args.map mE)[0]?).getD []=A at a1 ⊢
  generalize ((args.map mE)[1]?).getD []=D at a1 ⊢
  split
  ·simp only [ac2,ac8,ad0]; omega
  ·split
   ·rename_i h2
    have ht:sK ty=true:=by
     have h3:(if (k == 2)=true then sK ty else ty == GT.zero)=true:=by simp_all
     rw [if_pos (by simpa using h2)] at h3
     exact h3
    have:=Jc ht
    simp only [ac2,ac8,ad0,hl]; omega
   ·split
    ·simp only [ac2,ac8,ad0]; omega
    ·split
     ·simp only [ac2,ac8,ad0]; omega
     ·split
      ·have:(if has=true then [32,101,108,115,101]++els else []:List UInt8).length≤5+els.length:=by
        split
        ·simp; omega
        ·simp
       simp only [ac2,ac8,ad0]; omega
      ·split
       ·simp only [ac2,ac8,ad0]; omega
       ·split
        ·simp only [ac2,ac8,ad0]; omega
        ·simp only [ac2,ac8,ad0]; omega
theorem at2 {k:Int}{args:List GE}{b e:Nat}{has:Bool}(hwe:nH args=true):ZR k (args.map mA) b e has≤1+F4 args+b+e:=by
 obtain⟨a1,a2,a3⟩:=Yp hwe
 unfold ZR
 dsimp only
 generalize ((args.map mA)[0]?).getD 0=A at a2 ⊢
 generalize ((args.map mA)[1]?).getD 0=D at a3 ⊢
 split
 ·omega
 ·split
  ·omega
  ·split
   ·split <;> omega
   ·split <;> omega
theorem G_ (n:Nat):∀l:List GS,(oF n l).length=l.length
 | []=>rfl
 | x::r=>by simp [oF,G_ n r]
mutual
theorem auA:∀(x:GS) (n T:Nat),pX x=true→n+dS x≤T→(qI n x).length≤wS x * (T+1)
 | .mk k p m name ty args body els has,n,T,h,hd=>by
  simp only [pX,ad2] at h
  simp only [dS] at hd
  have h1:=at3 (body:=oH n (oF (n+1) body)) (els:=oH n (oF (n+1) els)) h.1.1
  have h2:=Iy body (n+1) T h.1.2 (by omega)
  have h3:=Iy els (n+1) T h.2 (by omega)
  have e1:=MI n (oF (n+1) body)
  have e2:=MI n (oF (n+1) els)
  rw [G_] at e1 e2
  have m1:body.length * (n+2)≤body.length * (T+1):=Nat.mul_le_mul_left _ (by omega)
  have m2:els.length * (n+2)≤els.length * (T+1):=Nat.mul_le_mul_left _ (by omega)
  have b1:(oH n (oF (n+1) body)).length≤4+n+F5 body * (T+1):=by omega
  have b2:(oH n (oF (n+1) els)).length≤4+n+F5 els * (T+1):=by omega
  simp only [qI,wS]
  have hT:name.length+110+F4 args≤(name.length+110+F4 args) * (T+1):=Nat.le_mul_of_pos_right _ (by omega)
  have h10:8+2 * n≤10 * (T+1):=by omega
  have:(name.length+120+F4 args+F5 body+F5 els) * (T+1)=(name.length+110+F4 args) * (T+1)+10 * (T+1)+F5 body * (T+1)+F5 els * (T+1):=by
   simp only [al4]; omega
  rw [this]
  omega
theorem Iy:∀(l:List GS) (n T:Nat),nW l=true→n+FA l≤T→tw (oF n l)+l.length * (T+1)≤F5 l * (T+1)
 | [],_,_,_,_=>by simp [oF,tw,F5]
 | x::r,n,T,h,hd=>by
  simp only [nW,ad2] at h
  simp only [FA] at hd
  have h1:=auA x n T h.1 (by omega)
  have h2:=Iy r n T h.2 (by omega)
  simp only [oF,tw,F5,ac8,al4] at h2 ⊢
  omega
end
mutual
theorem asM:∀(x:GS),pX x=true→qT x≤wS x
 | .mk k p m name ty args body els has,h=>by
  simp only [pX,ad2] at h
  have hwe:nH args=true:=by
   have hn:=h.1.1
   unfold lR at hn
   split at hn
   ·cases hn
   ·simp_all
  have h1:=at2 (k:=k) (b:=qJ (nX body)+1) (e:=qJ (nX els)+1) (has:=has) hwe
  have h2:=H9 body h.1.2
  have h3:=H9 els h.2
  simp only [qT,wS]
  omega
theorem H9:∀(l:List GS),nW l=true→qJ (nX l)≤F5 l
 | [],_=>by simp [nX,qJ]
 | x::r,h=>by
  simp only [nW,ad2] at h
  have h1:=asM x h.1
  have h2:=H9 r h.2
  simp only [nX,qJ,F5]
  omega
end
theorem U5 {p:GP}(h:uV p=true):(qK p).length≤wP p:=by
 simp only [uV,ad2] at h
 have h1:=Jc h.2
 have hl:(oV p.ty.label).length=4:=by unfold oV; split <;> rfl
 have ho:(if p.out=true then [111,117,116,32] else []:List UInt8).length≤4:=by split <;> simp
 simp only [qK,ac2,ac8,ad0,hl,wP]
 omega
theorem akG:∀{l:List GP},l.all uV=true→(xC (l.map qK)).length≤VO l
 | [],_=>by simp [xC]
 | [p],h=>by
  simp only [List.all_cons,List.all_nil,Bool.and_true] at h
  have:=U5 h
  simp only [aj2,List.map_nil,xC,VO]
  omega
 | p::q::r,h=>by
  have hp:uV p=true:=by simp_all
  have hr:(q::r).all uV=true:=by simp_all
  have h1:=U5 hp
  have h2:=akG hr
  simp only [aj2,xC,ac2,ac8,VO] at h2 ⊢
  omega
theorem at7 {f:GF}{T:Nat}(h:o0 f=true) (hd:1+FA f.body≤T):(vF f).length≤wF f * (T+1)∧vB f≤wF f:=by
 simp only [o0,ad2] at h
 obtain⟨⟨⟨_,hb⟩,hp⟩,hr⟩:=h
 have h1:=akG hp
 have h2:=Iy f.body 1 T hb hd
 have h3:=MI 0 (oF 1 f.body)
 have h4:=H9 f.body hb
 rw [G_] at h3
 have m1:f.body.length * (0+2)≤f.body.length * (T+1):=Nat.mul_le_mul_left _ (by omega)
 have hl:(oV f.result.label).length=4:=by unfold oV; split <;> rfl
 have hres:(if f.has=true then [58,32]++oV f.result.label++wK f.result else []:List UInt8).length≤40:=by
  split
  ·rename_i hh
   rw [if_pos hh] at hr
   simp only [ad2] at hr
   have:=Jc hr.1.1
   simp only [ac2,ac8,ad0,hl]
   omega
  ·simp
 refine⟨?_,by simp only [vB,wF]; omega⟩
 have e:(vF f).length≤f.name.length+70+VO f.params+(oH 0 (oF 1 f.body)).length:=by
  simp only [vF,ac2,ac8,ad0]
  omega
 have hT:f.name.length+120+VO f.params≤(f.name.length+120+VO f.params) * (T+1):=Nat.le_mul_of_pos_right _ (by omega)
 have:wF f * (T+1)=(f.name.length+120+VO f.params) * (T+1)+F5 f.body * (T+1):=by simp only [wF,al4]
 omega
end
section
open Go Hk
structure wI where
 at_:Int
 field:Int
 num:Int
 name:List UInt8
def wI.cells (c:wI):List kM:=[.int .i64 c.at_,.int .i64 c.field,.int .i64 c.num,.str c.name]
end
end Go.Proofs.YtlddmnojanpdoaaGreatDoor
