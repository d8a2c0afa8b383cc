/-
  The texts SG.H, SG.I, SG.J, SG.K, SG.N, SG.O, SG.Q, SG.R, SG.S, SG.T, SG.U, SG.V, SG.W, SG.X, SG.X1, SG.X2, SG.X3, SG.X5, one behind another. No conditions.
-/
import Derived.Test.YtlddmnojanpdoaaGreatDoorPSga1
import Derived.Test.YtlddmnojanpdoaaGreatDoorPLg1
set_option linter.unusedVariables false
set_option linter.unusedSimpArgs false
set_option linter.all false
open Int renaming cast_ofNat_Int → ac7, natCast_add → ag1
open List renaming append_assoc → af9, cons_append → af2, getElem?_append_right → ac9, getElem?_eq_some_iff → ab1, length_append → ac2, length_cons → ac8, length_map → al0, length_nil → ad0, length_take → ak8, map_cons → aj2, map_nil → al1, nil_append → ah4
open Nat renaming le_refl → ac5, zero_le → ah9
open Option renaming bind_eq_some_iff → aa2, bind_some → af4, map_eq_some_iff → ac6
open Option.some renaming injEq → ab0
namespace Go.Proofs.YtlddmnojanpdoaaGreatDoor
section
open Go Hk
def De (n:Nat) (C:List lE):Prop:=∀m h,n≤m→nK m h C=some C
def B_ (n:Nat) (cs:List kM):Prop:=∀m h,n≤m→nI m h cs=some cs
section
variable {n:Nat}
theorem De.mono {k:Nat}{C:List lE}(h:De n C) (hk:n≤k):De k C:=fun m x hm=>h m x (Nat.le_trans hk hm)
theorem sN {m:Nat}{h:kP}:∀{B C:List lE},nK m h B=some B→nK m h C=some C→nK m h (B++C)=some (B++C)
 | [],_,_,h2=>h2
 | b::r,C,h1,h2=>by
  simp only [nK] at h1
  split at h1
  ·rename_i b' r' e1 e2
   simp only [ab0,List.cons.injEq] at h1
   obtain⟨rfl,rfl⟩:=h1
   simp only [af2,nK,e1,sN e2 h2]
  ·cases h1
theorem Fu {B C:List lE}(h1:De n B) (h2:De n C):De n (B++C):=fun m h hm=>sN (h1 m h hm) (h2 m h hm)
theorem DW:De n []:=fun _ _ _=>rfl
theorem aaC {i j:Nat}{C:List lE}(h:De n C):De n (.front i j::C):=fun m x hm=>by simp [h m x hm]
theorem IJ {cs:List kM}{C:List lE}(h1:B_ n cs) (h:De n C):De n (.cells cs::C):=fun m x hm=>by simp [h m x hm,h1 m x hm]
theorem QZ:B_ n []:=fun _ _ _=>rfl
end
section
variable {n:Nat}
theorem O4 {i j:Nat}{C:List lE}:De n (.front i j::C)↔De n C:=⟨fun h m x hm=>by
 have:=h m x hm
 simp only [oM,SL,af4,ac6] at this
 obtain⟨r,h1,h2⟩:=this
 cases h2; exact h1,aaC⟩
theorem Q2 {C:List lE}:De n (.gone::C)↔De n C:=⟨fun h m x hm=>by
 have:=h m x hm
 have e:pF m x .gone=some .gone:=rfl
 simp only [oM,e,af4,ac6] at this
 obtain⟨r,h1,h2⟩:=this
 cases h2; exact h1,fun h m x hm=>by
 have e:pF m x .gone=some .gone:=rfl
 simp only [oM,e,af4,h m x hm,Option.map_some]⟩
theorem Df {cs:List kM}{C:List lE}:De n (.cells cs::C)↔B_ n cs∧De n C:=⟨fun h=>by
 have key:∀m x,n≤m→nI m x cs=some cs∧nK m x C=some C:=fun m x hm=>by
  have:=h m x hm
  simp only [oM,Io,aa2,ac6] at this
  obtain⟨b,⟨c,h1,h2⟩,r,h3,h4⟩:=this
  cases h2; cases h4; exact⟨h1,h3⟩
 exact⟨fun m x hm=>(key m x hm).1,fun m x hm=>(key m x hm).2⟩,fun h=>IJ h.1 h.2⟩
theorem CO {v:kM}{cs:List kM}(hv:∀m x,n≤m→v.mO m x=v) (hc:v.mD=true):B_ n (v::cs)↔B_ n cs:=by
 constructor
 ·intro h m x hm
  have:=h m x hm
  simp only [tK,hv m x hm,hc,cond_true,ac6] at this
  obtain⟨r,h1,h2⟩:=this
  cases h2; exact h1
 ·intro h m x hm
  simp only [tK,hv m x hm,hc,cond_true,h m x hm,Option.map_some]
theorem Ti {k:IntKind}{z:Int}{cs:List kM}:B_ n (.int k z::cs)↔B_ n cs:=CO (fun _ _ _=>rfl) rfl
theorem Tl {z:List UInt8}{cs:List kM}:B_ n (.str z::cs)↔B_ n cs:=CO (fun _ _ _=>rfl) rfl
theorem QY {z:Bool}{cs:List kM}:B_ n (.bool z::cs)↔B_ n cs:=CO (fun _ _ _=>rfl) rfl
theorem O3 {rows:List (List kM)}{cs:List kM}:B_ n (.slice rows .no::cs)↔B_ n cs:=CO (fun _ _ _=>rfl) rfl
theorem Tj {rows:List (List kM)}{id:Nat}{cs:List kM}:B_ n (.slice rows (.own id)::cs)↔id < n∧B_ n cs:=by
 have key:∀hi:id < n,B_ n (.slice rows (.own id)::cs)↔B_ n cs:=fun hi=>CO (fun m x hm=>by
  have:id < m:=by omega
  simp [this]) rfl
 constructor
 ·intro h
  have hi:id < n:=by
   have:=h n [] (ac5 _)
   by_cases hi:id < n
   ·exact hi
   ·exfalso
    simp only [tK,Vm,decide_eq_false hi,cond_false,Rp,cond_true,ac6] at this
    obtain⟨r,h1,h2⟩:=this
    cases h2
  exact⟨hi,(key hi).1 h⟩
 ·rintro⟨hi,h⟩
  exact(key hi).2 h
theorem Tk {id o:Nat}{cs:List kM}:B_ n (.ptr id o::cs)↔id < n∧B_ n cs:=by
 have key:∀hi:id < n,B_ n (.ptr id o::cs)↔B_ n cs:=fun hi=>CO (fun m x hm=>by
  have:id < m:=by omega
  simp [lC this]) rfl
 constructor
 ·intro h
  have hi:id < n:=by
   have:=h n [] (ac5 _)
   by_cases hi:id < n
   ·exact hi
   ·exfalso
    have e:(kM.ptr id o).mO n []=.junk:=by simp [kM.mO,hi]
    simp [tK,e,kM.mD] at this
  exact⟨hi,(key hi).1 h⟩
 ·rintro⟨hi,h⟩
  exact(key hi).2 h
end
def HQ (A:List lE) (L:List Token) (a d:Nat) (B:List lE):kP:=A++PB L a d::B
def HN (A B:List lE):Nat:=A.length+1+B.length
structure KB (A B:List lE):Prop where
 a:∀n,HN A B≤n→De n A
 b:∀n,HN A B≤n→De n B
section
variable {A B C:List lE}{L:List Token}{a d k:Nat}
theorem Dd:HN A (B++C)=HN A B+C.length:=by simp [HN]; omega
theorem KB.app (h:KB A B) (hC:De (HN A B+C.length) C):KB A (B++C):=by
 refine⟨fun n hn=>?_,fun n hn=>?_⟩
 ·rw [Dd] at hn
  exact(h.a (HN A B) (ac5 _)).mono (by omega)
 ·rw [Dd] at hn
  exact Fu ((h.b (HN A B) (ac5 _)).mono (by omega)) (hC.mono hn)
theorem L5:HQ A L a d B++C=HQ A L a d (B++C):=by simp [HQ]
theorem II:(HQ A L a d B).length=HN A B:=by simp [HQ,HN]; omega
theorem aIC:mY (HQ A L a d B) A.length=some [.slice (L.map Token.cells) .no,.int .i64 (a:Int),.int .i64 (d:Int)]:=by simp [HQ,mY,PB]
theorem aeB:mY (HQ A L a d (B++C)) (HN A B+k)=mY C k:=by
 unfold mY HQ HN
 rw [ac9 (by omega),show A.length+1+B.length+k - A.length=B.length+k+1 by omega,List.getElem?_cons_succ,ac9 (by omega),show B.length+k - B.length=k by omega]
theorem am0:mY (HQ A L a d (B++C)) (HN A B)=mY C 0:=aeB (k:=0)
theorem L6:(HQ A L a d (B++C))[HN A B+k]?=C[k]?:=by
 unfold HQ HN
 rw [ac9 (by omega),show A.length+1+B.length+k - A.length=B.length+k+1 by omega,List.getElem?_cons_succ,ac9 (by omega),show B.length+k - B.length=k by omega]
theorem Ts:qL (HQ A L a d (B++C)) (HN A B+k)=qL C k:=by unfold qL; rw [L6]
theorem L7 {x:lE}:List.set (HQ A L a d (B++C)) (HN A B+k) x=HQ A L a d (B++C.set k x):=by
 unfold HQ HN
 rw [List.set_append_right _ _ (by omega),show A.length+1+B.length+k - A.length=B.length+k+1 by omega,List.set_cons_succ,List.set_append_right _ _ (by omega),show B.length+k - B.length=k by omega]
theorem am1 {x:lE}:List.set (HQ A L a d (B++C)) (HN A B) x=HQ A L a d (B++C.set 0 x):=L7 (k:=0)
theorem Ya:List.set (HQ A L a d B) A.length (.cells [.slice (L.map Token.cells) .no,.int .i64 ((a:Int)+1),.int .i64 (d:Int)])=HQ A L (a+1) d B:=by
 unfold HQ; rw [List.set_append_right _ _ (ac5 _),Nat.sub_self]; rfl
theorem Q1 {d':Nat}:List.set (HQ A L a d B) A.length (.cells [.slice (L.map Token.cells) .no,.int .i64 (a:Int),.int .i64 (d':Int)])=HQ A L a d' B:=by
 unfold HQ; rw [List.set_append_right _ _ (ac5 _),Nat.sub_self]; rfl
theorem Tr:List.set (HQ A L a d B) A.length (.cells [.slice (L.map Token.cells) .no,.int .i64 (a:Int),.int .i64 ((d:Int)+1)])=HQ A L a (d+1) B:=Q1 (d':=d+1)
theorem Tt:oB (HQ A L a d (B++C)) (HN A B+k)=HQ A L a d (B++oB C k):=by
 unfold oB
 rw [L6]
 cases C[k]? with
 | none=>rfl
 | some b=>cases b <;> first | rfl | exact L7
theorem aaB:oB (HQ A L a d (B++C)) (HN A B)=HQ A L a d (B++oB C 0):=Tt (k:=0)
theorem L9 {a' d':Nat}{C':List lE}:mL (HQ A L a d (B++C)) (HQ A L a' d' (B++C')) (HN A B+k)=HQ A L a' d' (B++mL C C' k):=by
 unfold mL
 rw [L6]
 cases C[k]? with
 | none=>rfl
 | some b=>cases b <;> first | rfl | exact L7
theorem Tu {a' d':Nat}{C':List lE}:mL (HQ A L a d (B++C)) (HQ A L a' d' (B++C')) (HN A B)=HQ A L a' d' (B++mL C C' 0):=L9 (k:=0)
theorem Uv {cs:List kM}{C:List lE}:oB (.cells cs::C) 0=.gone::C:=(rfl)
theorem WL {C:List lE}:oB (.gone::C) 0=.gone::C:=(rfl)
theorem WM {b:lE}{C:List lE}{k:Nat}:oB (b::C) (k+1)=b::oB C k:=by
 unfold oB
 simp only [List.getElem?_cons_succ]
 cases C[k]? with
 | none=>rfl
 | some b=>cases b <;> rfl
theorem PI {cs:List kM}{b:lE}{C C':List lE}:mL (.cells cs::C) (b::C') 0=.cells cs::C':=(rfl)
theorem S5 {b b':lE}{C C':List lE}{k:Nat}:mL (b::C) (b'::C') (k+1)=b'::mL C C' k:=by
 unfold mL
 simp only [List.getElem?_cons_succ]
 cases C[k]? with
 | none=>rfl
 | some b=>cases b <;> rfl
theorem ahB {h:kP}:nL [] h=h:=(rfl)
theorem abK {h:kP}{i:Nat}{ids:List Nat}:nL (i::ids) h=nL ids (oB h i):=(rfl)
theorem XR {h h':kP}:lP [] h h'=h':=(rfl)
theorem VN {h h':kP}{i:Nat}{ids:List Nat}:lP (i::ids) h h'=lP ids h (mL h h' i):=(rfl)
theorem Wf {i o:Nat}:pK (.ptr i o)=some i:=(rfl)
theorem TV {cs:List kM}:pK (.pptr cs)=none:=(rfl)
theorem ad8 {d':Nat}:List.set (HQ A L (a+1) d B) A.length (.cells [.slice (L.map Token.cells) .no,.int .i64 ((a:Int)+1),.int .i64 (d':Int)])=HQ A L (a+1) d' B:=Q1 (a:=a+1)
theorem Z_:List.set (HQ A L (a+1) d B) A.length (.cells [.slice (L.map Token.cells) .no,.int .i64 ((a:Int)+1),.int .i64 ((d:Int)+1)])=HQ A L (a+1) (d+1) B:=Tr (a:=a+1)
theorem He (h:KB A B):l9 (HN A B) (HQ A L a d (B++C))=some (HQ A L a d B):=by
 have e:HQ A L a d (B++C)=HQ A L a d B++C:=L5.symm
 unfold Hk.l9
 rw [e,←II (L:=L) (a:=a) (d:=d),List.take_left,II]
 exact sN (h.a _ (ac5 _) _ _ (ac5 _)) (by
  have:pF (HN A B) (HQ A L a d B++C) (PB L a d)=some (PB L a d):=rfl
  simp only [nK,this,h.b _ (ac5 _) _ _ (ac5 _)])
theorem PJ (h:KB A B):l9 (HN A B) (HQ A L a d B)=some (HQ A L a d B):=by
 have:=He (L:=L) (a:=a) (d:=d) (C:=[]) h
 rwa [List.append_nil] at this
theorem amZ {v:kM}(h:KB A B):lY (HN A B) v (HQ A L a d (B++C))=some (.ret (v.vM (HN A B) (HQ A L a d (B++C))).mV,HQ A L a d B):=by simp [lY,He h]
theorem amY {v:kM}(h:KB A B):rE (HN A B) v (HQ A L a d (B++C))=some (.pan (v.vM (HN A B) (HQ A L a d (B++C))).mV,HQ A L a d B):=by simp [rE,He h]
theorem aeA {v:kM}(h:KB A B):lY (HN A B) v (HQ A L a d B)=some (.ret (v.vM (HN A B) (HQ A L a d B)).mV,HQ A L a d B):=by simp [lY,PJ h]
theorem ad9 {v:kM}(h:KB A B):rE (HN A B) v (HQ A L a d B)=some (.pan (v.vM (HN A B) (HQ A L a d B)).mV,HQ A L a d B):=by simp [rE,PJ h]
end
def Out.res {α:Type}(enc:α→kM) (A:List lE) (L:List Token) (B:List lE):Out α→vG×kP
 | .ok v a d=>(.ret (enc v),HQ A L a d B)
 | .bad e p a d=>(.pan (p9 e p),HQ A L a d B)
section
variable {α:Type}{enc:α→kM}{A B:List lE}{L:List Token}{a d e p:Nat}{v:α}
theorem aj5:(Out.ok v a d).res enc A L B=(.ret (enc v),HQ A L a d B):=rfl
theorem atE:(Out.bad e p a d:Out α).res enc A L B=(.pan (p9 e p),HQ A L a d B):=rfl
end
def qP (L:List Token) (dk:Nat→Prop) (f:Nat) (args:List kM) {α:Type}(enc:α→kM) (x:PM α):Prop :=
 ∀A B a d,a < L.length→dk d→KB A B→KK f (.ptr A.length 0::args) (HQ A L a d B)=some ((x a d).res enc A L B)
def tQ:Unit→kM:=fun _=>.tuple []
def IZ:Bool→kM:=.bool
def zG:Token→kM:=fun t=>.agg t.cells
def Px:Nat→kM:=fun n=>.int .i64 (n:Int)
section
variable {L:List Token}(hL:L.length≤131072)
attribute [simp] Tt aaB L9 Tu Uv WL WM PI S5 ahB abK XR VN Wf TV kY
attribute [simp] Ts Dd II L5 aeB am0 L6 L7 am1 aIC Ya Q1 Tr ad8 Z_ amZ amY aeA ad9 aj5 atE
attribute [simp] KB.app DW O4 Q2 Df QZ Ti Tl QY O3 Tj Tk
attribute [simp] lK lD putCells auC ak5 auD ahM SY lS sP apart
theorem aCB {L:List Token}{a:Nat}{h:a < L.length}:L[a]'h=tk L a:=by simp [tk,h]
attribute [simp] aCB
theorem rS {a:Nat}(h:a≤9223372036854775806):IntKind.wrap .i64 ((a:Int)+1)=(a:Int)+1:=by rw [wrap64] <;> omega
theorem wrapN {a:Nat}(h:a≤9223372036854775807):IntKind.wrap .i64 (a:Int)=(a:Int):=by rw [wrap64] <;> omega
theorem d76:qP L (fun _=>True) 51 [] zG (oQ L):=by
 intro A B a d ha hd hB
 refine k9 (aA5 _ _ _) ?_
 simp -implicitDefEqProofs [m51,ha,hB,oQ,zG]
theorem d178 (w:List UInt8):qP L (fun _=>True) 150 [.str w] IZ (GZ L w):=by
 intro A B a d ha hd hB
 refine k9 (aq6 _ _ _ _) ?_
 have h76:=d76 (L:=L)
 unfold qP at h76
 simp -implicitDefEqProofs [aFq,ha,hB,h76,oQ,GZ,IZ,zG]
 generalize tk L a=t
 obtain⟨k,p,q,x⟩:=t
 by_cases h1:k=3
 ·subst h1
  by_cases h3:x=w <;> simp -implicitDefEqProofs [Token.cells,ha,hB,isS,h3]
 ·have h1':¬(k:Int)=3:=by omega
  by_cases h2:k=4
  ·subst h2
   by_cases h3:x=w <;> simp -implicitDefEqProofs [Token.cells,ha,hB,isS,h3]
  ·have h2':¬(k:Int)=4:=by omega
   simp -implicitDefEqProofs [Token.cells,ha,hB,isS,h1,h1',h2,h2']
include hL
theorem d143 (w:List UInt8):qP L (fun _=>True) 107 [.str w] IZ (pM L w):=by
 intro A B a d ha hd hB
 refine k9 (aqC _ _ _ _) ?_
 have h178:=d178 (L:=L)
 unfold qP at h178
 have w1:=rS (a:=a) (by omega)
 cases hs:isS (tk L a) w <;> simp -implicitDefEqProofs [aFf,ha,hB,h178,pM,GZ,IZ,hs,w1]
omit hL in
theorem d179 (e:Nat) {α:Type}{enc:α→kM}:qP L (fun _=>True) 151 [.int .i64 (e:Int)] enc (w_ L e):=by
 intro A B a d ha hd hB
 refine k9 (aq7 _ _ _ _) ?_
 have h76:=d76 (L:=L)
 unfold qP at h76
 simp -implicitDefEqProofs [aFr,ha,hB,h76,oQ,w_,zG,Token.cells,EM,p9,uX]
theorem d138 (w:List UInt8):qP L (fun _=>True) 102 [.str w] tQ (oR L w):=by
 intro A B a d ha hd hB
 refine k9 (ap7 _ _ _ _) ?_
 have h178:=d178 (L:=L)
 have h179:=d179 (L:=L) 10 (enc:=tQ)
 unfold qP at h178 h179
 have w1:=rS (a:=a) (by omega)
 simp only [ac7] at h179
 cases hs:isS (tk L a) w <;> simp -implicitDefEqProofs [aFb,ha,hB,h178,h179,oR,GZ,w_,tQ,IZ,hs,w1,p9,uX]
theorem d139 (k:Nat):qP L (fun _=>True) 103 [.int .i64 (k:Int)] zG (qM L k):=by
 intro A B a d ha hd hB
 refine k9 (ap8 _ _ _ _) ?_
 have h76:=d76 (L:=L)
 have h179:=d179 (L:=L) 10 (enc:=tQ)
 unfold qP at h76 h179
 simp only [ac7] at h179
 have w1:=rS (a:=a) (by omega)
 simp -implicitDefEqProofs [aFc,ha,hB,h76,oQ,qM,zG]
 by_cases hk:(tk L a).kind=k
 ·simp -implicitDefEqProofs [Token.cells,ha,hB,h76,hk,zG,w1]
 ·have hk':¬((tk L a).kind:Int)=k:=by omega
  simp -implicitDefEqProofs [Token.cells,ha,hB,h76,h179,hk,hk',zG,w1,w_,p9,uX]
theorem d181 (w:List UInt8):qP L (fun d=>d≤64) 153 [.str w] tQ (uJ L w):=by
 intro A B a d ha hd hB
 refine k9 (aq9 _ _ _ _) ?_
 have h178:=d178 (L:=L)
 have h138:=d138 hL w
 have h179:=d179 (L:=L) 11 (enc:=tQ)
 unfold qP at h178 h179 h138
 simp only [ac7] at h179
 have w1:=rS (a:=d) (by omega)
 by_cases hd64:d=64
 ·subst hd64
  cases hs:isS (tk L a) w <;> simp -implicitDefEqProofs [aAw,ha,hB,h178,h138,h179,oR,GZ,uJ,w_,tQ,IZ,hs,w1,p9,uX]
 ·have hd64':¬(d:Int)=64:=by omega
  cases hs:isS (tk L a) w <;> simp -implicitDefEqProofs [aAw,ha,hB,h178,h138,h179,oR,GZ,uJ,w_,tQ,IZ,hs,w1,p9,uX,hd64,hd64']
theorem d183 (w:List UInt8):qP L (fun d=>1≤d∧d≤65) 155 [.str w] tQ (uK L w):=by
 intro A B a d ha hd hB
 obtain⟨d,rfl⟩:∃e,d=e+1:=⟨d - 1,by omega⟩
 refine k9 (arB _ _ _ _) ?_
 have h138:=d138 hL w
 unfold qP at h138
 have w1:=wrapN (a:=d) (by omega)
 cases hs:isS (tk L a) w <;> simp -implicitDefEqProofs [aFt,ha,hB,h138,oR,uK,tQ,hs,w1,p9,uX]
theorem d145:qP L (fun _=>True) 109 [] Px (sQ L):=by
 intro A B a d ha hd hB
 refine k9 (aqE _ _ _) ?_
 have h143:=d143 hL
 have h138:=d138 hL
 unfold qP at h143 h138
 cases hs:isS (tk L a) JQ
 ·cases hq:isS (tk L a) Py <;> simp only [JQ,Py] at hs hq <;> simp -implicitDefEqProofs [aAj,ha,hB,h143,h138,oR,pM,sQ,Px,tQ,IZ,hs,hq,JQ,Py,p9,uX]
 ·simp only [JQ] at hs
  simp -implicitDefEqProofs [aAj,ha,hB,h143,h138,oR,pM,sQ,Px,tQ,IZ,hs,JQ,p9,uX]
def Ty.cells (t:Ty):List kM:=[.int .i64 (t.elem:Int),.int .i64 (t.len:Int),.int .i64 (t.label:Int)]
def Bo (t:Ty):kM:=.agg t.cells
theorem d144 (l:Nat):qP L (fun _=>True) 108 [.int .i64 (l:Int)] Bo (qO L l):=by
 intro A B a d ha hd hB
 refine k9 (aqD _ _ _ _) ?_
 have h143:=d143 hL
 have h138:=d138 hL
 unfold qP at h143 h138
 cases hs:isS (tk L a) zS
 ·cases hq:isS (tk L a) J4 <;> simp only [zS,J4] at hs hq <;> simp -implicitDefEqProofs [aAi,ha,hB,h143,h138,oR,pM,qO,Bo,Ty.cells,tQ,IZ,hs,hq,zS,J4,p9,uX,Qg]
 ·simp only [zS] at hs
  simp -implicitDefEqProofs [aAi,ha,hB,h143,h138,oR,pM,qO,Bo,Ty.cells,tQ,IZ,hs,zS,p9,uX,Qg]
end
end
section
open Go Hk
attribute [simp] mK PM.bind y9 GZ oQ pM oR qM w_ uJ uK xU pUp zG tQ Px IZ Bo Ty.cells Token.cells p9 uX
section
variable {L:List Token}(hL:L.length≤131072) (hK:rF L)
include hL hK
theorem d228:qP L (fun _=>True) 180 [] Px (yN L):=by
 intro A B a d ha hd hB
 refine k9 (arS _ _ _) ?_
 have h138:=d138 hL
 have h139:=d139 hL 2
 have h76:=d76 (L:=L)
 have h179:=d179 (L:=L) 10 (enc:=tQ)
 unfold qP at h138 h139 h76 h179
 simp only [ac7] at h179 h139
 cases hs:isS (tk L a) [91]
 ·simp -implicitDefEqProofs [ah8,ha,hB,h138,yN,hs]
 ·have ha1:=mR hK ha hs
  by_cases h2:(tk L (a+1)).kind=2
  ·have ha2:=p8 (k:=2) hK ha1 (by decide) h2
   by_cases h3:(tk L (a+1)).num=0
   ·simp -implicitDefEqProofs [ah8,ha,ha1,hB,h138,h76,h179,h139,yN,hs,h2,h3]
   ·have h3':¬((tk L (a+1)).num:Int)=0:=by omega
    cases hs2:isS (tk L (a+1+1)) [93] <;>
     simp -implicitDefEqProofs [ah8,ha,ha1,ha2,hB,h138,h76,h179,h139,yN,hs,hs2,h2,h3,h3']
  ·have h2':¬((tk L (a+1)).kind:Int)=2:=by omega
   simp -implicitDefEqProofs [ah8,ha,ha1,hB,h138,h76,h179,h139,yN,hs,h2,h2']
theorem d180 (l:Nat):qP L (fun _=>True) 152 [.int .i64 (l:Int)] Bo (vK L l):=by
 intro A B a d ha hd hB
 refine k9 (aq8 _ _ _ _) ?_
 have h143:=d143 hL
 have h144:=d144 hL l
 have h228:=d228 hL hK
 have h178:=d178 (L:=L)
 unfold qP at h143 h144 h228 h178
 cases hs:isS (tk L a) [117,56]
 ·simp -implicitDefEqProofs [aAv,ha,hB,h143,h144,vK,hs]
  cases h1:qO L l a d with
  | bad e p a1 d1=>simp -implicitDefEqProofs [hB]
  | ok t a1 d1 =>
   obtain⟨g1,g2,g3⟩:=EX hK a d _ _ _ h1 ha
   by_cases h2:t.elem=0
   ·simp -implicitDefEqProofs [ha,hB,g2,h178,h228,h2]
    cases h3:isS (tk L a1) [91]
    ·simp -implicitDefEqProofs [hB,h2]
    ·simp -implicitDefEqProofs [hB,g2,h228]
     cases h4:yN L a1 d1 with
     | bad e p a2 d2=>simp -implicitDefEqProofs [hB]
     | ok n a2 d2=>simp -implicitDefEqProofs [hB,h2]
   ·have h2':¬(t.elem:Int)=0:=by omega
    simp -implicitDefEqProofs [ha,hB,g2,h178,h228,h2,h2']
 ·have ha1:=mR hK ha hs
  simp -implicitDefEqProofs [aAv,ha,ha1,hB,h143,h228,vK,hs]
  cases h4:yN L (a+1) d with
  | bad e p a2 d2=>simp -implicitDefEqProofs [hB]
  | ok n a2 d2=>simp -implicitDefEqProofs [hB]
theorem d142:qP L (fun _=>True) 106 [] (fun x:XP=>.agg ([.int .i64 (x.pos:Int),.str x.name]++x.ty.cells++[.bool x.out])) (u1 L):=by
 intro A B a d ha hd hB
 refine k9 (aqB _ _ _) ?_
 have h143:=d143 hL
 have h145:=d145 hL
 have h139:=d139 hL 1
 have h138:=d138 hL
 have h180:=d180 hL hK
 unfold qP at h143 h145 h139 h138 h180
 simp only [ac7] at h139
 simp -implicitDefEqProofs [aFe,ha,hB,h143,u1]
 obtain⟨a1,d1,e1⟩:∃a1 d1,a1=(if isS (tk L a) [111,117,116]=true then a+1 else a)∧d1=d:=⟨_,_,rfl,rfl⟩
 obtain⟨e1,rfl⟩:=e1
 have ha1:a1 < L.length:=by
  subst e1; split
  ·rename_i h; exact mR hK ha h
  ·exact ha
 rw [←e1]
 simp -implicitDefEqProofs [ha1,hB,h145]
 cases h1:sQ L a1 d1 with
 | bad e p a2 d2=>simp -implicitDefEqProofs [hB]
 | ok l a2 d2 =>
  obtain⟨g1,ha2,rfl⟩:=BS hK a1 d1 _ _ _ h1 ha1
  simp -implicitDefEqProofs [ha2,hB,h139]
  by_cases h2:(tk L a2).kind=1
  ·have ha3:=p8 (k:=1) hK ha2 (by decide) h2
   simp -implicitDefEqProofs [ha3,hB,h2,h138]
   cases h3:isS (tk L (a2+1)) [58]
   ·simp -implicitDefEqProofs [hB]
   ·have ha4:=mR hK ha3 h3
    simp -implicitDefEqProofs [ha4,hB,h180]
    cases h4:vK L l (a2+1+1) d2 with
    | bad e p a5 d5=>simp -implicitDefEqProofs [hB]
    | ok ty a5 d5=>simp -implicitDefEqProofs [hB]
  ·simp -implicitDefEqProofs [hB,h2]
end
end
section
open Go Hk
theorem DH {F:List kM×kP→Option R}{σ:Type}(enc:σ→List kM×kP) (inv:σ→Prop) (μ:σ→Nat) (Post:σ→R→Prop)
  (h:∀s,inv s→(∃s',F (enc s)=some (.normal,enc s')∧inv s'∧μ s' < μ s∧∀r,Post s' r→Post s r)∨(∃r,F (enc s)=some r∧r.1≠.normal∧Post s r)) :
  ∀s,inv s→∃r,mI F (enc s)=some r∧Post s r:=by
 have key:∀n s,μ s=n→inv s→∃r,mI F (enc s)=some r∧Post s r:=by
  intro n
  induction n using Nat.strongRecOn with
  | _ n ih =>
   intro s hn hi
   rw [lZ]
   rcases h s hi with ⟨s',e1,e2,e3,e4⟩ | ⟨r,e1,e2,e3⟩
   ·obtain⟨r,h1,h2⟩:=ih (μ s') (by omega) s' rfl e2
    refine⟨r,?_,e4 r h2⟩
    rw [e1]
    simp only [af4,oA]
    exact h1
   ·refine⟨r,?_,e3⟩
    rw [e1]
    obtain⟨e,l⟩:=r
    cases e <;> first | exact absurd rfl e2 | rfl
 exact fun s hi=>key (μ s) s rfl hi
@[simp] theorem aD1 {m:Nat}{h:kP}{e p:Int}:kM.vM m h (.iface 102 (.agg [.int .i64 e,.int .i64 p]))=.iface 102 (.agg [.int .i64 e,.int .i64 p]):=(rfl)
@[simp] theorem axF {e p:Int}:kM.mV (.iface 102 (.agg [.int .i64 e,.int .i64 p]))=.iface 102 (.agg [.int .i64 e,.int .i64 p]):=(rfl)
@[simp] theorem aDg {i o:Nat}:kM.cells (.ptr i o)=[.ptr i o]:=(rfl)
@[simp] theorem ay6 {i o:Nat}:kM.mD (.ptr i o)=true:=(rfl)
@[simp] theorem aCK {f:Nat}{x y:List kM}:kM.mV (.func f x y)=.func f x y:=(rfl)
@[simp] theorem amW {A B:List lE}{j k:Nat}:HN A B+j+k=HN A B+(j+k):=Nat.add_assoc _ _ _
@[simp] theorem dec_lt {n k:Nat}:decide (n+k < n)=false:=by simp
theorem U4 {L:List Token}{α:Type}{one:PM α}{n:Nat}{l:List α}{a d:Nat}:xT L one (n+1) l a d=match one a d with
  | .bad e p a1 d1=>.bad e p a1 d1
  | .ok x a1 d1=>if isS (tk L a1) [44]=true then xT L one n (l++[x]) (a1+1) d1 else .ok (l++[x]) a1 d1:=by
 rw [xT]
 simp only [mK,PM.bind,pM]
 cases one a d with
 | bad=>rfl
 | ok x a1 d1=>cases h:isS (tk L a1) [44] <;> simp [h,y9]
structure Yd {α:Type}(enc:α→List kM) (sz:Nat):Prop where
 len:∀x,(enc x).length=sz
 pure:∀x,n_ (enc x)=some (enc x)
 ok:∀x,(enc x).all kM.mD=true
theorem wR {cs zero:List kM}{sz:Nat}{h:kP}(hl:cs.length=sz) (hz:zero.length=sz) (hp:n_ cs=some cs) (ho:cs.all kM.mD=true) :
  kW 1 sz zero [(0,.agg cs)] h=some (.slice [cs] (.own h.length),h++[.front 1 sz]):=by
 have e1:lS (List.replicate 1 zero).flatten ((List.range 1).map fun i=>(i * sz,sz)) [(0,.agg cs)]=some (.agg cs):=by
  simp [lS,hl,hz,putCells,kM.pL,List.range_succ]
 simp only [kW,tS,e1,hp,hz,ho,and_self,if_true,rowsOf]
 rw [←hl,List.take_length]
section
variable {A B C:List lE}{L:List Token}{a d k:Nat}
theorem DV {rows new:List (List kM)}{sz by_ sz':Nat}{t:Tok}(hc:C[k]?=some (.front rows.length sz')) (hs:sz'=sz∨rows.length=0∧sz'=0) (hr:∀r∈new,r.length=sz) (hn:new≠[])
  (hb:(rows.length+new.length) * by_≤140737488355328) (hb2:rows.length+new.length≤140737488355328) :
  mG sz by_ (HQ A L a d (B++C)) (.slice rows (.own (HN A B+k))) (.slice new t) =
   some (.slice (rows++new) (.own (HN A B+k)),HQ A L a d (B++C.set k (.front (rows.length+new.length) sz))):=by
 have h1:(new.all fun r=>r.length == sz)=true:=by simpa using hr
 have h2:¬new.length=0:=by simpa using hn
 simp only [mG,pY,h1,if_true,L6,hc]
 rw [if_pos ⟨trivial,hs,hb,hb2⟩,if_neg h2,L7]
theorem zJ (h:KB A (B++C.take k)) (hk:k≤C.length):l9 (HN A B+k) (HQ A L a d (B++C))=some (HQ A L a d (B++C.take k)):=by
 have:=He (L:=L) (a:=a) (d:=d) (C:=C.drop k) h
 rw [Dd,af9,List.take_append_drop,ak8,Nat.min_eq_left hk] at this
 exact this
theorem Dc:A.length < HN A B+k:=by simp [HN]; omega
theorem Ga:A.length < HN A B:=Dc (k:=0)
def Has (A B:List lE) (i:Nat):Prop:=∃j,i=A.length+1+j∧B[j]?=some (.cells [.ptr A.length 0])
theorem Has.app {i:Nat}(h:Has A B i):Has A (B++C) i:=by
 obtain⟨j,h1,h2⟩:=h
 have:=(ab1.1 h2).1
 exact⟨j,h1,by rw [List.getElem?_append_left this]; exact h2⟩
theorem Has.new:Has A (B++.cells [.ptr A.length 0]::C) (HN A B):=⟨B.length,rfl,by simp⟩
theorem Has.get {i:Nat}(h:Has A B i):mY (HQ A L a d B) i=some [.ptr A.length 0]:=by
 obtain⟨j,rfl,h2⟩:=h
 unfold mY HQ
 rw [ac9 (by omega),show A.length+1+j - A.length=j+1 by omega,List.getElem?_cons_succ,h2]
theorem Has.lt {i:Nat}(h:Has A B i):i < HN A B+k:=by
 obtain⟨j,rfl,h2⟩:=h
 have:=(ab1.1 h2).1
 simp [HN]; omega
theorem QO {m f i:Nat}{h:kP}(hi:i < m):kM.vM m h (.func f [] [.ptr i 0])=.func f [] [.ptr i 0]:=by
 have:kM.vM m h (.func f [] [.ptr i 0])=bif (kM.func f [] [.ptr i 0]).nP m then .func f [] [.ptr i 0] else .junk:=rfl
 rw [this]
 simp [kM.nP,kM.pE,qA,hi]
end
end
section
open Go Hk
def XP.cells (x:XP):List kM:=[.int .i64 (x.pos:Int),.str x.name,.int .i64 (x.ty.elem:Int),.int .i64 (x.ty.len:Int),.int .i64 (x.ty.label:Int),.bool x.out]
def rZ (n sz:Nat):Nat:=if n=0 then 0 else sz
theorem rB {sz:Nat}:rZ 0 sz=0:=(rfl)
theorem rH {n sz:Nat}:rZ (n+1) sz=sz:=by simp [rZ]
theorem AQ (n sz:Nat):rZ n sz=sz∨n=0∧rZ n sz=0:=by by_cases h:n=0 <;> simp [rZ,h]
theorem XP.row:Yd XP.cells 6:=⟨fun _=>rfl,fun _=>rfl,fun _=>rfl⟩
mutual
def XE.cells:XE→List kM
 | .mk k p n name args=>[.int .i64 (k:Int),.int .i64 (p:Int),.int .i64 (n:Int),.str name,.slice (XE.rows args) .no]
def XE.rows:List XE→List (List kM)
 | []=>[]
 | x::r=>x.cells::XE.rows r
end
theorem XE.nO:∀l:List XE,XE.rows l=l.map XE.cells
 | []=>rfl
 | x::r=>by simp [XE.rows,XE.nO r]
theorem XE.row:Yd XE.cells 5:=⟨fun x=>by cases x; simp [XE.cells],fun x=>by cases x; simp [XE.cells,n_,kM.C8],fun x=>by cases x; simp [XE.cells]⟩
section
variable {L:List Token}(hL:L.length≤131072) (hK:rF L)
include hL hK
theorem aa6 {one:PM XP}(hg:mB L 1 (fun d=>d) one) {A B:List lE}{i d:Nat}(hB:KB A B) (hi:Has A B i)
  (hone:∀(C:List lE) (a:Nat),a < L.length→KB A (B++C)→KK 105 [.ptr i 0] (HQ A L a d (B++C))=some ((one a d).res (fun x=>.agg (XP.cells x)) A L (B++C))) (n:Nat) (l:List XP) (a:Nat) (ha:a < L.length) (hn:L.length < a+n) (hl:l.length≤a) :
  ∃r,mI (Lr KK (HN A B+2)) ([.ptr A.length 0,.func 105 [] [.ptr i 0],.slice [] (.own (HN A B)),.slice (l.map XP.cells) (.own (HN A B+1))],HQ A L a d (B++[.front 0 0,.front l.length (rZ l.length 6)]))=some r ∧
   match xT L one n l a d with
   | .ok l' a' d'=>r=(.ret,[.ptr A.length 0,.func 105 [] [.ptr i 0],.slice (l'.map XP.cells) (.own (HN A B+1)),.slice (l'.map XP.cells) (.own (HN A B+1))],HQ A L a' d' (B++[.front 0 0,.front l'.length 6]))
   | .bad e p a' d'=>∃vs C,r=(.pan (p9 e p),vs,HQ A L a' d' (B++C)):=by
 have h143:=d143 hL
 unfold qP at h143
 refine DH (σ:=List XP×Nat×Nat) (fun s=>([.ptr A.length 0,.func 105 [] [.ptr i 0],.slice [] (.own (HN A B)),.slice (s.1.map XP.cells) (.own (HN A B+1))],HQ A L s.2.1 d (B++[.front 0 0,.front s.1.length (rZ s.1.length 6)])))
  (fun s=>s.2.1 < L.length∧L.length < s.2.1+s.2.2∧s.1.length≤s.2.1) (fun s=>s.2.2)
  (fun s r=>match xT L one s.2.2 s.1 s.2.1 d with
   | .ok l' a' d'=>r=(.ret,[.ptr A.length 0,.func 105 [] [.ptr i 0],.slice (l'.map XP.cells) (.own (HN A B+1)),.slice (l'.map XP.cells) (.own (HN A B+1))],HQ A L a' d' (B++[.front 0 0,.front l'.length 6]))
   | .bad e p a' d'=>∃vs C,r=(.pan (p9 e p),vs,HQ A L a' d' (B++C))) ?_ (l,a,n) ⟨ha,hn,hl⟩
 rintro⟨l,a,n⟩ ⟨ha,hn,hl⟩
 simp only at ha hn hl
 have hi':i < HN A B+2:=hi.lt
 have hsf:∀h,kM.vM (HN A B+2) h (.func 105 [] [.ptr i 0])=.func 105 [] [.ptr i 0]:=fun h=>QO hi'
 have hsp:∀h,kM.vM (HN A B+2) h (.ptr A.length 0)=.ptr A.length 0:=fun h=>uB Dc
 have hKB:∀x y,KB A (B++[.front 0 0,.front x y]):=fun x y=>hB.app (by simp)
 have htr:∀a x y C,l9 (HN A B+2) (HQ A L a d (B++(.front 0 0::.front x y::C)))=some (HQ A L a d (B++[.front 0 0,.front x y])):=fun a x y C=>by
  have:=zJ (L:=L) (a:=a) (d:=d) (A:=A) (B:=B) (C:=.front 0 0::.front x y::C) (k:=2) (by simpa using hKB x y) (by simp)
  simpa using this
 have htr0:∀a d x y,l9 (HN A B+2) (HQ A L a d (B++[.front 0 0,.front x y]))=some (HQ A L a d (B++[.front 0 0,.front x y])):=fun a d x y=>by
  have:=zJ (L:=L) (a:=a) (d:=d) (A:=A) (B:=B) (C:=[.front 0 0,.front x y]) (k:=2) (by simpa using hKB x y) (by simp)
  simpa using this
 obtain⟨n,rfl⟩:∃k,n=k+1:=⟨n - 1,by omega⟩
 have hfst:Lr KK (HN A B+2) ([.ptr A.length 0,.func 105 [] [.ptr i 0],.slice [] (.own (HN A B)),.slice (l.map XP.cells) (.own (HN A B+1))],HQ A L a d (B++[.front 0 0,.front l.length (rZ l.length 6)])) =
   match one a d with
   | .bad e p a1 d1=>(l9 (HN A B+2) (HQ A L a1 d1 (B++[.front 0 0,.front l.length (rZ l.length 6)]))).map fun h=>(.pan (p9 e p),[.ptr A.length 0,.func 105 [] [.ptr i 0],.slice [] (.own (HN A B)),.slice (l.map XP.cells) (.own (HN A B+1))],h)
   | .ok x a1 d1=>if isS (tk L a1) [44]=true then some (.normal,[.ptr A.length 0,.func 105 [] [.ptr i 0],.slice [] (.own (HN A B)),.slice ((l++[x]).map XP.cells) (.own (HN A B+1))],HQ A L (a1+1) d (B++[.front 0 0,.front (l++[x]).length 6]))
    else some (.ret,[.ptr A.length 0,.func 105 [] [.ptr i 0],.slice ((l++[x]).map XP.cells) (.own (HN A B+1)),.slice ((l++[x]).map XP.cells) (.own (HN A B+1))],HQ A L a1 d (B++[.front 0 0,.front (l++[x]).length 6])):=by
  have e1:=hone [.front 0 0,.front l.length (rZ l.length 6)] a ha (hKB _ _)
  have ce:CV mJ KK 105 (A4 mJ 105 [.ptr i 0]) (HQ A L a d (B++[.front 0 0,.front l.length (rZ l.length 6)]))=some ((one a d).res (fun x=>.agg (XP.cells x)) A L (B++[.front 0 0,.front l.length (rZ l.length 6)])):=e1
  simp -implicitDefEqProofs only [Lr,ON,OO,OP,OQ,OR,OS,Up,Nh,Ni,Uk,T3,Nb,M6,OI,OJ,OK,List.getD_cons_zero,List.getD_cons_succ,BG,af4,ah4,List.append_nil,ce]
  cases h1:one a d with
  | bad e p a1 d1 =>
   simp -implicitDefEqProofs [htr0,kS,hsf,hsp]
  | ok x a1 d1 =>
   obtain⟨g1,g2,g3⟩:=hg a d _ _ _ h1 ha
   have g3:d=d1:=g3.symm
   subst g3
   have b1:=wR (zero:=[.int .i64 0,.str [],.int .i64 0,.int .i64 0,.int .i64 0,.bool false]) (h:=HQ A L a1 d (B++[.front 0 0,.front l.length (rZ l.length 6)])) (XP.row.len x) rfl (XP.row.pure x) (XP.row.ok x)
   have b2:=DV (A:=A) (B:=B) (L:=L) (a:=a1) (d:=d) (C:=[.front 0 0,.front l.length (rZ l.length 6),.front 1 6]) (k:=1) (rows:=l.map XP.cells) (new:=[XP.cells x]) (sz:=6) (by_:=56) (sz':=rZ l.length 6) (t:=.own (HN A B+2)) (by simp) (by rw [al0]; exact AQ _ _) (by simpa using XP.row.len x) (by simp) (by simp; omega) (by simp; omega)
   simp only [al0,List.length_singleton,List.set_cons_succ,List.set_cons_zero] at b2
   simp -implicitDefEqProofs [b1,b2]
   rw [h143 [44] _ _ _ _ g2 trivial (hB.app (by simp))]
   simp -implicitDefEqProofs only [pM]
   cases h2:isS (tk L a1) [44] <;> simp -implicitDefEqProofs [htr,kS,hsf,hsp]
 rw [hfst]
 simp only [U4]
 cases h1:one a d with
 | bad e p a1 d1 =>
  right
  exact⟨_,(by simp only [htr0,Option.map_some]; rfl),by simp,_,_,rfl⟩
 | ok x a1 d1 =>
  obtain⟨g1,g2,g3⟩:=hg a d _ _ _ h1 ha
  have g3:d=d1:=g3.symm
  subst g3
  cases h2:isS (tk L a1) [44] with
  | true =>
   left
   refine⟨(l++[x],a1+1,n),?_,⟨mR hK g2 h2,by simp; omega,by simp; omega⟩,by simp,?_⟩
   ·simp [h2,rH]
   ·intro r hr
    simpa [h2] using hr
  | false =>
   right
   exact⟨_,by simp only [h2]; rfl,by simp,by simp [h2]⟩
theorem d140 {one:PM XP}(w:List UInt8) (hg:mB L 1 (fun d=>d) one) {A B:List lE}{i a d:Nat}(ha:a < L.length) (hB:KB A B) (hi:Has A B i)
  (hone:∀(C:List lE) (a:Nat),a < L.length→KB A (B++C)→KK 105 [.ptr i 0] (HQ A L a d (B++C))=some ((one a d).res (fun x=>.agg (XP.cells x)) A L (B++C))) :
  KK 104 [.ptr A.length 0,.str w,.func 105 [] [.ptr i 0]] (HQ A L a d B)=some ((yZ L w one a d).res (fun l=>.slice (l.map XP.cells) .no) A L B):=by
 refine k9 (ap9 _ _ _ _ _) ?_
 have h178:=d178 (L:=L)
 unfold qP at h178
 unfold yZ
 cases hs:isS (tk L a) w
 ·obtain⟨r,h1,h2⟩:=aa6 hL hK hg hB hi hone 131073 [] a ha (by omega) (ah9 _)
  simp only [al1,ad0,rB] at h1
  simp -implicitDefEqProofs [aAh,ha,hB,h178,hs,h1]
  cases h3:xT L one 131073 [] a d with
  | bad e p a' d' =>
   rw [h3] at h2
   obtain⟨vs,C,rfl⟩:=h2
   simp -implicitDefEqProofs [hB]
  | ok l' a' d' =>
   rw [h3] at h2
   subst h2
   simp -implicitDefEqProofs [hB]
 ·simp -implicitDefEqProofs [aAh,ha,hB,h178,hs]
theorem aa9 {one:PM XE}(hg:mB L 1 (fun d=>d) one) {A B:List lE}{i d:Nat}(hB:KB A B) (hi:Has A B i)
  (hone:∀(C:List lE) (a:Nat),a < L.length→KB A (B++C)→KK 223 [.ptr i 0] (HQ A L a d (B++C))=some ((one a d).res (fun x=>.agg (XE.cells x)) A L (B++C))) (n:Nat) (l:List XE) (a:Nat) (ha:a < L.length) (hn:L.length < a+n) (hl:l.length≤a) :
  ∃r,mI (Lw KK (HN A B+2)) ([.ptr A.length 0,.func 223 [] [.ptr i 0],.slice [] (.own (HN A B)),.slice (l.map XE.cells) (.own (HN A B+1))],HQ A L a d (B++[.front 0 0,.front l.length (rZ l.length 5)]))=some r ∧
   match xT L one n l a d with
   | .ok l' a' d'=>r=(.ret,[.ptr A.length 0,.func 223 [] [.ptr i 0],.slice (l'.map XE.cells) (.own (HN A B+1)),.slice (l'.map XE.cells) (.own (HN A B+1))],HQ A L a' d' (B++[.front 0 0,.front l'.length 5]))
   | .bad e p a' d'=>∃vs C,r=(.pan (p9 e p),vs,HQ A L a' d' (B++C)):=by
 have h143:=d143 hL
 unfold qP at h143
 refine DH (σ:=List XE×Nat×Nat) (fun s=>([.ptr A.length 0,.func 223 [] [.ptr i 0],.slice [] (.own (HN A B)),.slice (s.1.map XE.cells) (.own (HN A B+1))],HQ A L s.2.1 d (B++[.front 0 0,.front s.1.length (rZ s.1.length 5)])))
  (fun s=>s.2.1 < L.length∧L.length < s.2.1+s.2.2∧s.1.length≤s.2.1) (fun s=>s.2.2)
  (fun s r=>match xT L one s.2.2 s.1 s.2.1 d with
   | .ok l' a' d'=>r=(.ret,[.ptr A.length 0,.func 223 [] [.ptr i 0],.slice (l'.map XE.cells) (.own (HN A B+1)),.slice (l'.map XE.cells) (.own (HN A B+1))],HQ A L a' d' (B++[.front 0 0,.front l'.length 5]))
   | .bad e p a' d'=>∃vs C,r=(.pan (p9 e p),vs,HQ A L a' d' (B++C))) ?_ (l,a,n) ⟨ha,hn,hl⟩
 rintro⟨l,a,n⟩ ⟨ha,hn,hl⟩
 simp only at ha hn hl
 have hi':i < HN A B+2:=hi.lt
 have hsf:∀h,kM.vM (HN A B+2) h (.func 223 [] [.ptr i 0])=.func 223 [] [.ptr i 0]:=fun h=>QO hi'
 have hsp:∀h,kM.vM (HN A B+2) h (.ptr A.length 0)=.ptr A.length 0:=fun h=>uB Dc
 have hKB:∀x y,KB A (B++[.front 0 0,.front x y]):=fun x y=>hB.app (by simp)
 have htr:∀a x y C,l9 (HN A B+2) (HQ A L a d (B++(.front 0 0::.front x y::C)))=some (HQ A L a d (B++[.front 0 0,.front x y])):=fun a x y C=>by
  have:=zJ (L:=L) (a:=a) (d:=d) (A:=A) (B:=B) (C:=.front 0 0::.front x y::C) (k:=2) (by simpa using hKB x y) (by simp)
  simpa using this
 have htr0:∀a d x y,l9 (HN A B+2) (HQ A L a d (B++[.front 0 0,.front x y]))=some (HQ A L a d (B++[.front 0 0,.front x y])):=fun a d x y=>by
  have:=zJ (L:=L) (a:=a) (d:=d) (A:=A) (B:=B) (C:=[.front 0 0,.front x y]) (k:=2) (by simpa using hKB x y) (by simp)
  simpa using this
 obtain⟨n,rfl⟩:∃k,n=k+1:=⟨n - 1,by omega⟩
 have hfst:Lw KK (HN A B+2) ([.ptr A.length 0,.func 223 [] [.ptr i 0],.slice [] (.own (HN A B)),.slice (l.map XE.cells) (.own (HN A B+1))],HQ A L a d (B++[.front 0 0,.front l.length (rZ l.length 5)])) =
   match one a d with
   | .bad e p a1 d1=>(l9 (HN A B+2) (HQ A L a1 d1 (B++[.front 0 0,.front l.length (rZ l.length 5)]))).map fun h=>(.pan (p9 e p),[.ptr A.length 0,.func 223 [] [.ptr i 0],.slice [] (.own (HN A B)),.slice (l.map XE.cells) (.own (HN A B+1))],h)
   | .ok x a1 d1=>if isS (tk L a1) [44]=true then some (.normal,[.ptr A.length 0,.func 223 [] [.ptr i 0],.slice [] (.own (HN A B)),.slice ((l++[x]).map XE.cells) (.own (HN A B+1))],HQ A L (a1+1) d (B++[.front 0 0,.front (l++[x]).length 5]))
    else some (.ret,[.ptr A.length 0,.func 223 [] [.ptr i 0],.slice ((l++[x]).map XE.cells) (.own (HN A B+1)),.slice ((l++[x]).map XE.cells) (.own (HN A B+1))],HQ A L a1 d (B++[.front 0 0,.front (l++[x]).length 5])):=by
  have e1:=hone [.front 0 0,.front l.length (rZ l.length 5)] a ha (hKB _ _)
  have ce:CV mJ KK 223 (A4 mJ 223 [.ptr i 0]) (HQ A L a d (B++[.front 0 0,.front l.length (rZ l.length 5)]))=some ((one a d).res (fun x=>.agg (XE.cells x)) A L (B++[.front 0 0,.front l.length (rZ l.length 5)])):=e1
  simp -implicitDefEqProofs only [Lw,ON,OO,OP,OQ,OR,OS,Up,Nh,Ni,Uk,T3,Nb,M6,OI,OJ,OK,List.getD_cons_zero,List.getD_cons_succ,BG,af4,ah4,List.append_nil,ce]
  cases h1:one a d with
  | bad e p a1 d1 =>
   simp -implicitDefEqProofs [htr0,kS,hsf,hsp]
  | ok x a1 d1 =>
   obtain⟨g1,g2,g3⟩:=hg a d _ _ _ h1 ha
   have g3:d=d1:=g3.symm
   subst g3
   have b1:=wR (zero:=[.int .i64 0,.int .i64 0,.int .i64 0,.str [],.slice [] .nil]) (h:=HQ A L a1 d (B++[.front 0 0,.front l.length (rZ l.length 5)])) (XE.row.len x) rfl (XE.row.pure x) (XE.row.ok x)
   have b2:=DV (A:=A) (B:=B) (L:=L) (a:=a1) (d:=d) (C:=[.front 0 0,.front l.length (rZ l.length 5),.front 1 5]) (k:=1) (rows:=l.map XE.cells) (new:=[XE.cells x]) (sz:=5) (by_:=64) (sz':=rZ l.length 5) (t:=.own (HN A B+2)) (by simp) (by rw [al0]; exact AQ _ _) (by simpa using XE.row.len x) (by simp) (by simp; omega) (by simp; omega)
   simp only [al0,List.length_singleton,List.set_cons_succ,List.set_cons_zero] at b2
   simp -implicitDefEqProofs [b1,b2]
   rw [h143 [44] _ _ _ _ g2 trivial (hB.app (by simp))]
   simp -implicitDefEqProofs only [pM]
   cases h2:isS (tk L a1) [44] <;> simp -implicitDefEqProofs [htr,kS,hsf,hsp]
 rw [hfst]
 simp only [U4]
 cases h1:one a d with
 | bad e p a1 d1 =>
  right
  exact⟨_,(by simp only [htr0,Option.map_some]; rfl),by simp,_,_,rfl⟩
 | ok x a1 d1 =>
  obtain⟨g1,g2,g3⟩:=hg a d _ _ _ h1 ha
  have g3:d=d1:=g3.symm
  subst g3
  cases h2:isS (tk L a1) [44] with
  | true =>
   left
   refine⟨(l++[x],a1+1,n),?_,⟨mR hK g2 h2,by simp; omega,by simp; omega⟩,by simp,?_⟩
   ·simp [h2,rH]
   ·intro r hr
    simpa [h2] using hr
  | false =>
   right
   exact⟨_,by simp only [h2]; rfl,by simp,by simp [h2]⟩
theorem d259 {one:PM XE}(w:List UInt8) (hg:mB L 1 (fun d=>d) one) {A B:List lE}{i a d:Nat}(ha:a < L.length) (hB:KB A B) (hi:Has A B i)
  (hone:∀(C:List lE) (a:Nat),a < L.length→KB A (B++C)→KK 223 [.ptr i 0] (HQ A L a d (B++C))=some ((one a d).res (fun x=>.agg (XE.cells x)) A L (B++C))) :
  KK 222 [.ptr A.length 0,.str w,.func 223 [] [.ptr i 0]] (HQ A L a d B)=some ((yZ L w one a d).res (fun l=>.slice (l.map XE.cells) .no) A L B):=by
 refine k9 (ar9 _ _ _ _ _) ?_
 have h178:=d178 (L:=L)
 unfold qP at h178
 unfold yZ
 cases hs:isS (tk L a) w
 ·obtain⟨r,h1,h2⟩:=aa9 hL hK hg hB hi hone 131073 [] a ha (by omega) (ah9 _)
  simp only [al1,ad0,rB] at h1
  simp -implicitDefEqProofs [aAJ,ha,hB,h178,hs,h1]
  cases h3:xT L one 131073 [] a d with
  | bad e p a' d' =>
   rw [h3] at h2
   obtain⟨vs,C,rfl⟩:=h2
   simp -implicitDefEqProofs [hB]
  | ok l' a' d' =>
   rw [h3] at h2
   subst h2
   simp -implicitDefEqProofs [hB]
 ·simp -implicitDefEqProofs [aAJ,ha,hB,h178,hs]
end
end
section
open Go Hk
section
variable {x:XE}{n m:Nat}{h:kP}
@[simp] theorem aLq:x.cells.length=5:=XE.row.len x
@[simp] theorem Z6:x.cells.take 5=x.cells:=List.take_of_length_le (by simp)
theorem aHk:∀c∈x.cells,c.mD=true:=by simpa using XE.row.ok x
@[simp] theorem aLr:(∀c,c∈x.cells→c.mD=true)=True:=eq_true aHk
@[simp] theorem aHj {os:List kM}:pV h os x.cells=x.cells:=rA (by cases x; simp [XE.cells,kM.isNil])
@[simp] theorem aIz:x.cells.map (kM.uH∘fun c=>kM.mO m h c)=x.cells:=by cases x; simp [XE.cells]
@[simp] theorem aLp:B_ n x.cells:=by cases x; simp [XE.cells]
@[simp] theorem alT:kW 1 5 [.int .i64 0,.int .i64 0,.int .i64 0,.str [],.slice [] .nil] [(0,.agg x.cells)] h=some (.slice [x.cells] (.own h.length),h++[.front 1 5]) :=
 wR (XE.row.len x) rfl (XE.row.pure x) (XE.row.ok x)
end
def rW (x:XE):kM:=.agg x.cells
def Pt (l:List XE):kM:=.slice (l.map XE.cells) .no
attribute [simp] rW Pt
def AJ:Option (Nat×Nat)→kM
 | some (n,k)=>.tuple [.int .i64 (n:Int),.int .i64 (k:Int)]
 | none=>.tuple [.int .i64 (-1),.int .i64 0]
set_option maxHeartbeats 1000000 in
theorem aJu (w:List UInt8) (h:kP):KK 221 [.str w] h=some (.ret (AJ (nV w)),h):=by
 refine lA rfl rfl (k9 (ar8 _ _ _) ?_)
 by_cases h0:w=[61,61]
 ·subst h0; simp -implicitDefEqProofs [F_,nV,AJ,kN]
 by_cases h1:w=[33,61]
 ·subst h1; simp -implicitDefEqProofs [F_,nV,AJ,kN]
 by_cases h2:w=[60]
 ·subst h2; simp -implicitDefEqProofs [F_,nV,AJ,kN]
 by_cases h3:w=[60,61]
 ·subst h3; simp -implicitDefEqProofs [F_,nV,AJ,kN]
 by_cases h4:w=[62]
 ·subst h4; simp -implicitDefEqProofs [F_,nV,AJ,kN]
 by_cases h5:w=[62,61]
 ·subst h5; simp -implicitDefEqProofs [F_,nV,AJ,kN]
 by_cases h6:w=[124]
 ·subst h6; simp -implicitDefEqProofs [F_,nV,AJ,kN]
 by_cases h7:w=[94]
 ·subst h7; simp -implicitDefEqProofs [F_,nV,AJ,kN]
 by_cases h8:w=[38]
 ·subst h8; simp -implicitDefEqProofs [F_,nV,AJ,kN]
 by_cases h9:w=[60,60]
 ·subst h9; simp -implicitDefEqProofs [F_,nV,AJ,kN]
 by_cases h10:w=[62,62]
 ·subst h10; simp -implicitDefEqProofs [F_,nV,AJ,kN]
 by_cases h11:w=[43]
 ·subst h11; simp -implicitDefEqProofs [F_,nV,AJ,kN]
 by_cases h12:w=[45]
 ·subst h12; simp -implicitDefEqProofs [F_,nV,AJ,kN]
 by_cases h13:w=[42]
 ·subst h13; simp -implicitDefEqProofs [F_,nV,AJ,kN]
 simp -implicitDefEqProofs [F_,nV,AJ,kN,h0,h1,h2,h3,h4,h5,h6,h7,h8,h9,h10,h11,h12,h13]
def sgV (t:Token) (k:Nat):Int×Bool:=if t.kind=4 then(match nV t.text with | some (n,kind)=>(kind,decide (n=k)) | none=>(0,false)) else(0,false)
theorem Vr {t:Token}{k:Nat}(h:pO t k=none):(sgV t k).2=false:=by
 unfold pO at h
 unfold sgV
 split at h
 ·rename_i hk
  simp only [hk,if_true]
  split at h
  ·rename_i n kind hl
   split at h
   ·cases h
   ·rename_i hn; simp [hl,hn]
  ·rename_i hl; simp [hl]
 ·rename_i hk; simp [hk]
theorem Vt {t:Token}{k kind:Nat}(h:pO t k=some kind):sgV t k=((kind:Int),true):=by
 unfold pO at h
 unfold sgV
 split at h
 ·rename_i hk
  simp only [hk,if_true]
  split at h
  ·rename_i n kd hl
   split at h
   ·rename_i hn; cases h; simp [hl,hn]
   ·cases h
  ·cases h
 ·cases h
section
variable {L:List Token}(hL:L.length≤131072) (hK:rF L)
def aFY (L:List Token) (k:Nat):PM (Int×Bool):=fun a d=>.ok (sgV (tk L a) k) a d
def awU (x:Int×Bool):kM:=.tuple [.int .i64 x.1,.bool x.2]
attribute [simp] aFY awU
theorem d249 (k:Nat):qP L (fun _=>True) 206 [.int .i64 (k:Int)] awU (aFY L k):=by
 intro A B a d ha hd hB
 refine k9 (ar3 _ _ _ _) ?_
 have h76:=d76 (L:=L)
 unfold qP at h76
 have h258:=aJu
 simp -implicitDefEqProofs [aFA,ha,hB,h76]
 by_cases hk:(tk L a).kind=4
 ·simp -implicitDefEqProofs [hk,hB,h258,sgV]
  cases hl:nV (tk L a).text with
  | none =>
   have:¬(-1:Int)=k:=by omega
   simp -implicitDefEqProofs [AJ,hB,this]
  | some x =>
   obtain⟨n,kind⟩:=x
   simp -implicitDefEqProofs [AJ,hB]
   omega
 ·have hk':¬((tk L a).kind:Int)=4:=by omega
  simp -implicitDefEqProofs [hk',hk,hB,sgV]
def dk (n d:Nat):Prop:=d+n=65∧d≤64
theorem dk.up {n d:Nat}(h:dk (n+1) d) (hd:¬d=64):dk n (d+1):=⟨by have:=h.1; omega,by have:=h.2; omega⟩
include hL hK
theorem aI2 {A B:List lE}{i a d:Nat}(hi:Has A B i) (ha:a < L.length) (hB:KB A B) :
  KK 105 [.ptr i 0] (HQ A L a d B)=some ((u1 L a d).res (fun x=>.agg x.cells) A L B):=by
 refine k9 (aqA _ _ _) ?_
 have h142:=d142 hL hK
 unfold qP at h142
 have hg:∀C a d,mY (HQ A L a d (B++C)) i=some [.ptr A.length 0]:=fun C a d=>hi.app.get
 simp -implicitDefEqProofs [aFd,ha,hB,hg,h142]
 cases h1:u1 L a d with
 | bad e p a1 d1=>simp -implicitDefEqProofs [hB]
 | ok x a1 d1=>simp -implicitDefEqProofs [hB,XP.cells]
section
variable {n:Nat}{ex:PM XE}(he:qP L (dk n) 182 [] rW ex) (hg:mB L 1 (fun d=>d) ex)
include he
omit hL hK in
theorem aEE {A B:List lE}{i a d:Nat}(hi:Has A B i) (ha:a < L.length) (hd:dk n d) (hB:KB A B) :
  KK 223 [.ptr i 0] (HQ A L a d B)=some ((ex a d).res rW A L B):=by
 refine k9 (asA _ _ _) ?_
 unfold qP at he
 have hg:∀C a d,mY (HQ A L a d (B++C)) i=some [.ptr A.length 0]:=fun C a d=>hi.app.get
 simp -implicitDefEqProofs [aFD,ha,hB,hg,he,hd]
 cases h1:ex a d with
 | bad e p a1 d1=>simp -implicitDefEqProofs [hB]
 | ok x a1 d1=>simp -implicitDefEqProofs [hB]
include hg
theorem aED {A B:List lE}{a d:Nat}(ha:a < L.length) (hd:dk (n+1) d) (hB:KB A B):match uU L ex a d with
  | .bad e p a' d'=>KK 208 [.ptr A.length 0] (HQ A L a d B)=some (.pan (p9 e p),HQ A L a' d' B)
  | .ok l a' d'=>∃x,l=[x]∧KK 208 [.ptr A.length 0] (HQ A L a d B)=some (.ret (.slice [x.cells] (.own (HN A B+3))),HQ A L a' d' (B++[.front 0 0,.cells x.cells,.front 0 0,.front 1 5])):=by
 have h181:=d181 hL
 have h183:=d183 hL
 unfold qP at h181 h183 he
 have hd64:=hd.2
 have ev:∀r,W5 KK (.ptr A.length 0) (HQ A L a d B)=some r→KK 208 [.ptr A.length 0] (HQ A L a d B)=some r:=fun r hr=>k9 (ar5 _ _ _) hr
 unfold uU
 simp only [mK,PM.bind,uJ]
 cases hs:isS (tk L a) [91]
 ·simp only [Bool.false_eq_true,if_false]
  refine ev _ ?_
  simp -implicitDefEqProofs [W5,ha,hB,h181,hd64,hs]
 ·have ha1:=mR hK ha hs
  by_cases h64:d=64
  ·simp only [if_true,h64]
   rw [h64] at ev hd64
   refine ev _ ?_
   simp -implicitDefEqProofs [W5,ha,hB,h181,hs]
  ·have hd1:=hd.up h64
   simp only [if_true,h64,if_false]
   cases h1:ex (a+1) (d+1) with
   | bad e p a2 d2 =>
    refine ev _ ?_
    simp -implicitDefEqProofs [W5,ha,hB,h181,hd64,hs,h64,ha1,hd1,he,h1]
   | ok x a2 d2 =>
    obtain⟨g1,g2,g3⟩:=hg _ _ _ _ _ h1 ha1
    have g3:d2=d+1:=g3
    subst g3
    have h65:d≤64:=by omega
    simp only [uK]
    cases h2:isS (tk L a2) [93]
    ·simp only [Bool.false_eq_true,if_false]
     refine ev _ ?_
     simp -implicitDefEqProofs [W5,ha,hB,h181,hd64,hs,h64,ha1,hd1,he,h1,g2,h183,h65,h2]
    ·simp only [if_true,y9]
     refine⟨x,rfl,ev _ ?_⟩
     simp -implicitDefEqProofs [W5,ha,hB,h181,hd64,hs,h64,ha1,hd1,he,h1,g2,h183,h65,h2]
theorem d250 (t:Token):qP L (dk (n+1)) 207 [.agg t.cells] rW (zT L ex t):=by
 intro A B a d ha hd hB
 refine k9 (ar4 _ _ _ _) ?_
 have h181:=d181 hL
 have h183:=d183 hL
 have h260:=fun A B i a d hi ha hd hB=>aEE (A:=A) (B:=B) (i:=i) (a:=a) (d:=d) he hi ha hd hB
 unfold qP at h181 h183
 have hd64:=hd.2
 have hlt:A.length < HN A B:=Ga
 simp -implicitDefEqProofs [aFB,ha,hB,h181,hd64,zT,hlt,Dc]
 cases hs:isS (tk L a) [40]
 ·simp -implicitDefEqProofs [hB]
 ·have ha1:=mR hK ha hs
  by_cases h64:d=64
  ·simp -implicitDefEqProofs [hB,h64]
  ·have hd1:=hd.up h64
   have hB':KB A (B++[.cells [.ptr A.length 0],.cells t.cells,.cells [.int .i64 0,.int .i64 0,.int .i64 0,.str [],.slice [] (.own (HN A B+3))],.front 0 0]):=hB.app (by simp [Dc])
   have h259:=d259 hL hK (one:=ex) [41] hg ha1 hB' Has.new (fun C a ha hB=>aEE he Has.new.app ha hd1 hB)
   simp only [Token.cells] at h259
   simp -implicitDefEqProofs [hB,h64,ha1,h259,Dc,hlt]
   cases h1:yZ L [41] ex (a+1) (d+1) with
   | bad e p a2 d2=>simp -implicitDefEqProofs [hB]
   | ok l a2 d2 =>
    obtain⟨g1,g2,g3⟩:=GC hK hg _ _ _ _ _ h1 ha1
    have g3:d2=d+1:=g3
    subst g3
    have h65:d≤64:=by omega
    simp -implicitDefEqProofs [hB,g2,h183,h65,Dc,hlt]
    cases h2:isS (tk L a2) [41] <;> simp -implicitDefEqProofs [hB,XE.cells,XE.nO]
end
end
end
section
open Go Hk
def U3 (L:List Token) (ex:PM XE) (n:Nat) (l:List XE):PM (List XE):=fun a d=>match ex a d with
 | .bad e p a1 d1=>.bad e p a1 d1
 | .ok x a1 d1=>tO L ex n false (l++[x]) a1 d1
theorem ajS {L:List Token}{ex:PM XE}{n:Nat}{first:Bool}{l:List XE}{a d:Nat}:tO L ex (n+1) first l a d =
  if first=true then U3 L ex n l a d else if isS (tk L a) [44]=true then U3 L ex n l (a+1) d else .bad 10 (tk L a).pos a d:=by
 unfold U3
 rw [tO]
 cases first
 ·simp only [Bool.not_false,if_true,mK,PM.bind,oR,Bool.false_eq_true,if_false]
  cases h:isS (tk L a) [44]
  ·simp
  ·simp only [if_true]
   cases ex (a+1) d <;> rfl
 ·simp only [Bool.not_true,Bool.false_eq_true,if_false,if_true,mK,PM.bind]
  cases ex a d <;> rfl
section
variable {L:List Token}(hL:L.length≤131072) (hK:rF L)
variable {n:Nat}{ex:PM XE}(he:qP L (dk n) 182 [] rW ex) (hg:mB L 1 (fun d=>d) ex)
include hL hK he hg
def mC (A B : List lE) (kind pos : Nat) (l : List XE) : List lE :=
  [.cells [.int .i64 0, .int .i64 0, .int .i64 0, .str [], .slice [] (.own (HN A B + 1))], .front 0 0,
   .cells [.int .i64 (kind : Int), .int .i64 (pos : Int), .int .i64 0, .str [], .slice (l.map XE.cells) (.own (HN A B + 3))], .front l.length (rZ l.length 5)]
theorem abA {A B:List lE}{kind pos many d:Nat}{num:Bool}(hB:KB A B) (hd:dk n d) (hm:many≤8) (rem:Nat) (l:List XE) (a:Nat) (ha:a < L.length) (hl:l.length+rem=many) :
  ∃r,mI (C6 KK (HN A B+4)) ([.ptr A.length 0,.bool num,.ptr (HN A B) 0,.ptr (HN A B+2) 0,.int .i64 (many:Int),.int .i64 (l.length:Int)],HQ A L a d (B++mC A B kind pos l))=some r ∧
   match tO L ex rem (decide (l.length=0)) l a d with
   | .ok l' a' d'=>r=(.exit 0,[.ptr A.length 0,.bool num,.ptr (HN A B) 0,.ptr (HN A B+2) 0,.int .i64 (many:Int),.int .i64 (many:Int)],HQ A L a' d' (B++mC A B kind pos l'))
   | .bad e p a' d'=>∃vs C,r=(.pan (p9 e p),vs,HQ A L a' d' (B++C)):=by
 have h138:=d138 hL
 unfold qP at h138 he
 refine DH (σ:=List XE×Nat×Nat) (fun s=>([.ptr A.length 0,.bool num,.ptr (HN A B) 0,.ptr (HN A B+2) 0,.int .i64 (many:Int),.int .i64 (s.1.length:Int)],HQ A L s.2.1 d (B++mC A B kind pos s.1)))
  (fun s=>s.2.1 < L.length∧s.1.length+s.2.2=many) (fun s=>s.2.2)
  (fun s r=>match tO L ex s.2.2 (decide (s.1.length=0)) s.1 s.2.1 d with
   | .ok l' a' d'=>r=(.exit 0,[.ptr A.length 0,.bool num,.ptr (HN A B) 0,.ptr (HN A B+2) 0,.int .i64 (many:Int),.int .i64 (many:Int)],HQ A L a' d' (B++mC A B kind pos l'))
   | .bad e p a' d'=>∃vs C,r=(.pan (p9 e p),vs,HQ A L a' d' (B++C))) ?_ (l,a,rem) ⟨ha,hl⟩
 rintro⟨l,a,rem⟩ ⟨ha,hl⟩
 simp only at ha hl
 have hsp:∀h,kM.vM (HN A B+4) h (.ptr A.length 0)=.ptr A.length 0:=fun h=>uB Dc
 have hsp2:∀h,kM.vM (HN A B+4) h (.ptr (HN A B) 0)=.ptr (HN A B) 0:=fun h=>uB (by omega)
 have hsp3:∀h,kM.vM (HN A B+4) h (.ptr (HN A B+2) 0)=.ptr (HN A B+2) 0:=fun h=>uB (by omega)
 have hKB:∀l,KB A (B++mC A B kind pos l):=fun l=>hB.app (by simp [mC])
 have htr:∀a d l C,l9 (HN A B+4) (HQ A L a d (B++(mC A B kind pos l++C)))=some (HQ A L a d (B++mC A B kind pos l)):=fun a d l C=>by
  have:=zJ (L:=L) (a:=a) (d:=d) (A:=A) (B:=B) (C:=mC A B kind pos l++C) (k:=4) (by simpa [mC] using hKB l) (by simp [mC])
  simpa [mC] using this
 have htr0:∀a d l,l9 (HN A B+4) (HQ A L a d (B++mC A B kind pos l))=some (HQ A L a d (B++mC A B kind pos l)):=fun a d l=>by
  have:=htr a d l []
  simpa using this
 cases rem with
 | zero =>
  right
  have:(l.length:Int)=many:=by omega
  refine⟨(.exit 0,[.ptr A.length 0,.bool num,.ptr (HN A B) 0,.ptr (HN A B+2) 0,.int .i64 (many:Int),.int .i64 (many:Int)],HQ A L a d (B++mC A B kind pos l)),?_,by simp,?_⟩
  ·simp -implicitDefEqProofs only [C6,ON,OO,OP,OQ,OR,OS,Up,Nh,Ni,Uk,T3,Nb,M6,OI,OJ,OK,List.getD_cons_zero,List.getD_cons_succ,afE,af4,Gt,this,Int.lt_irrefl,decide_false,cond_false,kS,htr0,Option.map_some,aj2,al1,hsp,hsp2,hsp3,atJ,akE,Wy]
  ·simp only [tO,y9]
 | succ rem =>
  have hlt:(l.length:Int) < many:=by omega
  have hfst0:∀(hc:l=[]),C6 KK (HN A B+4) ([.ptr A.length 0,.bool num,.ptr (HN A B) 0,.ptr (HN A B+2) 0,.int .i64 (many:Int),.int .i64 (l.length:Int)],HQ A L a d (B++mC A B kind pos l)) =
    match ex a d with
    | .bad e p a1 d1=>some (.pan (p9 e p),[.ptr A.length 0,.bool num,.ptr (HN A B) 0,.ptr (HN A B+2) 0,.int .i64 (many:Int),.int .i64 (l.length:Int)],HQ A L a1 d1 (B++mC A B kind pos l))
    | .ok x a1 d1=>some (.normal,[.ptr A.length 0,.bool num,.ptr (HN A B) 0,.ptr (HN A B+2) 0,.int .i64 (many:Int),.int .i64 ((l++[x]).length:Int)],HQ A L a1 d (B++mC A B kind pos (l++[x]))):=by
   intro hc
   have ha1:=ha
   have hc1:¬0 < l.length:=by simp [hc]
   have htr1:=fun a d=>htr0 a d l
   simp only [mC] at htr1
   simp -implicitDefEqProofs [C6,mC,hlt,hB,ha,hc1,he,ha1,hd]
   cases h1:ex a d with
   | bad e p a1 d1=>simp -implicitDefEqProofs [kS,htr1,hsp,hsp2,hsp3]
   | ok x a1 d1 =>
    obtain⟨g1,g2,g3⟩:=hg _ _ _ _ _ h1 ha1
    have g3:d=d1:=g3.symm
    subst g3
    have b2:=DV (A:=A) (B:=B) (L:=L) (a:=a1) (d:=d) (C:=mC A B kind pos l++[.front 1 5]) (k:=3) (rows:=l.map XE.cells) (new:=[x.cells]) (sz:=5) (by_:=64) (sz':=rZ l.length 5) (t:=.own (HN A B+4)) (by simp [mC]) (by rw [al0]; exact AQ _ _) (by simp) (by simp) (by simp; omega) (by simp; omega)
    simp only [mC,al0,List.length_singleton,af2,ah4,List.set_cons_succ,List.set_cons_zero] at b2
    have htr2:=htr a1 d (l++[x]) [.front 1 5]
    simp only [mC,af2,ah4,List.map_append,aj2,al1,ac2,List.length_singleton,rH] at htr2
    have w1:=rS (a:=l.length) (by omega)
    simp -implicitDefEqProofs [b2,kS,htr2,hsp,hsp2,hsp3,w1,rH]
  have hfst1:∀(hc:l≠[]∧isS (tk L a) [44]=true),C6 KK (HN A B+4) ([.ptr A.length 0,.bool num,.ptr (HN A B) 0,.ptr (HN A B+2) 0,.int .i64 (many:Int),.int .i64 (l.length:Int)],HQ A L a d (B++mC A B kind pos l)) =
    match ex (a+1) d with
    | .bad e p a1 d1=>some (.pan (p9 e p),[.ptr A.length 0,.bool num,.ptr (HN A B) 0,.ptr (HN A B+2) 0,.int .i64 (many:Int),.int .i64 (l.length:Int)],HQ A L a1 d1 (B++mC A B kind pos l))
    | .ok x a1 d1=>some (.normal,[.ptr A.length 0,.bool num,.ptr (HN A B) 0,.ptr (HN A B+2) 0,.int .i64 (many:Int),.int .i64 ((l++[x]).length:Int)],HQ A L a1 d (B++mC A B kind pos (l++[x]))):=by
   intro hc
   obtain⟨hc,hs⟩:=hc
   have ha1:=mR hK ha hs
   have hc1:0 < l.length:=List.length_pos_iff.2 hc
   have htr1:=fun a d=>htr0 a d l
   simp only [mC] at htr1
   simp -implicitDefEqProofs [C6,mC,hlt,hB,ha,hc,hs,hc1,h138,he,ha1,hd]
   cases h1:ex (a+1) d with
   | bad e p a1 d1=>simp -implicitDefEqProofs [kS,htr1,hsp,hsp2,hsp3]
   | ok x a1 d1 =>
    obtain⟨g1,g2,g3⟩:=hg _ _ _ _ _ h1 ha1
    have g3:d=d1:=g3.symm
    subst g3
    have b2:=DV (A:=A) (B:=B) (L:=L) (a:=a1) (d:=d) (C:=mC A B kind pos l++[.front 1 5]) (k:=3) (rows:=l.map XE.cells) (new:=[x.cells]) (sz:=5) (by_:=64) (sz':=rZ l.length 5) (t:=.own (HN A B+4)) (by simp [mC]) (by rw [al0]; exact AQ _ _) (by simp) (by simp) (by simp; omega) (by simp; omega)
    simp only [mC,al0,List.length_singleton,af2,ah4,List.set_cons_succ,List.set_cons_zero] at b2
    have htr2:=htr a1 d (l++[x]) [.front 1 5]
    simp only [mC,af2,ah4,List.map_append,aj2,al1,ac2,List.length_singleton,rH] at htr2
    have w1:=rS (a:=l.length) (by omega)
    simp -implicitDefEqProofs [b2,kS,htr2,hsp,hsp2,hsp3,w1,rH]
  simp only [ajS,decide_eq_true_eq]
  by_cases hl0:l=[]
  ·have hf:=hfst0 hl0
   have:l.length=0:=by simp [hl0]
   rw [hf]
   simp only [this,if_true,U3]
   cases h1:ex a d with
   | bad e p a1 d1=>exact .inr ⟨_,rfl,by simp,_,_,rfl⟩
   | ok x a1 d1 =>
    obtain⟨g1,g2,g3⟩:=hg _ _ _ _ _ h1 ha
    have g3:d=d1:=g3.symm
    subst g3
    exact .inl ⟨(l++[x],a1,rem),rfl,⟨g2,by simp; omega⟩,by simp,fun r hr=>by simpa using hr⟩
  ·have h0:¬l.length=0:=by simpa using hl0
   simp only [h0,if_false]
   cases hs:isS (tk L a) [44] with
   | false =>
    right
    have hc1:0 < l.length:=by omega
    have htr1:=fun a d=>htr0 a d l
    simp only [mC] at htr1
    refine⟨(.pan (p9 10 (tk L a).pos),[.ptr A.length 0,.bool num,.ptr (HN A B) 0,.ptr (HN A B+2) 0,.int .i64 (many:Int),.int .i64 (l.length:Int)],HQ A L a d (B++mC A B kind pos l)),?_,by simp,?_⟩
    ·simp -implicitDefEqProofs [C6,mC,hlt,hB,ha,h138,hs,hc1,kS,htr1,hsp,hsp2,hsp3]
    ·simp only [Bool.false_eq_true,if_false]
     exact⟨_,_,rfl⟩
   | true =>
    have hf:=hfst1 ⟨hl0,hs⟩
    have ha1:=mR hK ha hs
    rw [hf]
    simp only [if_true,U3]
    cases h1:ex (a+1) d with
    | bad e p a1 d1=>exact .inr ⟨_,rfl,by simp,_,_,rfl⟩
    | ok x a1 d1 =>
     obtain⟨g1,g2,g3⟩:=hg _ _ _ _ _ h1 ha1
     have g3:d=d1:=g3.symm
     subst g3
     exact .inl ⟨(l++[x],a1,rem),rfl,⟨g2,by simp; omega⟩,by simp,fun r hr=>by simpa using hr⟩
theorem aJv {A B:List lE}{a d kind many:Nat}{num:Bool}(ha:a < L.length) (ha1:a+1 < L.length) (hd:dk (n+1) d) (hB:KB A B) (hm:many≤8) :
  KK 228 [.ptr A.length 0,.int .i64 (kind:Int),.int .i64 (many:Int),.bool num] (HQ A L a d B)=some ((vY L ex kind many num a d).res rW A L B):=by
 refine k9 (asC _ _ _ _ _ _) ?_
 have h76:=d76 (L:=L)
 have h181:=d181 hL
 have h183:=d183 hL
 have h138:=d138 hL
 have h139:=d139 hL 2
 unfold qP at h76 h181 h183 h138 h139
 simp only [ac7] at h139
 have hd64:=hd.2
 have w1:=rS (a:=a) (by omega)
 simp -implicitDefEqProofs [aFF,ha,ha1,hB,h76,h181,hd64,w1,vY]
 cases hs:isS (tk L (a+1)) [40]
 ·simp -implicitDefEqProofs [hB]
 ·have ha2:=mR hK ha1 hs
  by_cases h64:d=64
  ·simp -implicitDefEqProofs [hB,h64]
  ·have hd1:=hd.up h64
   obtain⟨r,h1,h2⟩:=abA hL hK he hg (kind:=kind) (pos:=(tk L a).pos) (num:=num) hB hd1 hm many [] (a+1+1) ha2 (by simp)
   simp only [al1,ad0,rB,decide_true,mC,ac7] at h1 h2
   simp -implicitDefEqProofs [hB,h64,ha2,h1]
   cases h3:tO L ex many true [] (a+1+1) (d+1) with
   | bad e p a3 d3 =>
    rw [h3] at h2
    obtain⟨vs,C,rfl⟩:=h2
    simp -implicitDefEqProofs [hB]
   | ok l a3 d3 =>
    obtain⟨g1,g2,g3⟩:=M0 hK hg _ _ _ _ _ _ _ _ h3 ha2
    have g3:d3=d+1:=g3
    subst g3
    rw [h3] at h2
    subst h2
    have h65:d≤64:=by omega
    cases num with
    | false =>
     simp -implicitDefEqProofs [hB,g2,h183,h65,mC]
     cases h4:isS (tk L a3) [41] <;> simp -implicitDefEqProofs [hB,XE.cells,XE.nO]
    | true =>
     simp -implicitDefEqProofs [hB,g2,h138,mC]
     cases h4:isS (tk L a3) [44]
     ·simp -implicitDefEqProofs [hB]
     ·have ha4:=mR hK g2 h4
      simp -implicitDefEqProofs [hB,ha4,h139]
      by_cases h5:(tk L (a3+1)).kind=2
      ·have ha5:=p8 (k:=2) hK ha4 (by decide) h5
       simp -implicitDefEqProofs [hB,h5,ha5,h183,h65]
       cases h6:isS (tk L (a3+1+1)) [41] <;> simp -implicitDefEqProofs [hB,XE.cells,XE.nO]
      ·simp -implicitDefEqProofs [hB,h5]
theorem d262:qP L (dk (n+1)) 227 [] rW (qD L ex):=by
 intro A B a d ha hd hB
 refine k9 (asB _ _ _) ?_
 have h76:=d76 (L:=L)
 have h178:=d178 (L:=L)
 have h181:=d181 hL
 have h183:=d183 hL
 have h139:=d139 hL 1
 have h250:=fun t=>d250 hL hK he hg t
 have he':=he
 unfold qP at h76 h178 h181 h183 h139 h250 he'
 simp only [ac7] at h139
 have hd64:=hd.2
 have w1:=rS (a:=a) (by omega)
 have h263:=fun B (ha1:a+1 < L.length) (hB:KB A B) kind many num hm=>aJv hL hK he hg (A:=A) (B:=B) (kind:=kind) (many:=many) (num:=num) ha ha1 hd hB hm
 simp -implicitDefEqProofs [aFE,ha,hB,h76,qD]
 by_cases hk:(tk L a).kind=2
 ·simp -implicitDefEqProofs [hk,ha,hB,w1,XE.cells,XE.rows]
 ·have hk':¬((tk L a).kind:Int)=2:=by omega
  simp -implicitDefEqProofs [hk,hk',ha,hB,h178]
  cases s0:isS (tk L a) [40]
  ·simp -implicitDefEqProofs [ha,hB,h178]
   cases s1:isS (tk L a) [109,117,108,104,105]
   ·simp -implicitDefEqProofs [ha,hB,h178]
    cases s2:isS (tk L a) [99,97,114,114,121]
    ·simp -implicitDefEqProofs [ha,hB,h178]
     cases s3:isS (tk L a) [115,101,108,101,99,116]
     ·simp -implicitDefEqProofs [ha,hB,h178]
      cases s4:isS (tk L a) [119,111,114,100]
      ·simp -implicitDefEqProofs [ha,hB,h178]
       cases s5:isS (tk L a) [114,111,114]
       ·simp -implicitDefEqProofs [ha,hB,h178,h139]
        by_cases hn:(tk L a).kind=1
        ·have ha1:=p8 (k:=1) hK ha (by decide) hn
         simp -implicitDefEqProofs [hn,ha1,hB,h178]
         cases q1:isS (tk L (a+1)) [40]
         ·simp -implicitDefEqProofs [ha1,hB,h178]
          cases q2:isS (tk L (a+1)) [91]
          ·simp -implicitDefEqProofs [ha1,hB,XE.cells,XE.rows]
          ·have i1:=aED hL hK he hg (A:=A) (B:=B++[.cells [.int .i64 0,.int .i64 0,.int .i64 0,.str [],.slice [] (.own (HN A B+1))],.front 0 0,.gone]) ha1 hd (hB.app (by simp))
           simp -implicitDefEqProofs [ha1,hB]
           cases q3:uU L ex (a+1) d with
           | bad e p a3 d3 =>
            rw [q3] at i1
            simp -implicitDefEqProofs [hB,i1]
           | ok l a3 d3 =>
            rw [q3] at i1
            obtain⟨x,rfl,i2⟩:=i1
            simp -implicitDefEqProofs [hB,i2,XE.cells,XE.rows]
         ·have h250':=h250 (tk L a)
          simp -implicitDefEqProofs [hn] at h250'
          simp -implicitDefEqProofs [ha1,hB,h250',hd]
          cases q3:zT L ex (tk L a) (a+1) d with
          | bad e p a3 d3=>simp -implicitDefEqProofs [hB]
          | ok x a3 d3=>simp -implicitDefEqProofs [hB]
        ·simp -implicitDefEqProofs [hn,hB]
       ·have ha1:=mR hK ha s5
        have h263':=fun B hB=>h263 B ha1 hB 16 1 true (by decide)
        simp only [ac7] at h263'
        simp -implicitDefEqProofs [hB,h263']
        cases q3:vY L ex 16 1 true a d with
        | bad e p a3 d3=>simp -implicitDefEqProofs [hB]
        | ok x a3 d3=>simp -implicitDefEqProofs [hB]
      ·have ha1:=mR hK ha s4
       have h263':=fun B hB=>h263 B ha1 hB 26 1 false (by decide)
       simp only [ac7] at h263'
       simp -implicitDefEqProofs [hB,h263']
       cases q3:vY L ex 26 1 false a d with
       | bad e p a3 d3=>simp -implicitDefEqProofs [hB]
       | ok x a3 d3=>simp -implicitDefEqProofs [hB]
     ·have ha1:=mR hK ha s3
      have h263':=fun B hB=>h263 B ha1 hB 25 3 false (by decide)
      simp only [ac7] at h263'
      simp -implicitDefEqProofs [hB,h263']
      cases q3:vY L ex 25 3 false a d with
      | bad e p a3 d3=>simp -implicitDefEqProofs [hB]
      | ok x a3 d3=>simp -implicitDefEqProofs [hB]
    ·have ha1:=mR hK ha s2
     have h263':=fun B hB=>h263 B ha1 hB 24 2 false (by decide)
     simp only [ac7] at h263'
     simp -implicitDefEqProofs [hB,h263']
     cases q3:vY L ex 24 2 false a d with
     | bad e p a3 d3=>simp -implicitDefEqProofs [hB]
     | ok x a3 d3=>simp -implicitDefEqProofs [hB]
   ·have ha1:=mR hK ha s1
    have h263':=fun B hB=>h263 B ha1 hB 23 2 false (by decide)
    simp only [ac7] at h263'
    simp -implicitDefEqProofs [hB,h263']
    cases q3:vY L ex 23 2 false a d with
    | bad e p a3 d3=>simp -implicitDefEqProofs [hB]
    | ok x a3 d3=>simp -implicitDefEqProofs [hB]
  ·have ha1:=mR hK ha s0
   simp -implicitDefEqProofs [hB,ha,h181,hd64,s0]
   by_cases h64:d=64
   ·simp -implicitDefEqProofs [hB,h64]
   ·have hd1:=hd.up h64
    simp -implicitDefEqProofs [hB,h64,ha1,hd1,he']
    cases q1:ex (a+1) (d+1) with
    | bad e p a2 d2=>simp -implicitDefEqProofs [hB]
    | ok x a2 d2 =>
     obtain⟨g1,g2,g3⟩:=hg _ _ _ _ _ q1 ha1
     have g3:d2=d+1:=g3
     subst g3
     have h65:d≤64:=by omega
     simp -implicitDefEqProofs [hB,g2,h183,h65]
     cases q2:isS (tk L a2) [41] <;> simp -implicitDefEqProofs [hB]
end
end
section
open Go Hk
section
variable {L:List Token}(hL:L.length≤131072) (hK:rF L)
variable {n:Nat}{ex un:PM XE}(he:qP L (dk n) 182 [] rW ex) (hg:mB L 1 (fun d=>d) ex) (hu:qP L (dk n) 220 [] rW un) (hgu:mB L 1 (fun d=>d) un)
include hL hK he hg hu hgu
theorem d257:qP L (dk (n+1)) 220 [] rW (yB L ex un):=by
 intro A B a d ha hd hB
 refine k9 (ar7 _ _ _) ?_
 have h76:=d76 (L:=L)
 have h178:=d178 (L:=L)
 have h181:=d181 hL
 have h262:=d262 hL hK he hg
 have hu':=hu
 unfold qP at h76 h178 h181 h262 hu'
 have hd64:=hd.2
 simp -implicitDefEqProofs [aFC,ha,hB,h76,h178,yB]
 have key:∀s:List UInt8,isS (tk L a) s=true→(tk L a).text=s:=by
  intro s hs
  simp [isS] at hs
  exact hs.2
 cases s1:isS (tk L a) [126]
 ·simp -implicitDefEqProofs [ha,hB,h178]
  cases s2:isS (tk L a) [45]
  ·simp -implicitDefEqProofs [ha,hB,h178]
   cases s3:isS (tk L a) [33]
   ·simp -implicitDefEqProofs [ha,hB,h262,hd]
    cases q:qD L ex a d with
    | bad e p a1 d1=>simp -implicitDefEqProofs [hB]
    | ok x a1 d1=>simp -implicitDefEqProofs [hB]
   ·have ha1:=mR hK ha s3
    have ht:=key _ s3
    simp -implicitDefEqProofs [ha,hB,h181,hd64,AK,ht,s3]
    by_cases h64:d=64
    ·simp -implicitDefEqProofs [hB,h64]
    ·have hd1:=hd.up h64
     simp -implicitDefEqProofs [hB,h64,ha1,hd1,hu']
     cases q:un (a+1) (d+1) with
     | bad e p a1 d1=>simp -implicitDefEqProofs [hB]
     | ok x a1 d1 =>
      obtain⟨g1,g2,g3⟩:=hgu _ _ _ _ _ q ha1
      have g3:d1=d+1:=g3
      subst g3
      have w1:=wrapN (a:=d) (by omega)
      simp -implicitDefEqProofs [hB,w1,XE.cells,XE.rows]
  ·have ha1:=mR hK ha s2
   have ht:=key _ s2
   simp -implicitDefEqProofs [ha,hB,h181,hd64,AK,ht,s2]
   by_cases h64:d=64
   ·simp -implicitDefEqProofs [hB,h64]
   ·have hd1:=hd.up h64
    simp -implicitDefEqProofs [hB,h64,ha1,hd1,hu']
    cases q:un (a+1) (d+1) with
    | bad e p a1 d1=>simp -implicitDefEqProofs [hB]
    | ok x a1 d1 =>
     obtain⟨g1,g2,g3⟩:=hgu _ _ _ _ _ q ha1
     have g3:d1=d+1:=g3
     subst g3
     have w1:=wrapN (a:=d) (by omega)
     simp -implicitDefEqProofs [hB,w1,XE.cells,XE.rows]
 ·have ha1:=mR hK ha s1
  have ht:=key _ s1
  simp -implicitDefEqProofs [ha,hB,h181,hd64,AK,ht,s1]
  by_cases h64:d=64
  ·simp -implicitDefEqProofs [hB,h64]
  ·have hd1:=hd.up h64
   simp -implicitDefEqProofs [hB,h64,ha1,hd1,hu']
   cases q:un (a+1) (d+1) with
   | bad e p a1 d1=>simp -implicitDefEqProofs [hB]
   | ok x a1 d1 =>
    obtain⟨g1,g2,g3⟩:=hgu _ _ _ _ _ q ha1
    have g3:d1=d+1:=g3
    subst g3
    have w1:=wrapN (a:=d) (by omega)
    simp -implicitDefEqProofs [hB,w1,XE.cells,XE.rows]
end
end
section
open Go Hk
theorem ajT {L:List Token}{next:PM XE}{k n a d:Nat}{x:XE}:tP L next k (n+1) x a d=match pO (tk L a) k with
  | none=>.ok x a d
  | some kind=>if kind=14∨kind=15 then(if (tk L (a+1)).kind=2 then tP L next k n (.mk kind (tk L a).pos (tk L (a+1)).num [] [x]) (a+1+1) d else .bad 10 (tk L (a+1)).pos (a+1) d)
    else match next (a+1) d with
     | .bad e p a2 d2=>.bad e p a2 d2
     | .ok y a2 d2=>tP L next k n (.mk kind (tk L a).pos 0 [] [x,y]) a2 d2:=by
 rw [tP]
 simp only [mK,PM.bind,oQ]
 cases pO (tk L a) k with
 | none=>rfl
 | some kind =>
  by_cases h:kind=14∨kind=15
  ·by_cases h2:(tk L (a+1)).kind=2 <;> simp [h,h2]
  ·simp only [h,if_false,mK,PM.bind,xU]
   cases next (a+1) d <;> rfl
def xN (h:kP) (id:Nat):Bool:=match h[id]? with
 | some .free=>true
 | _=>false
theorem Nc {h:kP}{id:Nat}:xN h id=true→h[id]?=some .free:=by
 unfold xN
 split
 ·rename_i e; exact fun _=>e
 ·intro h; cases h
section
variable {A B C:List lE}{L:List Token}{a d k:Nat}{h:kP}
@[simp] theorem av7 {r:kP}:xN (.free::r) 0=true:=(rfl)
@[simp] theorem av6 {b:lE}{r:kP}{n:Nat}:xN (b::r) (n+1)=xN r n:=(rfl)
@[simp] theorem aHu:xN (HQ A L a d (B++C)) (HN A B+k)=xN C k:=by unfold xN; rw [L6]
theorem yJ {id n:Nat}{v:kM}(hf:xN h id=true):vS id n h v=if v.cells.length=n∧v.cells.all kM.mD then some (.ptr id 0,h.set id (.cells v.cells)) else none:=by
 unfold vS
 simp only [Nc hf]
theorem X6 {x:XE}{id:Nat}(hf:xN h id=true):qW id 1 5 [.int .i64 0,.int .i64 0,.int .i64 0,.str [],.slice [] .nil] [(0,.agg x.cells)] h=some (.slice [x.cells] (.own id),h.set id (.front 1 5)):=by
 have:=alT (x:=x) (h:=h)
 unfold kW at this
 unfold qW
 simp only [Nc hf]
 split at this
 ·rename_i rows hr
  cases this
  simp only [hr]
 ·cases this
theorem am3 (hk:k≤C.length):List.take (HN A B+k) (HQ A L a d (B++C))=HQ A L a d (B++C.take k):=by
 have e:HQ A L a d (B++C)=HQ A L a d (B++C.take k)++C.drop k:=by rw [L5,af9,List.take_append_drop]
 rw [e]
 have:HN A B+k=(HQ A L a d (B++C.take k)).length:=by rw [II,Dd,ak8,Nat.min_eq_left hk]
 rw [this,List.take_left]
theorem amX (hk:k≤C.length):List.drop (HN A B+k) (HQ A L a d (B++C))=C.drop k:=by
 have e:HQ A L a d (B++C)=HQ A L a d (B++C.take k)++C.drop k:=by rw [L5,af9,List.take_append_drop]
 rw [e]
 have:HN A B+k=(HQ A L a d (B++C.take k)).length:=by rw [II,Dd,ak8,Nat.min_eq_left hk]
 rw [this,List.drop_left]
theorem Hd {n : Nat} : ∀ {cs : List kM}, B_ n cs → cs.all (kM.nP n) = true
  | [], _ => rfl
  | v :: cs, hc => by
    have key : ∀ h, (v.mO n h).mD = true ∧ v.mO n h = v ∧ nI n h cs = some cs := fun h => by
      have := hc n h (ac5 _)
      rw [tK] at this
      cases he : (v.mO n h).mD with
      | false => rw [he] at this; cases this
      | true =>
        rw [he] at this
        simp only [cond_true, ac6, List.cons.injEq] at this
        obtain ⟨r, h1, h2, h3⟩ := this
        subst h3
        exact ⟨rfl, h2, h1⟩
    have hcs : B_ n cs := fun m h hm => by
      have := hc m h hm
      rw [tK] at this
      cases he : (v.mO m h).mD with
      | false => rw [he] at this; cases this
      | true =>
        rw [he] at this
        simp only [cond_true, ac6, List.cons.injEq] at this
        obtain ⟨r, h1, h2, h3⟩ := this
        subst h3; exact h1
    rw [List.all_cons, Hd hcs, Bool.and_true]
    obtain ⟨h1, h2, _⟩ := key []
    have nj : v.mO n [] ≠ .junk := by intro e; rw [e] at h1; cases h1
    cases v with
    | slice rows t =>
      cases t with
      | own id =>
        rw [Vm] at h2
        cases hd : decide (id < n) with
        | true => simpa [kM.nP, kM.pE, qA] using hd
        | false => rw [hd] at h2; simp at h2
      | _ => rfl
    | ptr id off =>
      cases hd : decide (id < n) with
      | true => simpa [kM.nP, kM.pE, qA] using hd
      | false => exact absurd (by simp [kM.mO, hd]) nj
    | mslice id off len sz =>
      cases hd : decide (id < n) with
      | true => simpa [kM.nP, kM.pE, qA] using hd
      | false => exact absurd (by simp [kM.mO, hd]) nj
    | vslice id tot off len sz =>
      cases hd : decide (id < n) with
      | true => simpa [kM.nP, kM.pE, qA] using hd
      | false => simp [kM.mO, hd, kM.nP, kM.pE, qA] at nj h2
    | _ =>
      simp only [kM.mO] at nj
      first
        | (cases hs : kM.nP n _ with
           | true => rfl
           | false => rw [hs] at nj; exact absurd rfl nj)
        | rfl
theorem Ma {n:Nat}:∀{C:List lE},De n C→C.all (sS n)=true
 | [],_=>rfl
 | b::C,hc=>by
  have hC:De n C:=fun m h hm=>by
   have:=hc m h hm
   rw [oM,aa2] at this
   obtain⟨b',h1,h2⟩:=this
   rw [ac6] at h2
   obtain⟨r,h3,h4⟩:=h2
   cases h4; exact h3
  have hb:∀m h,n≤m→pF m h b=some b:=fun m h hm=>by
   have:=hc m h hm
   rw [oM,aa2] at this
   obtain⟨b',h1,h2⟩:=this
   rw [ac6] at h2
   obtain⟨r,h3,h4⟩:=h2
   cases h4; exact h1
  rw [List.all_cons,Ma hC,Bool.and_true]
  cases b with
  | cells cs =>
   refine Hd (n:=n) fun m h hm=>?_
   have:=hb m h hm
   rw [Io,ac6] at this
   obtain⟨r,h1,h2⟩:=this
   cases h2; exact h1
  | vec tot sz cs =>
   refine Hd (n:=n) fun m h hm=>?_
   have:=hb m h hm
   simp only [pF,ac6] at this
   obtain⟨r,h1,h2⟩:=this
   cases h2; exact h1
  | tcells t cs =>
   refine Hd (n:=n) fun m h hm=>?_
   have:=hb m h hm
   simp only [pF,ac6] at this
   obtain⟨r,h1,h2⟩:=this
   cases h2; exact h1
  | map es =>
   have:=hb n [] (ac5 _)
   simp only [pF] at this
   cases he:es.all (fun e=>e.2.nP n) with
   | true=>exact he
   | false=>rw [he] at this; cases this
  | _=>rfl
theorem am2 {m:Nat}(hB:KB A B) (hm:m=HN A B):(HQ A L a d B).all (sS m)=true:=by
 subst hm
 unfold HQ
 rw [List.all_append,List.all_cons,Ma (hB.a _ (ac5 _)),Ma (hB.b _ (ac5 _))]
 rfl
theorem Xz {m i o:Nat}(hi:i < m):vL m (.ptr i o)=.ptr i o:=by simp [vL,kM.nP,kM.pE,qA,hi]
theorem Uu {m:Nat}{kv:kM→kP→Option R}{v:kM}{h':kP}:EY m h kv (.normal,[v],h')=bif h'.length == m then kv v (h'++h.drop m) else none:=(rfl)
theorem Ft {C1 C1' C2:List lE}(hB:KB A B) (hk:k=C1.length) (hs:nK (HN A B+k) (HQ A L a d (B++(C1++C2))) C1=some C1') :
  l9 (HN A B+k) (HQ A L a d (B++(C1++C2)))=some (HQ A L a d (B++C1')):=by
 subst hk
 have e:HQ A L a d (B++(C1++C2))=HQ A L a d (B++C1)++C2:=by rw [L5,af9]
 have hl:HN A B+C1.length=(HQ A L a d (B++C1)).length:=by rw [II,Dd]
 have app:∀{m:Nat}{h:kP}{X Y X' Y':List lE},nK m h X=some X'→nK m h Y=some Y'→nK m h (X++Y)=some (X'++Y'):=by
  intro m h X
  induction X with
  | nil=>intro Y X' Y' h1 h2; simp [nK] at h1; subst h1; exact h2
  | cons b r ih =>
   intro Y X' Y' h1 h2
   rw [oM,aa2] at h1
   obtain⟨b',e1,e2⟩:=h1
   rw [ac6] at e2
   obtain⟨r',e3,rfl⟩:=e2
   rw [af2,oM,e1,af4,ih e3 h2]
   rfl
 unfold Hk.l9
 rw [show List.take (HN A B+C1.length) (HQ A L a d (B++(C1++C2)))=HQ A L a d (B++C1) by rw [e,hl,List.take_left]]
 unfold HQ at hs ⊢
 have hPB:∀m h,pF m h (PB L a d)=some (PB L a d):=fun _ _=>rfl
 refine app (hB.a _ (ac5 _) _ _ (by omega)) ?_
 rw [oM,hPB,af4,app (hB.b _ (ac5 _) _ _ (by omega)) hs]
 rfl
end
end
section
open Go Hk
@[simp] theorem auR {x:XE}:x.cells.drop 5=[]:=List.drop_eq_nil_iff.2 (by simp)
@[simp] theorem aLS {h:kP}{os:List kM}{k1 k2 k3:IntKind}{z1 z2 z3:Int}{w:List UInt8}{rows:List (List kM)}{id:Nat} :
  pV h os [.int k1 z1,.int k2 z2,.int k3 z3,.str w,.slice rows (.own id)]=[.int k1 z1,.int k2 z2,.int k3 z3,.str w,.slice rows (.own id)] :=
 rA (by
  intro c hc
  simp only [List.mem_cons,List.not_mem_nil,or_false] at hc
  rcases hc with rfl | rfl | rfl | rfl | rfl <;> first | rfl | (cases rows <;> rfl))
def hC (A B:List lE) (x:XE):List lE :=
 [.cells [.int .i64 0,.int .i64 0,.int .i64 0,.str [],.slice [] (.own (HN A B+1))],.front 0 0,.cells x.cells,.front 0 0]
section
variable {L:List Token}(hL:L.length≤131072) (hK:rF L)
variable {n:Nat}{next:PM XE}{k:Nat}(hn:qP L (dk n) 205 [.int .i64 ((k+1:Nat):Int)] rW next) (hgn:mB L 1 (fun d=>d) next)
include hL hK hn hgn
theorem Wq {A B:List lE}{d:Nat}(hB:KB A B) (hd:dk n d) (hk:k≤6) (x:XE) (a:Nat) (ha:a < L.length) :
  H0 KK (HN A B+4) ([.ptr A.length 0,.int .i64 (k:Int),.ptr (HN A B) 0,.ptr (HN A B+2) 0],HQ A L a d (B++hC A B x)) =
   match pO (tk L a) k with
   | none=>some (.ret,[.ptr A.length 0,.int .i64 (k:Int),.ptr (HN A B) 0,.ptr (HN A B+2) 0],HQ A L a d (B++[.cells x.cells,.front 0 0,.cells x.cells,.front 0 0]))
   | some kind=>if kind=14∨kind=15 then(if (tk L (a+1)).kind=2 then
      some (.normal,[.ptr A.length 0,.int .i64 (k:Int),.ptr (HN A B) 0,.ptr (HN A B+2) 0],HQ A L (a+1+1) d (B++hC A B (.mk kind (tk L a).pos (tk L (a+1)).num [] [x])))
     else some (.pan (p9 10 (tk L (a+1)).pos),[.ptr A.length 0,.int .i64 (k:Int),.ptr (HN A B) 0,.ptr (HN A B+2) 0],HQ A L (a+1) d (B++hC A B x)))
    else match next (a+1) d with
     | .bad e p a2 d2=>some (.pan (p9 e p),[.ptr A.length 0,.int .i64 (k:Int),.ptr (HN A B) 0,.ptr (HN A B+2) 0],HQ A L a2 d2 (B++hC A B x))
     | .ok y a2 d2=>some (.normal,[.ptr A.length 0,.int .i64 (k:Int),.ptr (HN A B) 0,.ptr (HN A B+2) 0],HQ A L a2 d (B++hC A B (.mk kind (tk L a).pos 0 [] [x,y]))):=by
 have h249:=d249 (L:=L) k
 have h76:=d76 (L:=L)
 have h139:=d139 hL 2
 unfold qP at h249 h76 h139 hn
 simp only [ac7,ag1,ac7] at h139 hn
 have hsp:∀h,kM.vM (HN A B+4) h (.ptr A.length 0)=.ptr A.length 0:=fun h=>uB Dc
 have hsp2:∀h,kM.vM (HN A B+4) h (.ptr (HN A B) 0)=.ptr (HN A B) 0:=fun h=>uB (by omega)
 have hsp3:∀h,kM.vM (HN A B+4) h (.ptr (HN A B+2) 0)=.ptr (HN A B+2) 0:=fun h=>uB (by omega)
 have hKB:KB A (B++hC A B x):=hB.app (by simp [hC])
 have hKB2:KB A (B++[.cells x.cells,.front 0 0,.cells x.cells,.front 0 0]):=hB.app (by simp)
 have htr:∀a d C,l9 (HN A B+4) (HQ A L a d (B++(hC A B x++C)))=some (HQ A L a d (B++hC A B x)):=fun a d C=>by
  have:=zJ (L:=L) (a:=a) (d:=d) (A:=A) (B:=B) (C:=hC A B x++C) (k:=4) (by simpa [hC] using hKB) (by simp [hC])
  simpa [hC] using this
 have htr0:=fun a d=>htr a d []
 have htr2:∀a d C,l9 (HN A B+4) (HQ A L a d (B++([.cells x.cells,.front 0 0,.cells x.cells,.front 0 0]++C)))=some (HQ A L a d (B++[.cells x.cells,.front 0 0,.cells x.cells,.front 0 0])):=fun a d C=>by
  have:=zJ (L:=L) (a:=a) (d:=d) (A:=A) (B:=B) (C:=[.cells x.cells,.front 0 0,.cells x.cells,.front 0 0]++C) (k:=4) (by simpa using hKB2) (by simp)
  simpa using this
 have htr20:=fun a d=>htr2 a d []
 have htrG:∀a d (z1 z2 z3:Int) rows C,l9 (HN A B+4) (HQ A L a d (B++(.cells [.int .i64 0,.int .i64 0,.int .i64 0,.str [],.slice [] (.own (HN A B+1))]::.front 0 0::.cells [.int .i64 z1,.int .i64 z2,.int .i64 z3,.str [],.slice rows (.own (HN A B+4))]::.front 0 0::C))) =
   some (HQ A L a d (B++[.cells [.int .i64 0,.int .i64 0,.int .i64 0,.str [],.slice [] (.own (HN A B+1))],.front 0 0,.cells [.int .i64 z1,.int .i64 z2,.int .i64 z3,.str [],.slice rows .no],.front 0 0])):=fun a d z1 z2 z3 rows C =>
  Ft (C1:=[.cells [.int .i64 0,.int .i64 0,.int .i64 0,.str [],.slice [] (.own (HN A B+1))],.front 0 0,.cells [.int .i64 z1,.int .i64 z2,.int .i64 z3,.str [],.slice rows (.own (HN A B+4))],.front 0 0]) (C2:=C) hB rfl (by simp)
 simp only [hC,List.append_nil,af2,ah4] at htr htr0 htr20
 have w1:=rS (a:=a) (by omega)
 have w2:=rS (a:=k) (by omega)
 cases hs:pO (tk L a) k with
 | none =>
  have h1:=Vr hs
  simp -implicitDefEqProofs [H0,hC,ha,hB,h249,h1,kS,htr20,hsp,hsp2,hsp3]
 | some kind =>
  have h1:=Vt hs
  have ha1:=p8 (k:=4) hK ha (by decide) (sO hs)
  simp -implicitDefEqProofs [H0,hC,ha,hB,h249,h1,X6,yJ,am3,amX,am2,Xz,Dc,Uu,h76,w1,kS,htr0,hsp,hsp2,hsp3]
  by_cases k14:kind=14∨kind=15
  ·have k14':(kind:Int)=14∨(kind:Int)=15:=by omega
   have fin:∀b:Bool,b=true→True:=fun _ _=>trivial
   by_cases h2:(tk L (a+1)).kind=2
   ·rcases k14 with rfl | rfl <;> simp -implicitDefEqProofs [ha1,hB,h139,h2,kS,htrG,hsp,hsp2,hsp3,XE.cells,XE.rows]
   ·rcases k14 with rfl | rfl <;> simp -implicitDefEqProofs [ha1,hB,h139,h2,kS,htr,hsp,hsp2,hsp3]
  ·have k14':¬(kind:Int)=14:=by omega
   have k15':¬(kind:Int)=15:=by omega
   simp -implicitDefEqProofs [ha1,hB,hn,hd,w2,k14,k14',k15']
   cases q:next (a+1) d with
   | bad e p a2 d2=>simp -implicitDefEqProofs [hB,kS,htr,hsp,hsp2,hsp3]
   | ok y a2 d2 =>
    obtain⟨g1,g2,g3⟩:=hgn _ _ _ _ _ q ha1
    have g3:d=d2:=g3.symm
    subst g3
    have b2:=DV (A:=A) (B:=B) (L:=L) (a:=a2) (d:=d) (C:=[.cells [.int .i64 0,.int .i64 0,.int .i64 0,.str [],.slice [] (.own (HN A B+1))],.front 0 0,.cells x.cells,.front 0 0,.front 1 5,.cells [.int .i64 (kind:Int),.int .i64 ((tk L a).pos:Int),.int .i64 0,.str [],.slice [x.cells] (.own (HN A B+4))],.front 1 5]) (k:=4) (rows:=[x.cells]) (new:=[y.cells]) (sz:=5) (by_:=64) (sz':=5) (t:=.own (HN A B+6)) (by simp) (.inl rfl) (by simp) (by simp) (by simp) (by simp)
    simp only [List.length_singleton,af2,ah4,List.set_cons_succ,List.set_cons_zero] at b2
    simp -implicitDefEqProofs [hB,b2,kS,htrG,hsp,hsp2,hsp3,XE.cells,XE.rows]
theorem aa8 {A B:List lE}{d:Nat}(hB:KB A B) (hd:dk n d) (hk:k≤6) (m:Nat) (x:XE) (a:Nat) (ha:a < L.length) (hm:L.length < a+m) :
  ∃r,mI (H0 KK (HN A B+4)) ([.ptr A.length 0,.int .i64 (k:Int),.ptr (HN A B) 0,.ptr (HN A B+2) 0],HQ A L a d (B++hC A B x))=some r ∧
   match tP L next k m x a d with
   | .ok x' a' d'=>r=(.ret,[.ptr A.length 0,.int .i64 (k:Int),.ptr (HN A B) 0,.ptr (HN A B+2) 0],HQ A L a' d' (B++[.cells x'.cells,.front 0 0,.cells x'.cells,.front 0 0]))
   | .bad e p a' d'=>∃vs C,r=(.pan (p9 e p),vs,HQ A L a' d' (B++C)):=by
 refine DH (σ:=XE×Nat×Nat) (fun s=>([.ptr A.length 0,.int .i64 (k:Int),.ptr (HN A B) 0,.ptr (HN A B+2) 0],HQ A L s.2.1 d (B++hC A B s.1)))
  (fun s=>s.2.1 < L.length∧L.length < s.2.1+s.2.2) (fun s=>s.2.2)
  (fun s r=>match tP L next k s.2.2 s.1 s.2.1 d with
   | .ok x' a' d'=>r=(.ret,[.ptr A.length 0,.int .i64 (k:Int),.ptr (HN A B) 0,.ptr (HN A B+2) 0],HQ A L a' d' (B++[.cells x'.cells,.front 0 0,.cells x'.cells,.front 0 0]))
   | .bad e p a' d'=>∃vs C,r=(.pan (p9 e p),vs,HQ A L a' d' (B++C))) ?_ (x,a,m) ⟨ha,hm⟩
 rintro⟨x,a,m⟩ ⟨ha,hm⟩
 simp only at ha hm
 obtain⟨m,rfl⟩:∃j,m=j+1:=⟨m - 1,by omega⟩
 simp only [ajT,Wq hL hK hn hgn hB hd hk x a ha]
 cases hs:pO (tk L a) k with
 | none=>exact .inr ⟨_,rfl,by simp,rfl⟩
 | some kind =>
  have ha1:=p8 (k:=4) hK ha (by decide) (sO hs)
  by_cases k14:kind=14∨kind=15
  ·by_cases h2:(tk L (a+1)).kind=2
   ·left
    have ha2:=p8 (k:=2) hK ha1 (by decide) h2
    refine⟨(.mk kind (tk L a).pos (tk L (a+1)).num [] [x],a+1+1,m),?_,⟨ha2,by simp; omega⟩,by simp,fun r hr=>?_⟩
    ·simp only [k14,h2,if_true]
    ·simp only [k14,h2,if_true]; exact hr
   ·right
    refine⟨(.pan (p9 10 (tk L (a+1)).pos),[.ptr A.length 0,.int .i64 (k:Int),.ptr (HN A B) 0,.ptr (HN A B+2) 0],HQ A L (a+1) d (B++hC A B x)),?_,by simp,?_⟩
    ·simp only [k14,h2,if_true,if_false]
    ·simp only [k14,h2,if_true,if_false]
     exact⟨_,_,rfl⟩
  ·simp only [k14,if_false]
   cases q:next (a+1) d with
   | bad e p a2 d2=>exact .inr ⟨_,rfl,by simp,_,_,rfl⟩
   | ok y a2 d2 =>
    obtain⟨g1,g2,g3⟩:=hgn _ _ _ _ _ q ha1
    have g3:d=d2:=g3.symm
    subst g3
    exact .inl ⟨(.mk kind (tk L a).pos 0 [] [x,y],a2,m),rfl,⟨g2,by simp; omega⟩,by simp,fun r hr=>hr⟩
end
section
variable {L:List Token}(hL:L.length≤131072) (hK:rF L)
variable {n:Nat}{un:PM XE}(hu:qP L (dk n) 220 [] rW un) (hgu:mB L 1 (fun d=>d) un)
include hL hK hu hgu
theorem d248:∀(j k:Nat),j+k=7→qP L (dk n) 205 [.int .i64 (k:Int)] rW (pD L un j)
 | 0,k,hk=>by
  intro A B a d ha hd hB
  have hk7:k=7:=by omega
  subst hk7
  refine k9 (Zj _ _ _ _) ?_
  unfold qP at hu
  simp -implicitDefEqProofs [aAH,pD,ha,hd,hB,hu]
  cases q:un a d with
  | bad e p a1 d1=>simp -implicitDefEqProofs [hB]
  | ok x a1 d1=>simp -implicitDefEqProofs [hB]
 | j+1,k,hk=>by
  intro A B a d ha hd hB
  have ih:=d248 j (k+1) (by omega)
  have hgc:=BQ hK hgu j
  have ih':=ih
  unfold qP at ih'
  simp only [ag1,ac7] at ih'
  have hk6:k≤6:=by omega
  have hj:6 - j=k:=by omega
  have hk6':¬(6:Int) < k:=by omega
  have w2:=rS (a:=k) (by omega)
  refine k9 (Zj _ _ _ _) ?_
  simp only [pD,hj]
  simp -implicitDefEqProofs [aAH,ha,hd,hB,hk6',w2,ih']
  cases q:pD L un j a d with
  | bad e p a1 d1=>simp -implicitDefEqProofs [hB]
  | ok x a1 d1 =>
   obtain⟨g1,g2,g3⟩:=hgc _ _ _ _ _ q ha
   have g3:d=d1:=g3.symm
   subst g3
   obtain⟨r,h1,h2⟩:=aa8 hL hK ih hgc hB hd hk6 131073 x a1 g2 (by omega)
   simp only [hC] at h1
   simp -implicitDefEqProofs [hB,h1]
   cases q2:tP L (pD L un j) k 131073 x a1 d with
   | bad e p a2 d2 =>
    rw [q2] at h2
    obtain⟨vs,C,rfl⟩:=h2
    simp -implicitDefEqProofs [hB]
   | ok x' a2 d2 =>
    rw [q2] at h2
    subst h2
    simp -implicitDefEqProofs [hB]
end
end
section
open Go Hk
theorem KV:∀{a b a' b':List kM},n_ a=some a'→n_ b=some b'→n_ (a++b)=some (a'++b')
 | [],b,a',b',h1,h2=>by simp only [n_,ab0] at h1; subst h1; exact h2
 | v::r,b,a',b',h1,h2=>by
  simp only [n_] at h1
  split at h1
  ·rename_i x y e1 e2
   simp only [ab0] at h1
   subst h1
   simp only [af2,n_,e1,KV e2 h2]
  ·cases h1
@[simp] theorem aD2 {x y:XE}{h:kP}:kW 2 5 [.int .i64 0,.int .i64 0,.int .i64 0,.str [],.slice [] .nil] [(0,.agg x.cells),(1,.agg y.cells)] h=some (.slice [x.cells,y.cells] (.own h.length),h++[.front 2 5]):=by
 have e1:lS (List.replicate 2 [kM.int .i64 0,.int .i64 0,.int .i64 0,.str [],.slice [] .nil]).flatten ((List.range 2).map fun i=>(i * 5,5)) [(0,.agg x.cells),(1,.agg y.cells)]=some (.agg (x.cells++y.cells)):=by
  simp [lS,putCells,kM.pL,List.range_succ]
 have e2:=KV (XE.row.pure x) (XE.row.pure y)
 have e3:(x.cells++y.cells).all kM.mD=true:=by rw [List.all_append,XE.row.ok x,XE.row.ok y]; rfl
 simp only [kW,tS,e1,e2,e3,rowsOf]
 rw [if_pos ⟨rfl,trivial⟩]
 rw [List.take_append_of_le_length (by simp),Z6,List.drop_append_of_le_length (by simp),auR,ah4,Z6]
section
variable {L:List Token}(hL:L.length≤131072) (hK:rF L)
include hL hK
theorem d230 {n:Nat}{un:PM XE}(hu:qP L (dk n) 220 [] rW un) (hgu:mB L 1 (fun d=>d) un):qP L (dk n) 182 [] rW (Bj L un):=by
 intro A B a d ha hd hB
 have h248:=d248 hL hK hu hgu 6 1 rfl
 have hgc:=BQ hK hgu 6
 have h249:=d249 (L:=L) 0
 have h76:=d76 (L:=L)
 unfold qP at h248 h249 h76
 simp only [ac7] at h248 h249
 refine k9 (arU _ _ _) ?_
 simp -implicitDefEqProofs [aFz,Bj,ha,hd,hB,h248]
 cases q:pD L un 6 a d with
 | bad e p a1 d1=>simp -implicitDefEqProofs [hB]
 | ok x a1 d1 =>
  obtain⟨g1,g2,g3⟩:=hgc _ _ _ _ _ q ha
  have g3:d=d1:=g3.symm
  subst g3
  simp -implicitDefEqProofs [hB,g2,h249]
  cases hs:pO (tk L a1) 0 with
  | none =>
   have h1:=Vr hs
   simp -implicitDefEqProofs [hB,h1]
  | some kind =>
   have h1:=Vt hs
   have ha1:=p8 (k:=4) hK g2 (by decide) (sO hs)
   have w1:=rS (a:=a1) (by omega)
   simp -implicitDefEqProofs [hB,h1,g2,h76,w1,ha1,h248,hd]
   cases q2:pD L un 6 (a1+1) d with
   | bad e p a2 d2=>simp -implicitDefEqProofs [hB]
   | ok y a2 d2 =>
    obtain⟨k1,k2,k3⟩:=hgc _ _ _ _ _ q2 ha1
    have k3:d=d2:=k3.symm
    subst k3
    simp -implicitDefEqProofs [hB,XE.cells,XE.rows]
theorem XO:∀n,qP L (dk n) 220 [] rW (EC L n)
 | 0=>fun A B a d ha hd=>by have h1:=hd.1; have h2:=hd.2; omega
 | n+1=>d257 hL hK (d230 hL hK (XO n) (RW hK n)) (Dh hK n) (XO n) (RW hK n)
theorem Wx (n:Nat):qP L (dk n) 182 [] rW (B1 L n):=d230 hL hK (XO hL hK n) (RW hK n)
theorem d229 (n:Nat):qP L (dk n) 181 [] Pt (Bu L n):=by
 intro A B a d ha hd hB
 have he:=Wx hL hK n
 have hg:=Dh hK n
 have h138:=d138 hL
 unfold qP at he h138
 refine k9 (arT _ _ _) ?_
 simp -implicitDefEqProofs [aFy,Bu,ha,hd,hB,he]
 cases q:B1 L n a d with
 | bad e p a1 d1=>simp -implicitDefEqProofs [hB]
 | ok x a1 d1 =>
  obtain⟨g1,g2,g3⟩:=hg _ _ _ _ _ q ha
  simp -implicitDefEqProofs [hB,g2,h138]
  cases hs:isS (tk L a1) [59] <;> simp -implicitDefEqProofs [hB]
end
end
section
open Go Hk
mutual
def XS.cells:XS→List kM
 | .mk k p m name ty args body els has=>[.int .i64 (k:Int),.int .i64 (p:Int),.int .i64 (m:Int),.str name,.int .i64 (ty.elem:Int),.int .i64 (ty.len:Int),.int .i64 (ty.label:Int),
   .slice (args.map XE.cells) .no,.slice (XS.rows body) .no,.slice (XS.rows els) .no,.bool has]
def XS.rows:List XS→List (List kM)
 | []=>[]
 | x::r=>x.cells::XS.rows r
end
theorem XS.nO:∀l:List XS,XS.rows l=l.map XS.cells
 | []=>rfl
 | x::r=>by simp [XS.rows,XS.nO r]
theorem XS.row:Yd XS.cells 11:=⟨fun x=>by cases x; simp [XS.cells],fun x=>by cases x; simp [XS.cells,n_,kM.C8],fun x=>by cases x; simp [XS.cells]⟩
def sC (A B : List lE) (z0 pos sB : Int) (name : List UInt8) (ty : Ty) (args body els : kM) (has : Bool) : List lE :=
  [.cells [.int .i64 0, .int .i64 0, .int .i64 0, .str [], .int .i64 0, .int .i64 0, .int .i64 0, .slice [] (.own (HN A B + 1)), .slice [] (.own (HN A B + 2)), .slice [] (.own (HN A B + 3)), .bool false], .front 0 0, .front 0 0, .front 0 0,
   .cells [.int .i64 z0, .int .i64 pos, .int .i64 sB, .str name, .int .i64 (ty.elem : Int), .int .i64 (ty.len : Int), .int .i64 (ty.label : Int), args, body, els, .bool has], .front 0 0, .front 0 0, .front 0 0]
section
variable {L:List Token}(hL:L.length≤131072) (hK:rF L)
include hL hK
theorem aJp {n:Nat}{A B:List lE}{a d pos:Nat}(ha:a < L.length) (hd:dk (n+1) d) (hB:KB A B) :
  match pN L (n+1) pos a d with
  | .bad e p a' d'=>∃C,KK 183 [.ptr A.length 0,.ptr (HN A B+4) 0] (HQ A L a d (B++sC A B 0 pos 0 [] ⟨0,0,0⟩ (.slice [] (.own (HN A B+5))) (.slice [] (.own (HN A B+6))) (.slice [] (.own (HN A B+7))) false))=some (.pan (p9 e p),HQ A L a' d' (B++C))
  | .ok s a' d'=>∃(k:Nat) (name:List UInt8) (args:List XE),s=.mk k pos 0 name ⟨0,0,0⟩ args [] [] false ∧
    KK 183 [.ptr A.length 0,.ptr (HN A B+4) 0] (HQ A L a d (B++sC A B 0 pos 0 [] ⟨0,0,0⟩ (.slice [] (.own (HN A B+5))) (.slice [] (.own (HN A B+6))) (.slice [] (.own (HN A B+7))) false)) =
     some (.ret (.tuple []),HQ A L a' d' (B++sC A B k pos 0 name ⟨0,0,0⟩ (.slice (args.map XE.cells) .no) (.slice [] (.own (HN A B+6))) (.slice [] (.own (HN A B+7))) false)):=by
 have he:=Wx hL hK n
 have hg:=Dh hK n
 have h139:=d139 hL 1
 have h178:=d178 (L:=L)
 have h138:=d138 hL
 have h250:=fun t=>d250 hL hK he hg t
 have h229:=d229 hL hK (n+1)
 unfold qP at h139 h178 h138 h250 h229
 simp only [ac7] at h139
 have ev:∀r,Jh KK (.ptr A.length 0) (.ptr (HN A B+4) 0) (HQ A L a d (B++sC A B 0 pos 0 [] ⟨0,0,0⟩ (.slice [] (.own (HN A B+5))) (.slice [] (.own (HN A B+6))) (.slice [] (.own (HN A B+7))) false))=some r →
   KK 183 [.ptr A.length 0,.ptr (HN A B+4) 0] (HQ A L a d (B++sC A B 0 pos 0 [] ⟨0,0,0⟩ (.slice [] (.own (HN A B+5))) (.slice [] (.own (HN A B+6))) (.slice [] (.own (HN A B+7))) false))=some r:=fun r hr=>k9 (arV _ _ _ _) hr
 have hKB:∀(z0:Int) nm,KB A (B++sC A B z0 pos 0 nm ⟨0,0,0⟩ (.slice [] (.own (HN A B+5))) (.slice [] (.own (HN A B+6))) (.slice [] (.own (HN A B+7))) false):=fun z0 nm=>hB.app (by simp [sC])
 have hKB2:∀(z0:Int) nm rows,KB A (B++sC A B z0 pos 0 nm ⟨0,0,0⟩ (.slice rows .no) (.slice [] (.own (HN A B+6))) (.slice [] (.own (HN A B+7))) false):=fun z0 nm rows=>hB.app (by simp [sC])
 have htr:∀a d (z0:Int) nm C,l9 (HN A B+8) (HQ A L a d (B++(sC A B z0 pos 0 nm ⟨0,0,0⟩ (.slice [] (.own (HN A B+5))) (.slice [] (.own (HN A B+6))) (.slice [] (.own (HN A B+7))) false++C))) =
   some (HQ A L a d (B++sC A B z0 pos 0 nm ⟨0,0,0⟩ (.slice [] (.own (HN A B+5))) (.slice [] (.own (HN A B+6))) (.slice [] (.own (HN A B+7))) false)):=fun a d z0 nm C =>
  Ft hB rfl (by simp [sC])
 have htr2:∀a d (z0:Int) nm rows C,l9 (HN A B+8) (HQ A L a d (B++(sC A B z0 pos 0 nm ⟨0,0,0⟩ (.slice rows .no) (.slice [] (.own (HN A B+6))) (.slice [] (.own (HN A B+7))) false++C))) =
   some (HQ A L a d (B++sC A B z0 pos 0 nm ⟨0,0,0⟩ (.slice rows .no) (.slice [] (.own (HN A B+6))) (.slice [] (.own (HN A B+7))) false)):=fun a d z0 nm rows C =>
  Ft hB rfl (by simp [sC])
 have htr3:∀a d (z0:Int) nm rows j C,8≤j→l9 (HN A B+8) (HQ A L a d (B++(sC A B z0 pos 0 nm ⟨0,0,0⟩ (.slice rows (.own (HN A B+j))) (.slice [] (.own (HN A B+6))) (.slice [] (.own (HN A B+7))) false++C))) =
   some (HQ A L a d (B++sC A B z0 pos 0 nm ⟨0,0,0⟩ (.slice rows .no) (.slice [] (.own (HN A B+6))) (.slice [] (.own (HN A B+7))) false)):=fun a d z0 nm rows j C hj =>
  Ft hB rfl (by
   have:¬j < 8:=by omega
   simp [sC,this])
 simp only [sC,af2,ah4,ac7] at htr htr2 htr3
 by_cases hk:(tk L a).kind=1
 ·have ha1:=p8 (k:=1) hK ha (by decide) hk
  cases s1:isS (tk L (a+1)) [40]
  ·cases s2:isS (tk L (a+1)) [91]
   ·cases s3:isS (tk L (a+1)) [61]
    ·rw [show pN L (n+1) pos a d=.bad 10 (tk L (a+1)).pos (a+1) d by simp [pN,hk,s1,s2,s3]]
     refine⟨sC A B 0 pos 0 (tk L a).text ⟨0,0,0⟩ (.slice [] (.own (HN A B+5))) (.slice [] (.own (HN A B+6))) (.slice [] (.own (HN A B+7))) false,ev _ ?_⟩
     simp -implicitDefEqProofs [Jh,sC,ha,hB,h139,hk,ha1,h178,h138,s1,s2,s3,rE,htr]
    ·have ha2:=mR hK ha1 s3
     cases q:Bu L (n+1) (a+1+1) d with
     | bad e p a2 d2 =>
      rw [show pN L (n+1) pos a d=.bad e p a2 d2 by simp [pN,hk,s1,s2,s3,q]]
      refine⟨sC A B 0 pos 0 (tk L a).text ⟨0,0,0⟩ (.slice [] (.own (HN A B+5))) (.slice [] (.own (HN A B+6))) (.slice [] (.own (HN A B+7))) false,ev _ ?_⟩
      simp -implicitDefEqProofs [Jh,sC,ha,hB,h139,hk,ha1,h178,h138,s1,s2,s3,ha2,h229,hd,q,rE,htr]
     | ok l a2 d2 =>
      rw [show pN L (n+1) pos a d=.ok (.mk 3 pos 0 (tk L a).text ⟨0,0,0⟩ l [] [] false) a2 d2 by simp [pN,hk,s1,s2,s3,q]]
      refine⟨3,(tk L a).text,l,rfl,ev _ ?_⟩
      simp -implicitDefEqProofs [Jh,sC,ha,hB,h139,hk,ha1,h178,h138,s1,s2,s3,ha2,h229,hd,q,lY,htr2]
   ·have hB':KB A (B++(sC A B 4 pos 0 (tk L a).text ⟨0,0,0⟩ (.slice [] (.own (HN A B+5))) (.slice [] (.own (HN A B+6))) (.slice [] (.own (HN A B+7))) false++[.cells (tk L a).cells])):=hB.app (by simp [sC])
    have i1:=aED hL hK he hg ha1 hd hB'
    simp only [sC,Token.cells,af2,ah4,hk,ac7] at i1
    cases q3:uU L (B1 L n) (a+1) d with
    | bad e p a3 d3 =>
     rw [show pN L (n+1) pos a d=.bad e p a3 d3 by simp [pN,hk,s1,s2,q3]]
     rw [q3] at i1
     refine⟨sC A B 4 pos 0 (tk L a).text ⟨0,0,0⟩ (.slice [] (.own (HN A B+5))) (.slice [] (.own (HN A B+6))) (.slice [] (.own (HN A B+7))) false,ev _ ?_⟩
     simp -implicitDefEqProofs [Jh,sC,ha,hB,h139,hk,ha1,h178,s1,s2,i1,rE,htr]
    | ok l a3 d3 =>
     rw [q3] at i1
     obtain⟨x,rfl,i2⟩:=i1
     obtain⟨g1,g2,g3⟩:=(HB hK hg) _ _ _ _ _ q3 ha1
     have g3:d=d3:=g3.symm
     subst g3
     simp -implicitDefEqProofs only [Dd,ac8,ad0,af9,af2,ah4,amW] at i2
     simp at i2
     cases s3:isS (tk L a3) [61]
     ·rw [show pN L (n+1) pos a d=.bad 10 (tk L a3).pos a3 d by simp [pN,hk,s1,s2,q3,s3]]
      refine⟨sC A B 4 pos 0 (tk L a).text ⟨0,0,0⟩ (.slice [] (.own (HN A B+5))) (.slice [] (.own (HN A B+6))) (.slice [] (.own (HN A B+7))) false,ev _ ?_⟩
      simp -implicitDefEqProofs [Jh,sC,ha,hB,h139,hk,ha1,h178,s1,s2,i2,g2,h138,s3,rE,htr]
     ·have ha4:=mR hK g2 s3
      cases q:Bu L (n+1) (a3+1) d with
      | bad e p a2 d2 =>
       rw [show pN L (n+1) pos a d=.bad e p a2 d2 by simp [pN,hk,s1,s2,q3,s3,q]]
       refine⟨sC A B 4 pos 0 (tk L a).text ⟨0,0,0⟩ (.slice [] (.own (HN A B+5))) (.slice [] (.own (HN A B+6))) (.slice [] (.own (HN A B+7))) false,ev _ ?_⟩
       simp -implicitDefEqProofs [Jh,sC,ha,hB,h139,hk,ha1,h178,s1,s2,i2,g2,h138,s3,ha4,h229,hd,q,rE,htr]
      | ok l a2 d2 =>
       rw [show pN L (n+1) pos a d=.ok (.mk 4 pos 0 (tk L a).text ⟨0,0,0⟩ ([x]++l) [] [] false) a2 d2 by simp [pN,hk,s1,s2,q3,s3,q]]
       refine⟨4,(tk L a).text,[x]++l,rfl,ev _ ?_⟩
       have hlen:l.length=1:=by
        revert q
        simp only [Bu,mK,PM.bind]
        cases B1 L (n+1) (a3+1) d with
        | bad=>intro q; cases q
        | ok y a5 d5 =>
         simp only [oR]
         split
         ·rename_i v a' d' h; split at h
          ·cases h; intro q; cases q; rfl
          ·cases h
         ·intro q; cases q
       have b2:=DV (A:=A) (B:=B) (L:=L) (a:=a2) (d:=d2) (C:=sC A B 4 pos 0 (tk L a).text ⟨0,0,0⟩ (.slice [] (.own (HN A B+5))) (.slice [] (.own (HN A B+6))) (.slice [] (.own (HN A B+7))) false++[.cells [.int .i64 1,.int .i64 ((tk L a).pos:Int),.int .i64 ((tk L a).num:Int),.str (tk L a).text],.front 0 0,.cells x.cells,.front 0 0,.front 1 5]) (k:=12) (rows:=[x.cells]) (new:=l.map XE.cells) (sz:=5) (by_:=64) (sz':=5) (t:=.no) rfl (.inl rfl) (by simp) (by intro h; simp at h; rw [h] at hlen; cases hlen) (by simp [hlen]) (by simp [hlen])
       simp only [sC,List.length_singleton,al0,hlen,af2,ah4,List.set_cons_succ,List.set_cons_zero,ac7] at b2
       simp -implicitDefEqProofs [Jh,sC,ha,hB,h139,hk,ha1,h178,s1,s2,i2,g2,h138,s3,ha4,h229,hd,q,b2,lY,htr3]
  ·have hB':KB A (B++(sC A B 7 pos 0 [] ⟨0,0,0⟩ (.slice [] (.own (HN A B+5))) (.slice [] (.own (HN A B+6))) (.slice [] (.own (HN A B+7))) false++[.cells (tk L a).cells])):=hB.app (by simp [sC])
   have i1:=h250 (tk L a) A _ (a+1) d ha1 hd hB'
   simp only [sC,Token.cells,af2,ah4,hk,ac7] at i1
   cases q3:zT L (B1 L n) (tk L a) (a+1) d with
   | bad e p a3 d3 =>
    rw [show pN L (n+1) pos a d=.bad e p a3 d3 by simp [pN,hk,s1,q3]]
    rw [q3] at i1
    refine⟨sC A B 7 pos 0 [] ⟨0,0,0⟩ (.slice [] (.own (HN A B+5))) (.slice [] (.own (HN A B+6))) (.slice [] (.own (HN A B+7))) false,ev _ ?_⟩
    simp -implicitDefEqProofs [Jh,sC,ha,hB,h139,hk,ha1,h178,s1,i1,rE,htr]
   | ok x a3 d3 =>
    rw [q3] at i1
    obtain⟨g1,g2,g3⟩:=(RP hK hg) _ _ _ _ _ q3 ha1
    cases s3:isS (tk L a3) [59]
    ·rw [show pN L (n+1) pos a d=.bad 10 (tk L a3).pos a3 d3 by simp [pN,hk,s1,q3,s3]]
     refine⟨sC A B 7 pos 0 [] ⟨0,0,0⟩ (.slice [x.cells] .no) (.slice [] (.own (HN A B+6))) (.slice [] (.own (HN A B+7))) false,ev _ ?_⟩
     simp -implicitDefEqProofs [Jh,sC,ha,hB,h139,hk,ha1,h178,s1,i1,g2,h138,s3,rE,htr3]
    ·rw [show pN L (n+1) pos a d=.ok (.mk 7 pos 0 [] ⟨0,0,0⟩ [x] [] [] false) (a3+1) d3 by simp [pN,hk,s1,q3,s3]]
     refine⟨7,[],[x],rfl,ev _ ?_⟩
     simp -implicitDefEqProofs [Jh,sC,ha,hB,h139,hk,ha1,h178,s1,i1,g2,h138,s3,lY,htr3]
 ·rw [show pN L (n+1) pos a d=.bad 10 (tk L a).pos a d by simp [pN,hk]]
  refine⟨sC A B 0 pos 0 [] ⟨0,0,0⟩ (.slice [] (.own (HN A B+5))) (.slice [] (.own (HN A B+6))) (.slice [] (.own (HN A B+7))) false,ev _ ?_⟩
  simp -implicitDefEqProofs [Jh,sC,ha,hB,h139,hk,rE,htr]
end
end
section
open Go Hk
section
variable {x:XS}{n m:Nat}{h:kP}
@[simp] theorem aLu:x.cells.length=11:=XS.row.len x
end
def SI (x:XS):kM:=.agg x.cells
def Af (l:List XS):kM:=.slice (l.map XS.cells) .no
attribute [simp] SI Af
section
variable {L:List Token}(hL:L.length≤131072) (hK:rF L)
include hL hK
set_option maxHeartbeats 1000000 in
theorem d182 {n:Nat}{bl:PM (List XS)}(hb:qP L (dk (n+1)) 110 [] Af bl) (hgb:mB L 1 (fun d=>d) bl):qP L (dk (n+1)) 154 [] SI (uL L bl (n+1)):=by
 intro A B a d ha hd hB
 have h230:=Wx hL hK (n+1)
 have hge:=Dh hK (n+1)
 have h76:=d76 (L:=L)
 have h143:=d143 hL
 have h138:=d138 hL
 have h139:=fun k=>d139 hL k
 have h145:=d145 hL
 have h180:=d180 hL hK
 have h229:=d229 hL hK (n+1)
 have hgd:=Kt hK (n+1)
 unfold qP at h230 h76 h143 h138 h139 h145 h180 h229 hb
 have h1391:=h139 1
 have h1392:=h139 2
 simp only [ac7] at h1391 h1392
 refine k9 (arA _ _ _) ?_
 simp -implicitDefEqProofs [aFs,uL,ha,hB,h76,h143]
 cases s1:isS (tk L a) [108,101,116]
 ·simp -implicitDefEqProofs [ha,hB,h143]
  cases s2:isS (tk L a) [118,97,114]
  ·simp -implicitDefEqProofs [ha,hB,h143]
   cases s3:isS (tk L a) [105,102]
   ·simp -implicitDefEqProofs [ha,hB,h143]
    cases s4:isS (tk L a) [102,111,114]
    ·simp -implicitDefEqProofs [ha,hB,h143]
     cases s5:isS (tk L a) [114,101,116,117,114,110]
     ·have i1:=aJp hL hK (A:=A) (B:=B) (pos:=(tk L a).pos) ha hd hB
      simp only [sC,ac7] at i1
      simp -implicitDefEqProofs [hB]
      cases q:pN L (n+1) (tk L a).pos a d with
      | bad e p a1 d1 =>
       rw [q] at i1
       obtain⟨C,i2⟩:=i1
       simp -implicitDefEqProofs [hB,i2]
      | ok s a1 d1 =>
       rw [q] at i1
       obtain⟨k,name,args,rfl,i2⟩:=i1
       simp -implicitDefEqProofs [hB,i2,XS.cells,XS.rows]
     ·have ha1:=mR hK ha s5
      simp -implicitDefEqProofs [hB,ha1,hd,h229]
      cases q:Bu L (n+1) (a+1) d with
      | bad e p a1 d1=>simp -implicitDefEqProofs [hB]
      | ok l a1 d1=>simp -implicitDefEqProofs [hB,XS.cells,XS.rows]
    ·have ha1:=mR hK ha s4
     simp -implicitDefEqProofs [hB,ha1,h1391]
     by_cases k1:(tk L (a+1)).kind=1
     ·have ha2:=p8 (k:=1) hK ha1 (by decide) k1
      simp -implicitDefEqProofs [hB,k1,ha2,h138]
      cases t1:isS (tk L (a+1+1)) [60]
      ·simp -implicitDefEqProofs [hB]
      ·have ha3:=mR hK ha2 t1
       simp -implicitDefEqProofs [hB,ha3,h230,hd]
       cases q:B1 L (n+1) (a+1+1+1) d with
       | bad e p a4 d4=>simp -implicitDefEqProofs [hB]
       | ok x a4 d4 =>
        obtain⟨g1,g2,g3⟩:=hge _ _ _ _ _ q ha3
        have g3:d=d4:=g3.symm
        subst g3
        simp -implicitDefEqProofs [hB,g2,h138]
        cases t2:isS (tk L a4) [109,97,120]
        ·simp -implicitDefEqProofs [hB]
        ·have ha5:=mR hK g2 t2
         simp -implicitDefEqProofs [hB,ha5,h1392]
         by_cases k2:(tk L (a4+1)).kind=2
         ·have ha6:=p8 (k:=2) hK ha5 (by decide) k2
          simp -implicitDefEqProofs [hB,k2,ha6,hb,hd]
          cases q2:bl (a4+1+1) d with
          | bad e p a7 d7=>simp -implicitDefEqProofs [hB]
          | ok l a7 d7=>simp -implicitDefEqProofs [hB,XS.cells,XS.rows,XS.nO]
         ·simp -implicitDefEqProofs [hB,k2]
     ·simp -implicitDefEqProofs [hB,k1]
   ·have ha1:=mR hK ha s3
    simp -implicitDefEqProofs [hB,ha1,h230,hd]
    cases q:B1 L (n+1) (a+1) d with
    | bad e p a4 d4=>simp -implicitDefEqProofs [hB]
    | ok x a4 d4 =>
     obtain⟨g1,g2,g3⟩:=hge _ _ _ _ _ q ha1
     have g3:d=d4:=g3.symm
     subst g3
     simp -implicitDefEqProofs [hB,g2,hb,hd]
     cases q2:bl a4 d with
     | bad e p a5 d5=>simp -implicitDefEqProofs [hB]
     | ok l a5 d5 =>
      obtain⟨j1,j2,j3⟩:=hgb _ _ _ _ _ q2 g2
      have j3:d=d5:=j3.symm
      subst j3
      simp -implicitDefEqProofs [hB,j2,h143]
      cases t1:isS (tk L a5) [101,108,115,101]
      ·simp -implicitDefEqProofs [hB,XS.cells,XS.rows,XS.nO]
      ·have ha6:=mR hK j2 t1
       simp -implicitDefEqProofs [hB,ha6,hb,hd]
       cases q3:bl (a5+1) d with
       | bad e p a7 d7=>simp -implicitDefEqProofs [hB]
       | ok l2 a7 d7=>simp -implicitDefEqProofs [hB,XS.cells,XS.rows,XS.nO]
  ·have ha1:=mR hK ha s2
   simp -implicitDefEqProofs [hB,ha1,h145]
   cases q:sQ L (a+1) d with
   | bad e p a2 d2=>simp -implicitDefEqProofs [hB]
   | ok lab a2 d2 =>
    obtain⟨g1,g2,g3⟩:=BS hK _ _ _ _ _ q ha1
    have g3:d=d2:=g3.symm
    subst g3
    simp -implicitDefEqProofs [hB,g2,h1391]
    by_cases k1:(tk L a2).kind=1
    ·have ha3:=p8 (k:=1) hK g2 (by decide) k1
     simp -implicitDefEqProofs [hB,k1,ha3,h138]
     cases t1:isS (tk L (a2+1)) [58]
     ·simp -implicitDefEqProofs [hB]
     ·have ha4:=mR hK ha3 t1
      simp -implicitDefEqProofs [hB,ha4,h180]
      cases q2:vK L lab (a2+1+1) d with
      | bad e p a5 d5=>simp -implicitDefEqProofs [hB]
      | ok ty a5 d5 =>
       obtain⟨j1,j2,j3⟩:=HC hK _ _ _ _ _ q2 ha4
       simp -implicitDefEqProofs [hB,j2,h138]
       cases t2:isS (tk L a5) [59] <;> simp -implicitDefEqProofs [hB,XS.cells,XS.rows]
    ·simp -implicitDefEqProofs [hB,k1]
 ·have ha1:=mR hK ha s1
  simp -implicitDefEqProofs [hB,ha1,h1391]
  by_cases k1:(tk L (a+1)).kind=1
  ·have ha2:=p8 (k:=1) hK ha1 (by decide) k1
   simp -implicitDefEqProofs [hB,k1,ha2,h138]
   cases t1:isS (tk L (a+1+1)) [61]
   ·simp -implicitDefEqProofs [hB]
   ·have ha3:=mR hK ha2 t1
    simp -implicitDefEqProofs [hB,ha3,h229,hd]
    cases q:Bu L (n+1) (a+1+1+1) d with
    | bad e p a4 d4=>simp -implicitDefEqProofs [hB]
    | ok l a4 d4=>simp -implicitDefEqProofs [hB,XS.cells,XS.rows]
  ·simp -implicitDefEqProofs [hB,k1]
end
end
section
open Go Hk
theorem ac1 {L:List Token}{stmt:PM XS}{m a d:Nat}{l:List XS}:vZ L stmt (m+1) l a d=if isS (tk L a) [125]=true then .ok l a d else match stmt a d with
  | .bad e p a1 d1=>.bad e p a1 d1
  | .ok x a1 d1=>vZ L stmt m (l++[x]) a1 d1:=by
 rw [vZ]
 simp only [mK,PM.bind,GZ]
 cases h:isS (tk L a) [125]
 ·simp only [Bool.false_eq_true,if_false,PM.bind]
  cases stmt a d <;> rfl
 ·simp [y9]
section
variable {L:List Token}(hL:L.length≤131072) (hK:rF L)
include hL hK
omit hK in
theorem aa7 {n:Nat}{st:PM XS}(hs:qP L (dk n) 154 [] SI st) (hg:mB L 1 (fun d=>d) st) {A B:List lE}{d:Nat}(hB:KB A B) (hd:dk n d) (m:Nat) (l:List XS) (a:Nat) (ha:a < L.length) (hm:L.length < a+m) (hl:l.length≤a) :
  ∃r,mI (Ls KK (HN A B+2)) ([.ptr A.length 0,.slice [] (.own (HN A B)),.slice (l.map XS.cells) (.own (HN A B+1))],HQ A L a d (B++[.front 0 0,.front l.length (rZ l.length 11)]))=some r ∧
   match vZ L st m l a d with
   | .ok l' a' d'=>r=(.exit 0,[.ptr A.length 0,.slice [] (.own (HN A B)),.slice (l'.map XS.cells) (.own (HN A B+1))],HQ A L a' d' (B++[.front 0 0,.front l'.length (rZ l'.length 11)]))
   | .bad e p a' d'=>∃vs C,r=(.pan (p9 e p),vs,HQ A L a' d' (B++C)):=by
 have h178:=d178 (L:=L)
 unfold qP at h178 hs
 refine DH (σ:=List XS×Nat×Nat) (fun s=>([.ptr A.length 0,.slice [] (.own (HN A B)),.slice (s.1.map XS.cells) (.own (HN A B+1))],HQ A L s.2.1 d (B++[.front 0 0,.front s.1.length (rZ s.1.length 11)])))
  (fun s=>s.2.1 < L.length∧L.length < s.2.1+s.2.2∧s.1.length≤s.2.1) (fun s=>s.2.2)
  (fun s r=>match vZ L st s.2.2 s.1 s.2.1 d with
   | .ok l' a' d'=>r=(.exit 0,[.ptr A.length 0,.slice [] (.own (HN A B)),.slice (l'.map XS.cells) (.own (HN A B+1))],HQ A L a' d' (B++[.front 0 0,.front l'.length (rZ l'.length 11)]))
   | .bad e p a' d'=>∃vs C,r=(.pan (p9 e p),vs,HQ A L a' d' (B++C))) ?_ (l,a,m) ⟨ha,hm,hl⟩
 rintro⟨l,a,m⟩ ⟨ha,hm,hl⟩
 simp only at ha hm hl
 obtain⟨m,rfl⟩:∃j,m=j+1:=⟨m - 1,by omega⟩
 have hsp:∀h,kM.vM (HN A B+2) h (.ptr A.length 0)=.ptr A.length 0:=fun h=>uB Dc
 have hKB:∀x y,KB A (B++[.front 0 0,.front x y]):=fun x y=>hB.app (by simp)
 have htr:∀a d x y C,l9 (HN A B+2) (HQ A L a d (B++(.front 0 0::.front x y::C)))=some (HQ A L a d (B++[.front 0 0,.front x y])):=fun a d x y C=>by
  have:=zJ (L:=L) (a:=a) (d:=d) (A:=A) (B:=B) (C:=.front 0 0::.front x y::C) (k:=2) (by simpa using hKB x y) (by simp)
  simpa using this
 have hfst:Ls KK (HN A B+2) ([.ptr A.length 0,.slice [] (.own (HN A B)),.slice (l.map XS.cells) (.own (HN A B+1))],HQ A L a d (B++[.front 0 0,.front l.length (rZ l.length 11)])) =
   if isS (tk L a) [125]=true then some (.exit 0,[.ptr A.length 0,.slice [] (.own (HN A B)),.slice (l.map XS.cells) (.own (HN A B+1))],HQ A L a d (B++[.front 0 0,.front l.length (rZ l.length 11)]))
   else match st a d with
   | .bad e p a1 d1=>some (.pan (p9 e p),[.ptr A.length 0,.slice [] (.own (HN A B)),.slice (l.map XS.cells) (.own (HN A B+1))],HQ A L a1 d1 (B++[.front 0 0,.front l.length (rZ l.length 11)]))
   | .ok x a1 d1=>some (.normal,[.ptr A.length 0,.slice [] (.own (HN A B)),.slice ((l++[x]).map XS.cells) (.own (HN A B+1))],HQ A L a1 d (B++[.front 0 0,.front (l++[x]).length 11])):=by
  simp -implicitDefEqProofs [Ls,ha,hB,h178]
  cases h1:isS (tk L a) [125]
  ·simp -implicitDefEqProofs [ha,hB,hs,hd]
   cases q:st a d with
   | bad e p a1 d1=>simp -implicitDefEqProofs [kS,htr,hsp]
   | ok x a1 d1 =>
    obtain⟨g1,g2,g3⟩:=hg a d _ _ _ q ha
    have g3:d=d1:=g3.symm
    subst g3
    have b1:=wR (zero:=[.int .i64 0,.int .i64 0,.int .i64 0,.str [],.int .i64 0,.int .i64 0,.int .i64 0,.slice [] .nil,.slice [] .nil,.slice [] .nil,.bool false]) (h:=HQ A L a1 d (B++[.front 0 0,.front l.length (rZ l.length 11)])) (XS.row.len x) rfl (XS.row.pure x) (XS.row.ok x)
    have b2:=DV (A:=A) (B:=B) (L:=L) (a:=a1) (d:=d) (C:=[.front 0 0,.front l.length (rZ l.length 11),.front 1 11]) (k:=1) (rows:=l.map XS.cells) (new:=[x.cells]) (sz:=11) (by_:=144) (sz':=rZ l.length 11) (t:=.own (HN A B+2)) (by simp) (by rw [al0]; exact AQ _ _) (by simp) (by simp) (by simp; omega) (by simp; omega)
    simp only [al0,List.length_singleton,List.set_cons_succ,List.set_cons_zero] at b2
    simp -implicitDefEqProofs [b1,b2,kS,htr,hsp]
  ·simp -implicitDefEqProofs [kS,htr,hsp]
 rw [hfst]
 simp only [ac1]
 cases h1:isS (tk L a) [125] with
 | true =>
  right
  exact⟨_,by simp only [if_true]; rfl,by simp,by simp only [if_true]⟩
 | false =>
  simp only [Bool.false_eq_true,if_false]
  cases q:st a d with
  | bad e p a1 d1 =>
   right
   exact⟨_,rfl,by simp,_,_,rfl⟩
  | ok x a1 d1 =>
   obtain⟨g1,g2,g3⟩:=hg a d _ _ _ q ha
   have g3:d=d1:=g3.symm
   subst g3
   left
   refine⟨(l++[x],a1,m),?_,⟨g2,by simp; omega,by simp; omega⟩,by simp,fun r hr=>hr⟩
   simp [rH]
theorem d146 {n:Nat}(hs:qP L (dk n) 154 [] SI (uL L (sE L n) n)) (hg:mB L 1 (fun d=>d) (uL L (sE L n) n)):qP L (dk (n+1)) 110 [] Af (sE L (n+1)):=by
 intro A B a d ha hd hB
 have h181:=d181 hL
 have h183:=d183 hL
 unfold qP at h181 h183
 have hd64:=hd.2
 refine k9 (aqF _ _ _) ?_
 simp -implicitDefEqProofs [aFg,sE,ha,hB,h181,hd64]
 cases s1:isS (tk L a) [123]
 ·simp -implicitDefEqProofs [hB]
 ·have ha1:=mR hK ha s1
  by_cases h64:d=64
  ·simp -implicitDefEqProofs [hB,h64]
  ·have hd1:=hd.up h64
   obtain⟨r,h1,h2⟩:=aa7 hL hs hg hB hd1 131073 [] (a+1) ha1 (by omega) (ah9 _)
   simp only [al1,ad0,rB] at h1
   simp -implicitDefEqProofs [hB,h64,h1]
   cases q:vZ L (uL L (sE L n) n) 131073 [] (a+1) (d+1) with
   | bad e p a2 d2 =>
    rw [q] at h2
    obtain⟨vs,C,rfl⟩:=h2
    simp -implicitDefEqProofs [hB]
   | ok l a2 d2 =>
    rw [q] at h2
    subst h2
    obtain⟨g1,g2,g3⟩:=Lk hg _ _ _ _ _ _ _ q ha1
    have g3:d2=d+1:=g3
    subst g3
    have h65:d≤64:=by omega
    simp -implicitDefEqProofs [hB,g2,h183,h65]
    cases s2:isS (tk L a2) [125] <;> simp -implicitDefEqProofs [hB]
theorem afS:∀n,qP L (dk n) 110 [] Af (sE L n)
 | 0=>fun A B a d ha hd=>by have h1:=hd.1; have h2:=hd.2; omega
 | 1=>d146 hL hK (fun A B a d ha hd=>by have h1:=hd.1; have h2:=hd.2; omega) (RV hK (BP hK 0) 0)
 | n+2=>d146 hL hK (d182 hL hK (afS (n+1)) (BP hK (n+1))) (RV hK (BP hK (n+1)) (n+1))
def XF.cells (f:XF):List kM:=[.int .i64 (f.pos:Int),.str f.name,.slice (f.params.map XP.cells) .no,.bool f.has,.int .i64 (f.result.elem:Int),.int .i64 (f.result.len:Int),.int .i64 (f.result.label:Int),.slice (f.body.map XS.cells) .no]
def ao2 (f:XF):kM:=.agg f.cells
attribute [simp] ao2
omit hL hK in
theorem XF.row:Yd XF.cells 8:=⟨fun _=>rfl,fun _=>rfl,fun _=>rfl⟩
set_option maxHeartbeats 1000000 in
theorem d77:qP L (fun d=>d=0) 52 [] ao2 (wL L):=by
 intro A B a d ha hd hB
 subst hd
 have h138:=d138 hL
 have h139:=d139 hL 1
 have h143:=d143 hL
 have h145:=d145 hL
 have h144:=fun l=>d144 hL l
 have h146:=afS hL hK 65
 have hd0:dk 65 0:=⟨rfl,by omega⟩
 unfold qP at h138 h139 h143 h145 h144 h146
 simp only [ac7] at h139
 refine k9 (aA6 _ _ _) ?_
 simp -implicitDefEqProofs [m52,wL,ha,hB,h138,Dc,Ga]
 cases s1:isS (tk L a) [102,110]
 ·simp -implicitDefEqProofs [hB]
 ·have ha1:=mR hK ha s1
  simp -implicitDefEqProofs [hB,ha1,h139,Dc,Ga]
  by_cases k1:(tk L (a+1)).kind=1
  ·have ha2:=p8 (k:=1) hK ha1 (by decide) k1
   simp -implicitDefEqProofs [hB,k1,ha2,h138,Dc,Ga]
   cases s2:isS (tk L (a+1+1)) [40]
   ·simp -implicitDefEqProofs [hB]
   ·have ha3:=mR hK ha2 s2
    have hB':KB A (B++[.cells [.ptr A.length 0],.cells [.int .i64 0,.str [],.slice [] (.own (HN A B+2)),.bool false,.int .i64 0,.int .i64 0,.int .i64 0,.slice [] (.own (HN A B+3))],.front 0 0,.front 0 0,
     .cells [.int .i64 1,.int .i64 ((tk L (a+1)).pos:Int),.int .i64 ((tk L (a+1)).num:Int),.str (tk L (a+1)).text],
     .cells [.int .i64 ((tk L (a+1)).pos:Int),.str (tk L (a+1)).text,.slice [] (.own (HN A B+6)),.bool false,.int .i64 0,.int .i64 0,.int .i64 0,.slice [] (.own (HN A B+7))],.front 0 0,.front 0 0]):=hB.app (by simp [Dc])
    have h140:=d140 hL hK (one:=u1 L) (d:=0) [41] (HD hK) ha3 hB' Has.new (fun C a ha hB=>aI2 hL hK Has.new.app ha hB)
    simp -implicitDefEqProofs [hB,h140]
    cases q:yZ L [41] (u1 L) (a+1+1+1) 0 with
    | bad e p a4 d4=>simp -implicitDefEqProofs [hB]
    | ok ps a4 d4 =>
     obtain⟨g1,g2,g3⟩:=GC hK (HD hK) _ _ _ _ _ q ha3
     have g3:d4=0:=g3
     subst g3
     simp -implicitDefEqProofs [hB,g2,h138,Dc,Ga]
     cases s3:isS (tk L a4) [41]
     ·simp -implicitDefEqProofs [hB]
     ·have ha5:=mR hK g2 s3
      simp -implicitDefEqProofs [hB,ha5,h143,Dc,Ga]
      cases s4:isS (tk L (a4+1)) [58]
      ·simp -implicitDefEqProofs [hB,ha5,h146,hd0,Dc,Ga]
       cases q2:sE L 65 (a4+1) 0 with
       | bad e p a6 d6=>simp -implicitDefEqProofs [hB]
       | ok b a6 d6=>simp -implicitDefEqProofs [hB,XF.cells]
      ·have ha6:=mR hK ha5 s4
       simp -implicitDefEqProofs [hB,ha6,h145,Dc,Ga]
       cases q3:sQ L (a4+1+1) 0 with
       | bad e p a7 d7=>simp -implicitDefEqProofs [hB]
       | ok lab a7 d7 =>
        obtain⟨j1,j2,j3⟩:=BS hK _ _ _ _ _ q3 ha6
        have j3:d7=0:=j3
        subst j3
        simp -implicitDefEqProofs [hB,j2,h144,Dc,Ga]
        cases q4:qO L lab a7 0 with
        | bad e p a8 d8=>simp -implicitDefEqProofs [hB]
        | ok ty a8 d8 =>
         obtain⟨k1,k2,k3⟩:=EX hK _ _ _ _ _ q4 j2
         have k3:d8=0:=k3
         subst k3
         simp -implicitDefEqProofs [hB,k2,h146,hd0,Dc,Ga]
         cases q2:sE L 65 a8 0 with
         | bad e p a6 d6=>simp -implicitDefEqProofs [hB]
         | ok b a6 d6=>simp -implicitDefEqProofs [hB,XF.cells]
  ·simp -implicitDefEqProofs [hB,k1]
end
end
section
open Go Hk
section
variable {x:XF}{n m:Nat}{h:kP}
@[simp] theorem aLs:x.cells.length=8:=rfl
@[simp] theorem aHn:kW 1 8 [.int .i64 0,.str [],.slice [] .nil,.bool false,.int .i64 0,.int .i64 0,.int .i64 0,.slice [] .nil] [(0,.agg x.cells)] h=some (.slice [x.cells] (.own h.length),h++[.front 1 8]) :=
 wR (XF.row.len x) rfl (XF.row.pure x) (XF.row.ok x)
end
def hP (e p:Nat) (l:List XF) (n sz:Nat) (L:List Token) (a d:Nat) (C:List lE):kP :=
 .cells [.slice (l.map XF.cells) (.own 1)]::.front n sz::.cells [.int .i64 (e:Int),.int .i64 (p:Int)]::PB L a d::C
theorem acZ {L:List Token}{m a d:Nat}{l:List XF}:o7 L (m+1) l a d=if (tk L a).kind=0 then .ok l a d else match wL L a d with
  | .bad e p a1 d1=>.bad e p a1 d1
  | .ok x a1 d1=>o7 L m (l++[x]) a1 d1:=by
 rw [o7]
 simp only [mK,PM.bind,oQ]
 by_cases h:(tk L a).kind=0
 ·simp [h,y9]
 ·simp only [h,if_false,PM.bind]
  cases wL L a d <;> rfl
section
variable {L:List Token}(hL:L.length≤131072) (hK:rF L)
include hL hK
omit hL hK in
theorem ag8 {e p:Int}{rows:List (List kM)}{n sz a d:Nat}{C:List lE}:l9 4 (.cells [.slice rows (.own 1)]::.front n sz::.cells [.int .i64 e,.int .i64 p]::PB L a d::C)=some [.cells [.slice rows (.own 1)],.front n sz,.cells [.int .i64 e,.int .i64 p],PB L a d]:=by
 simp [l9,PB]
theorem agD (e0 p0:Nat) (m:Nat) (l:List XF) (a:Nat) (ha:a < L.length) (hm:L.length < a+m) (hl:l.length≤a) :
  ∃r,mI (NB KK 4) ([.ptr 0 0,.ptr 2 0,.ptr 3 0],hP e0 p0 l l.length (rZ l.length 8) L a 0 [])=some r ∧
   match o7 L m l a 0 with
   | .ok l' a' d'=>r=(.exit 0,[.ptr 0 0,.ptr 2 0,.ptr 3 0],hP e0 p0 l' l'.length (rZ l'.length 8) L a' d' [])
   | .bad e p a' d'=>∃l':List XF,r=(.pan (p9 e p),[.ptr 0 0,.ptr 2 0,.ptr 3 0],hP e0 p0 l' l'.length (rZ l'.length 8) L a' d' []):=by
 refine DH (σ:=List XF×Nat×Nat) (fun s=>([.ptr 0 0,.ptr 2 0,.ptr 3 0],hP e0 p0 s.1 s.1.length (rZ s.1.length 8) L s.2.1 0 []))
  (fun s=>s.2.1 < L.length∧L.length < s.2.1+s.2.2∧s.1.length≤s.2.1) (fun s=>s.2.2)
  (fun s r=>match o7 L s.2.2 s.1 s.2.1 0 with
   | .ok l' a' d'=>r=(.exit 0,[.ptr 0 0,.ptr 2 0,.ptr 3 0],hP e0 p0 l' l'.length (rZ l'.length 8) L a' d' [])
   | .bad e p a' d'=>∃l':List XF,r=(.pan (p9 e p),[.ptr 0 0,.ptr 2 0,.ptr 3 0],hP e0 p0 l' l'.length (rZ l'.length 8) L a' d' [])) ?_ (l,a,m) ⟨ha,hm,hl⟩
 rintro⟨l,a,m⟩ ⟨ha,hm,hl⟩
 simp only at ha hm hl
 obtain⟨m,rfl⟩:∃j,m=j+1:=⟨m - 1,by omega⟩
 have hKB:KB [.cells [.slice (l.map XF.cells) (.own 1)],.front l.length (rZ l.length 8),.cells [.int .i64 (e0:Int),.int .i64 (p0:Int)]] []:=⟨fun n hn=>by simp [HN] at hn ⊢; omega,fun n hn=>by simp⟩
 have hKB2:KB [.gone,.front l.length (rZ l.length 8),.cells [.int .i64 (e0:Int),.int .i64 (p0:Int)]] []:=⟨fun n hn=>by simp,fun n hn=>by simp⟩
 have h76:=d76 (L:=L) _ _ a 0 ha trivial hKB
 have h77:=d77 hL hK _ _ a 0 ha rfl hKB2
 simp only [oQ,aj5,zG,HQ,ac8,ad0,af2,ah4] at h76 h77
 have htr:=fun e p rows n sz a d C=>ag8 (L:=L) (e:=e) (p:=p) (rows:=rows) (n:=n) (sz:=sz) (a:=a) (d:=d) (C:=C)
 have s1:∀h,kM.vM 4 h (.ptr 0 0)=.ptr 0 0:=fun h=>uB (by omega)
 have s2:∀h,kM.vM 4 h (.ptr 2 0)=.ptr 2 0:=fun h=>uB (by omega)
 have s3:∀h,kM.vM 4 h (.ptr 3 0)=.ptr 3 0:=fun h=>uB (by omega)
 have hfst:NB KK 4 ([.ptr 0 0,.ptr 2 0,.ptr 3 0],hP e0 p0 l l.length (rZ l.length 8) L a 0 []) =
   if (tk L a).kind=0 then some (.exit 0,[.ptr 0 0,.ptr 2 0,.ptr 3 0],hP e0 p0 l l.length (rZ l.length 8) L a 0 [])
   else match wL L a 0 with
   | .bad e p a1 d1=>some (.pan (p9 e p),[.ptr 0 0,.ptr 2 0,.ptr 3 0],hP e0 p0 l l.length (rZ l.length 8) L a1 d1 [])
   | .ok x a1 d1=>some (.normal,[.ptr 0 0,.ptr 2 0,.ptr 3 0],hP e0 p0 (l++[x]) (l++[x]).length 8 L a1 0 []):=by
  by_cases h0:(tk L a).kind=0
  ·have h0':((tk L a).kind:Int)=0:=by omega
   simp -implicitDefEqProofs [NB,hP,h76,h0,kS,htr,s1,s2,s3]
  ·have h0':¬((tk L a).kind:Int)=0:=by omega
   simp -implicitDefEqProofs [NB,hP,h76,h0,h0',h77]
   cases q:wL L a 0 with
   | bad e p a1 d1=>simp -implicitDefEqProofs [HQ,kS,htr,s1,s2,s3,hP]
   | ok x a1 d1 =>
    obtain⟨g1,g2,g3⟩:=(M1 hK) _ _ _ _ _ q ha
    have g3:d1=0:=g3
    subst g3
    have b2:∀(u:List lE),mG 8 104 (.cells [.slice (l.map XF.cells) (.own 1)]::.front l.length (rZ l.length 8)::u) (.slice (l.map XF.cells) (.own 1)) (.slice [x.cells] (.own 4)) =
      some (.slice (l.map XF.cells++[x.cells]) (.own 1),.cells [.slice (l.map XF.cells) (.own 1)]::.front (l.length+1) 8::u):=by
     intro u
     have hb1:(l.length+1) * 104≤140737488355328:=by omega
     have hb2:l.length+1≤140737488355328:=by omega
     have hf:rZ l.length 8=8∨l=[]∧rZ l.length 8=0:=by
      rcases AQ l.length 8 with h | h
      ·exact .inl h
      ·exact .inr ⟨List.length_eq_zero_iff.1 h.1,h.2⟩
     simp [mG,pY,hb1,hb2]
     exact fun h=>hf.resolve_left h
    simp -implicitDefEqProofs [HQ,b2,kS,htr,s1,s2,s3,hP]
 rw [hfst]
 simp only [acZ]
 by_cases h0:(tk L a).kind=0
 ·right
  refine⟨_,by simp only [h0,if_true]; rfl,by simp,?_⟩
  simp only [h0,if_true]
 ·simp only [h0,if_false]
  cases q:wL L a 0 with
  | bad e p a1 d1=>exact .inr ⟨_,rfl,by simp,l,rfl⟩
  | ok x a1 d1 =>
   obtain⟨g1,g2,g3⟩:=(M1 hK) _ _ _ _ _ q ha
   have g3:d1=0:=g3
   subst g3
   exact .inl ⟨(l++[x],a1,m),by simp [rH],⟨g2,by simp; omega,by simp; omega⟩,by simp,fun r hr=>hr⟩
omit hL hK in
theorem acN {e0 p0:Nat}{l:List XF}{n sz a d:Nat}{L:List Token}:Xa KK [.ptr 0 0,.ptr 2 0] none (hP e0 p0 l n sz L a d [])=some (hP e0 p0 l n sz L a d []):=by
 simp [Xa,Zl,hP,PB,l9,oB,mL]
omit hL hK in
theorem acO {e0 p0:Nat}{l:List XF}{a d e p:Nat}{L:List Token} :
  ∃t:Tok,(t=.nil∨t=.own 1)∧Xa KK [.ptr 0 0,.ptr 2 0] (some (p9 e p)) (hP e0 p0 l l.length (rZ l.length 8) L a d [])=some (.cells [.slice [] t]::.front l.length (rZ l.length 8)::.cells [.int .i64 (e:Int),.int .i64 (p:Int)]::PB L a d::[]):=by
 cases l with
 | nil =>
  refine⟨.own 1,.inr rfl,?_⟩
  simp [Xa,Zl,hP,PB,l9,rZ,oB,mL]
 | cons x l =>
  refine⟨.nil,.inl rfl,?_⟩
  have hk:∀h r rs id,yX h (.slice (r::rs) (.own id)) (.slice [] .nil)=.slice [] .nil:=fun _ _ _ _=>(rfl)
  simp [Xa,Zl,hP,PB,l9,hk,oB,mL]
end
theorem CY {s:List UInt8}(h:(oI s).2.1=0):∃l:List Token,oI s=(l++[⟨0,s.length,0,[]⟩],0,0)∧(∀x∈l,Fact s x)∧l.Pairwise (fun x y=>x.pos < y.pos):=by
 unfold oI at h ⊢
 split at h
 ·cases h
 ·rename_i hs
  rw [if_neg hs]
  rcases Di s 0 [] with ⟨p,hp⟩ | ⟨l,hl,h1,h2⟩
  ·rw [hp] at h; cases h
  ·exact⟨l,by simpa using hl,fun x hx=>(h1 x hx).2,h2⟩
theorem DR {l:List Token}{n:Nat}:rF (l++[⟨0,n,0,[]⟩]):=by
 intro i t hi hk
 by_cases h:i < l.length
 ·simp; omega
 ·rw [ac9 (by omega)] at hi
  obtain⟨h1,h2⟩:=ab1.1 hi
  simp at h1
  have:i - l.length=0:=by omega
  rw [←h2] at hk
  simp [this] at hk
theorem c25 (s:List UInt8) (h:kP):KK 25 [.str s] h=some (.ret (.tuple [.agg [.slice ((mW s).1.map XF.cells) .no],.agg [.int .i64 ((mW s).2.1:Int),.int .i64 ((mW s).2.2:Int)]]),h):=by
 refine lA rfl rfl (k9 (aAM _ _ _) ?_)
 have h20:=c49 s
 unfold mW
 by_cases he:(oI s).2.1=0
 ·have he':(((oI s).2.1:Nat):Int)=0:=by omega
  obtain⟨l0,hl0,_,_⟩:=CY he
  have hlen:=Nr s
  have hL:(oI s).1.length≤131072:=by omega
  have hK:rF (oI s).1:=by rw [hl0]; exact DR
  have h0:0 < (oI s).1.length:=by rw [hl0]; simp
  rw [if_pos he]
  obtain⟨r,h1,h2⟩:=agD hL hK 0 (oI s).2.2 131073 [] 0 h0 (by omega) (ah9 _)
  simp only [hP,al1,ad0,rB,PB,ac7] at h1
  simp -implicitDefEqProofs [m25,h20,he,h1]
  cases q:o7 (oI s).1 131073 [] 0 0 with
  | ok l a d =>
   rw [q] at h2
   subst h2
   have h3:=acN (e0:=0) (p0:=0) (l:=l) (n:=l.length) (sz:=rZ l.length 8) (a:=a) (d:=d) (L:=(oI s).1)
   simp only [hP,PB,ac7] at h3
   simp -implicitDefEqProofs [hP,PB,h3,kN]
  | bad e p a d =>
   rw [q] at h2
   obtain⟨l,rfl⟩:=h2
   obtain⟨t,ht,h3⟩:=acO (e0:=0) (p0:=(oI s).2.2) (l:=l) (a:=a) (d:=d) (e:=e) (p:=p) (L:=(oI s).1)
   simp only [hP,PB,ac7,p9] at h3
   rcases ht with rfl | rfl <;> simp -implicitDefEqProofs [hP,PB,h3,kN]
 ·have he':¬(((oI s).2.1:Nat):Int)=0:=by omega
  rw [if_neg he]
  simp -implicitDefEqProofs [m25,h20,he,he',kN]
end
section
open Go Hk
def Out.idx {α:Type}:Out α→Nat
 | .ok _ a _=>a
 | .bad _ _ a _=>a
structure Loc {α:Type}(x:List Token→PM α):Prop where
 mono:∀L a d,a≤(x L a d).idx
 loc:∀L L' a d,(∀i,i≤(x L a d).idx→tk L' i=tk L i)→x L' a d=x L a d
 place:∀L a d e p a' d',x L a d=.bad e p a' d'→p=(tk L a').pos∧e≠0
theorem Loc.bind {α β:Type}{x:List Token→PM α}{f:List Token→α→PM β}(hx:Loc x) (hf:∀v,Loc fun L=>f L v):Loc fun L=>x L >>= f L where
 mono:=fun L a d=>by
  have h1:=hx.mono L a d
  simp only [mK,PM.bind]
  cases h:x L a d with
  | ok v a' d'=>rw [h] at h1; exact Nat.le_trans h1 ((hf v).mono L a' d')
  | bad e p a' d'=>rw [h] at h1; exact h1
 loc:=fun L L' a d hh=>by
  have h1:=hx.mono L a d
  have h2:=hx.loc L L' a d
  simp only [mK,PM.bind] at hh ⊢
  cases h:x L a d with
  | ok v a' d' =>
   rw [h] at hh h1 h2
   simp only [] at hh
   have h3:=(hf v).mono L a' d'
   rw [h2 fun i hi=>hh i (Nat.le_trans hi h3)]
   exact(hf v).loc L L' a' d' hh
  | bad e p a' d' =>
   rw [h] at hh h2
   rw [h2 hh]
 place:=fun L a d e p a' d' hb=>by
  simp only [mK,PM.bind] at hb
  cases h:x L a d with
  | ok v a1 d1=>rw [h] at hb; exact(hf v).place L a1 d1 e p a' d' hb
  | bad e1 p1 a1 d1=>rw [h] at hb; cases hb; exact hx.place L a d _ _ _ _ h
theorem Loc.pure {α:Type}{v:α}:Loc fun _=>(Pure.pure v:PM α) :=
 ⟨fun _ _ _=>ac5 _,fun _ _ _ _ _=>rfl,fun _ _ _ _ _ _ _ h=>by cases h⟩
theorem Loc.ite {α:Type}{c:Prop} [Decidable c] {x y:List Token→PM α}(hx:Loc x) (hy:Loc y):Loc fun L=>if c then x L else y L:=by
 by_cases h:c
 ·simp only [h,if_true]; exact hx
 ·simp only [h,if_false]; exact hy
theorem Loc.opt {α:Type}{o:Option Nat}{x:List Token→PM α}{f:List Token→Nat→PM α}(hx:Loc x) (hf:∀k,Loc fun L=>f L k):Loc fun L=>(match o with | none=>x L | some k=>f L k):=by
 cases o with
 | none=>exact hx
 | some k=>exact hf k
theorem GD {α:Type}{e:Nat}(he:e≠0:=by decide):Loc fun L=>(w_ L e:PM α) :=
 ⟨fun _ _ _=>ac5 _,fun L L' a d h=>by simp only [w_]; rw [h a (ac5 _)],fun L a d e p a' d' h=>by cases h; exact⟨rfl,he⟩⟩
theorem D9:Loc fun L=>oQ L :=
 ⟨fun _ _ _=>ac5 _,fun L L' a d h=>by simp only [oQ]; rw [h a (ac5 _)],fun _ _ _ _ _ _ _ h=>by cases h⟩
theorem R4:Loc fun _=>xU:=⟨fun _ _ _=>Nat.le_succ _,fun _ _ _ _ _=>rfl,fun _ _ _ _ _ _ _ h=>by cases h⟩
theorem aJ5:Loc fun _=>pUp:=⟨fun _ _ _=>ac5 _,fun _ _ _ _ _=>rfl,fun _ _ _ _ _ _ _ h=>by cases h⟩
theorem WV {w:List UInt8}:Loc fun L=>GZ L w :=
 ⟨fun _ _ _=>ac5 _,fun L L' a d h=>by simp only [GZ]; rw [h a (ac5 _)],fun _ _ _ _ _ _ _ h=>by cases h⟩
theorem Aq {w:List UInt8}:Loc fun L=>pM L w :=
 ⟨fun L a d=>by simp only [pM,Out.idx]; split <;> omega,fun L L' a d h=>by
  have:a≤(pM L w a d).idx:=by simp only [pM,Out.idx]; split <;> omega
  simp only [pM]; rw [h a this],fun _ _ _ _ _ _ _ h=>by cases h⟩
theorem Loc.one {α:Type}{x:List Token→PM α}(f:Token→Nat→Nat→Option (α×Nat×Nat)) (g:Token→Nat→Nat→Nat) (hg:∀t a d,g t a d≠0) (hf:∀t a d v a' d',f t a d=some (v,a',d')→a≤a')
  (hx:∀L a d,x L a d=match f (tk L a) a d with | some (v,a',d')=>.ok v a' d' | none=>.bad (g (tk L a) a d) (tk L a).pos a d):Loc x:=by
 have hm:∀L a d,a≤(x L a d).idx:=fun L a d=>by
  rw [hx]
  cases h:f (tk L a) a d with
  | none=>exact ac5 _
  | some y=>obtain⟨v,a',d'⟩:=y; exact hf _ _ _ _ _ _ h
 refine⟨hm,fun L L' a d h=>?_,fun L a d e p a' d' h=>?_⟩
 ·rw [hx,hx,h a (hm L a d)]
 ·rw [hx] at h
  split at h
  ·cases h
  ·cases h; exact⟨rfl,hg _ _ _⟩
theorem vW {w:List UInt8}:Loc fun L=>oR L w :=
 Loc.one (fun t a d=>if isS t w then some ((),a+1,d) else none) (fun _ _ _=>10) (fun _ _ _=>by decide) (fun t a d v a' d' h=>by split at h <;> simp at h; omega) fun L a d=>by
  simp only [oR]; cases isS (tk L a) w <;> rfl
theorem Bt {k:Nat}:Loc fun L=>qM L k :=
 Loc.one (fun t a d=>if t.kind=k then some (t,a+1,d) else none) (fun _ _ _=>10) (fun _ _ _=>by decide) (fun t a d v a' d' h=>by split at h <;> simp at h; omega) fun L a d=>by
  simp only [qM]; by_cases h:(tk L a).kind=k <;> simp [h]
theorem GG {w:List UInt8}:Loc fun L=>uJ L w :=
 Loc.one (fun t a d=>if isS t w then(if d=64 then none else some ((),a+1,d+1)) else none) (fun t _ d=>if isS t w then 11 else 10) (fun t _ d=>by split <;> decide) (fun t a d v a' d' h=>by
  split at h
  ·split at h <;> simp at h; omega
  ·cases h) fun L a d=>by
  simp only [uJ]; cases isS (tk L a) w <;> by_cases h:d=64 <;> simp [h]
theorem Jd {w:List UInt8}:Loc fun L=>uK L w :=
 Loc.one (fun t a d=>if isS t w then some ((),a+1,d - 1) else none) (fun _ _ _=>10) (fun _ _ _=>by decide) (fun t a d v a' d' h=>by split at h <;> simp at h; omega) fun L a d=>by
  simp only [uK]; cases isS (tk L a) w <;> rfl
theorem Lq:Loc fun L=>sQ L :=
 Loc.one (fun t a d=>if isS t JQ then some (1,a+1,d) else if isS t Py then some (0,a+1,d) else none) (fun _ _ _=>10) (fun _ _ _=>by decide) (fun t a d v a' d' h=>by
  split at h
  ·simp at h; omega
  ·split at h <;> simp at h; omega) fun L a d=>by
  simp only [sQ]; cases isS (tk L a) JQ <;> cases isS (tk L a) Py <;> rfl
theorem Nk {l:Nat}:Loc fun L=>qO L l :=
 Loc.one (fun t a d=>if isS t zS then some (⟨1,0,l⟩,a+1,d) else if isS t J4 then some (⟨0,0,l⟩,a+1,d) else none) (fun _ _ _=>10) (fun _ _ _=>by decide) (fun t a d v a' d' h=>by
  split at h
  ·simp at h; omega
  ·split at h <;> simp at h; omega) fun L a d=>by
  simp only [qO]; cases isS (tk L a) zS <;> cases isS (tk L a) J4 <;> rfl
theorem ahR:Loc fun L=>yN L :=
 vW.bind fun _=>D9.bind fun t=>Loc.ite GD (Bt.bind fun _=>vW.bind fun _=>Loc.pure)
theorem YX {l:Nat}:Loc fun L=>vK L l :=
 Aq.bind fun _=>Loc.ite (ahR.bind fun _=>Loc.pure) (Nk.bind fun t=>Loc.ite (WV.bind fun _=>Loc.ite (ahR.bind fun _=>Loc.pure) Loc.pure) Loc.pure)
theorem YY:Loc fun L=>u1 L :=
 Aq.bind fun _=>Lq.bind fun _=>Bt.bind fun _=>vW.bind fun _=>YX.bind fun _=>Loc.pure
theorem ahS {α:Type}{one:List Token→PM α}(h:Loc one):∀(n:Nat) (l:List α),Loc fun L=>xT L (one L) n l
 | 0,_=>GD
 | n+1,l=>h.bind fun x=>Aq.bind fun _=>Loc.ite (ahS h n _) Loc.pure
theorem WX {α:Type}{one:List Token→PM α}{w:List UInt8}(h:Loc one):Loc fun L=>yZ L w (one L) :=
 WV.bind fun _=>Loc.ite Loc.pure (ahS h _ _)
section
variable {ex un:List Token→PM XE}(he:Loc ex) (hu:Loc un)
include he
theorem YW:Loc fun L=>uU L (ex L):=GG.bind fun _=>he.bind fun _=>Jd.bind fun _=>Loc.pure
theorem ahO {t:Token}:Loc fun L=>zT L (ex L) t:=GG.bind fun _=>(WX he).bind fun _=>Jd.bind fun _=>Loc.pure
theorem ahN:∀(n:Nat) (b:Bool) (l:List XE),Loc fun L=>tO L (ex L) n b l
 | 0,_,_=>Loc.pure
 | n+1,b,l=>by
  have h1:∀_:Unit,Loc fun L=>(do let x ←ex L; tO L (ex L) n false (l++[x]):PM (List XE)):=fun _=>he.bind fun _=>ahN n _ _
  cases b
  ·exact vW.bind fun u=>h1 u
  ·exact Loc.bind (x:=fun _=>(Pure.pure PUnit.unit:PM PUnit)) Loc.pure fun u=>h1 u
theorem Nj {kind many:Nat}{number:Bool}:Loc fun L=>vY L (ex L) kind many number :=
 D9.bind fun _=>R4.bind fun _=>GG.bind fun _=>(ahN he _ _ _).bind fun _ =>
  Loc.ite (vW.bind fun _=>Bt.bind fun _=>Jd.bind fun _=>Loc.pure) (Jd.bind fun _=>Loc.pure)
theorem abW:Loc fun L=>qD L (ex L) :=
 D9.bind fun _=>Loc.ite (R4.bind fun _=>Loc.pure) (Loc.ite (GG.bind fun _=>he.bind fun _=>Jd.bind fun _=>Loc.pure) (Loc.ite (Nj he) (Loc.ite (Nj he) (Loc.ite (Nj he) (Loc.ite (Nj he) (Loc.ite (Nj he)
  (Bt.bind fun _=>WV.bind fun _=>Loc.ite (ahO he) (WV.bind fun _=>Loc.ite ((YW he).bind fun _=>Loc.pure) Loc.pure))))))))
include hu
theorem apT:Loc fun L=>yB L (ex L) (un L):=by
 have hs:∀kind,Loc fun L=>AK L (un L) kind:=fun kind=>D9.bind fun _=>GG.bind fun _=>hu.bind fun _=>aJ5.bind fun _=>Loc.pure
 exact D9.bind fun _=>Loc.ite (hs _) (Loc.ite (hs _) (Loc.ite (hs _) (abW he)))
end
theorem WW {next:List Token→PM XE}(hn:Loc next) (k:Nat):∀(n:Nat) (x:XE),Loc fun L=>tP L (next L) k n x
 | 0,_=>GD
 | n+1,x=>D9.bind fun t=>Loc.opt (o:=pO t k) Loc.pure fun kind=>R4.bind fun _=>Loc.ite (Bt.bind fun _=>WW hn k n _) (hn.bind fun _=>WW hn k n _)
theorem Lo {un:List Token→PM XE}(hu:Loc un):∀j,Loc fun L=>pD L (un L) j
 | 0=>hu
 | j+1=>(Lo hu j).bind fun _=>WW (Lo hu j) _ _ _
theorem ahQ {un:List Token→PM XE}(hu:Loc un):Loc fun L=>Bj L (un L) :=
 (Lo hu 6).bind fun _=>D9.bind fun t=>Loc.opt (o:=pO t 0) Loc.pure fun _=>R4.bind fun _=>(Lo hu 6).bind fun _=>Loc.pure
theorem aAc:∀n,Loc fun L=>EC L n
 | 0=>GD
 | n+1=>apT (ahQ (aAc n)) (aAc n)
theorem ahP (n:Nat):Loc fun L=>B1 L n:=ahQ (aAc n)
theorem YV (n:Nat):Loc fun L=>Bu L n:=(ahP n).bind fun _=>vW.bind fun _=>Loc.pure
theorem apS (n pos:Nat):Loc fun L=>pN L n pos :=
 Bt.bind fun _=>WV.bind fun _=>Loc.ite ((ahO (ahP _)).bind fun _=>vW.bind fun _=>Loc.pure)
  (WV.bind fun _=>Loc.ite ((YW (ahP _)).bind fun _=>vW.bind fun _=>(YV _).bind fun _=>Loc.pure) (vW.bind fun _=>(YV _).bind fun _=>Loc.pure))
theorem ahT {block:List Token→PM (List XS)}(hb:Loc block) (n:Nat):Loc fun L=>uL L (block L) n :=
 D9.bind fun _=>Aq.bind fun _=>Loc.ite (Bt.bind fun _=>vW.bind fun _=>(YV _).bind fun _=>Loc.pure)
  (Aq.bind fun _=>Loc.ite (Lq.bind fun _=>Bt.bind fun _=>vW.bind fun _=>YX.bind fun _=>vW.bind fun _=>Loc.pure)
  (Aq.bind fun _=>Loc.ite ((ahP n).bind fun _=>hb.bind fun _=>Aq.bind fun _=>Loc.ite (hb.bind fun _=>Loc.pure) Loc.pure)
  (Aq.bind fun _=>Loc.ite (Bt.bind fun _=>vW.bind fun _=>(ahP n).bind fun _=>vW.bind fun _=>Bt.bind fun _=>hb.bind fun _=>Loc.pure)
  (Aq.bind fun _=>Loc.ite ((YV n).bind fun _=>Loc.pure) (apS _ _)))))
theorem R5 {stmt:List Token→PM XS}(hs:Loc stmt):∀(m:Nat) (l:List XS),Loc fun L=>vZ L (stmt L) m l
 | 0,_=>GD
 | m+1,l=>WV.bind fun _=>Loc.ite Loc.pure (hs.bind fun _=>R5 hs m _)
theorem Ln:∀n,Loc fun L=>sE L n
 | 0=>GD
 | n+1=>GG.bind fun _=>(R5 (ahT (Ln n) n) _ _).bind fun _=>Jd.bind fun _=>Loc.pure
theorem aAb:Loc fun L=>wL L :=
 vW.bind fun _=>Bt.bind fun _=>vW.bind fun _=>(WX YY).bind fun _=>vW.bind fun _=>Aq.bind fun _ =>
  Loc.ite (Lq.bind fun _=>Nk.bind fun _=>(Ln _).bind fun _=>Loc.pure) ((Ln _).bind fun _=>Loc.pure)
theorem Lp:∀(m:Nat) (l:List XF),Loc fun L=>o7 L m l
 | 0,_=>GD
 | m+1,l=>D9.bind fun _=>Loc.ite Loc.pure (aAb.bind fun _=>Lp m _)
end
section
open Go Hk
section
variable {c:UInt8}(hc:c=10∨c=32)
include hc
end
end
section
open Go Hk

end
section
open Go Hk
def Bd (L:List Token) {α:Type}(x:PM α) (a:Nat):Prop:=∀d,(x a d).idx < L.length
def rN (L:List Token) {α:Type}(x:PM α):Prop:=∀a,a < L.length→Bd L x a
section
variable {L:List Token}{α β:Type}
theorem rN.bind {x:PM α}{f:α→PM β}(hx:rN L x) (hf:∀v,rN L (f v)):rN L (x >>= f):=by
 intro a ha d
 have h1:=hx a ha d
 simp only [mK,PM.bind]
 cases h:x a d with
 | ok v a' d'=>rw [h] at h1; exact hf v a' h1 d'
 | bad e p a' d'=>rw [h] at h1; exact h1
theorem rN.pure {v:α}:rN L (Pure.pure v:PM α):=fun _ ha _=>ha
theorem rN.fail {e:Nat}:rN L (w_ L e:PM α):=fun _ ha _=>ha
theorem rN.ite {c:Prop} [Decidable c] {x y:PM α}(hx:rN L x) (hy:rN L y):rN L (if c then x else y):=by
 split
 ·exact hx
 ·exact hy
theorem Bd.ite {c:Prop} [Decidable c] {x y:PM α}{a:Nat}(hx:c→Bd L x a) (hy:¬c→Bd L y a):Bd L (if c then x else y) a:=by
 split
 ·rename_i h; exact hx h
 ·rename_i h; exact hy h
theorem Bd.here {f:Token→PM α}{a:Nat}(h:Bd L (f (tk L a)) a):Bd L (oQ L >>= f) a:=fun d=>h d
theorem Bd.next {f:Unit→PM α}{a:Nat}(ha:a+1 < L.length) (h:rN L (f ())):Bd L (xU >>= f) a:=fun d=>h (a+1) ha d
theorem M_:rN L (oQ L):=fun _ ha _=>ha
theorem WN {w:List UInt8}:rN L (GZ L w):=fun _ ha _=>ha
theorem aJV:rN L pUp:=fun _ ha _=>ha
variable (hL:rF L)
include hL
theorem A9 {w:List UInt8}:rN L (pM L w):=by
 intro a ha d
 simp only [pM,Out.idx]
 split
 ·rename_i h; exact mR hL ha h
 ·exact ha
theorem x9 {w:List UInt8}:rN L (oR L w):=by
 intro a ha d
 simp only [oR]
 split
 ·rename_i h; exact mR hL ha h
 ·exact ha
theorem Cm {k:Nat}(hk:k≠0):rN L (qM L k):=by
 intro a ha d
 simp only [qM]
 split
 ·rename_i h; exact p8 hL ha hk h
 ·exact ha
theorem Ja {w:List UInt8}:rN L (uJ L w):=by
 intro a ha d
 simp only [uJ]
 split
 ·rename_i h
  split
  ·exact ha
  ·exact mR hL ha h
 ·exact ha
theorem Jb {w:List UInt8}:rN L (uK L w):=by
 intro a ha d
 simp only [uK]
 split
 ·rename_i h; exact mR hL ha h
 ·exact ha
theorem R1:rN L (sQ L):=by
 intro a ha d
 simp only [sQ]
 split
 ·rename_i h; exact mR hL ha h
 ·split
  ·rename_i h; exact mR hL ha h
  ·exact ha
theorem Uz {l:Nat}:rN L (qO L l):=by
 intro a ha d
 simp only [qO]
 split
 ·rename_i h; exact mR hL ha h
 ·split
  ·rename_i h; exact mR hL ha h
  ·exact ha
theorem ahI:rN L (yN L):=(x9 hL).bind fun _=>M_.bind fun _=>rN.ite rN.fail ((Cm hL (by decide)).bind fun _=>(x9 hL).bind fun _=>rN.pure)
theorem YT {l:Nat}:rN L (vK L l) :=
 (A9 hL).bind fun _=>rN.ite ((ahI hL).bind fun _=>rN.pure) ((Uz hL).bind fun _=>rN.ite (WN.bind fun _=>rN.ite ((ahI hL).bind fun _=>rN.pure) rN.pure) rN.pure)
theorem apF:rN L (u1 L) :=
 (A9 hL).bind fun _=>(R1 hL).bind fun _=>(Cm hL (by decide)).bind fun _=>(x9 hL).bind fun _=>(YT hL).bind fun _=>rN.pure
theorem ahJ {one:PM α}(h:rN L one):∀(n:Nat) (l:List α),rN L (xT L one n l)
 | 0,_=>rN.fail
 | n+1,l=>h.bind fun x=>(A9 hL).bind fun _=>rN.ite (ahJ h n _) rN.pure
theorem ahH {one:PM α}{w:List UInt8}(h:rN L one):rN L (yZ L w one):=WN.bind fun _=>rN.ite rN.pure (ahJ hL h _ _)
section
variable {ex un:PM XE}(he:rN L ex) (hu:rN L un)
include he
theorem YS:rN L (uU L ex):=(Ja hL).bind fun _=>he.bind fun _=>(Jb hL).bind fun _=>rN.pure
theorem ahE {t:Token}:rN L (zT L ex t):=(Ja hL).bind fun _=>(ahH hL he).bind fun _=>(Jb hL).bind fun _=>rN.pure
theorem ahD:∀(n:Nat) (b:Bool) (l:List XE),rN L (tO L ex n b l)
 | 0,_,_=>rN.pure
 | n+1,b,l=>by
  have h1:∀_:Unit,rN L (do let x ←ex; tO L ex n false (l++[x]):PM (List XE)):=fun _=>he.bind fun _=>ahD n _ _
  cases b
  ·exact(x9 hL).bind fun u=>h1 u
  ·exact rN.bind (x:=(Pure.pure PUnit.unit:PM PUnit)) rN.pure fun u=>h1 u
theorem Na {kind many a:Nat}{number:Bool}(ha:a+1 < L.length):Bd L (vY L ex kind many number) a :=
 Bd.here (Bd.next ha ((Ja hL).bind fun _=>(ahD hL he _ _ _).bind fun _ =>
  rN.ite ((x9 hL).bind fun _=>(Cm hL (by decide)).bind fun _=>(Jb hL).bind fun _=>rN.pure) ((Jb hL).bind fun _=>rN.pure)))
theorem abN:rN L (qD L ex):=fun a ha=>Bd.here (Bd.ite (fun h=>Bd.next (p8 (k:=2) hL ha (by decide) h) rN.pure) fun _ =>
 Bd.ite (fun _=>((Ja hL).bind fun _=>he.bind fun _=>(Jb hL).bind fun _=>rN.pure) a ha) fun _ =>
 Bd.ite (fun h=>Na hL he (mR hL ha h)) fun _=>Bd.ite (fun h=>Na hL he (mR hL ha h)) fun _=>Bd.ite (fun h=>Na hL he (mR hL ha h)) fun _ =>
 Bd.ite (fun h=>Na hL he (mR hL ha h)) fun _=>Bd.ite (fun h=>Na hL he (mR hL ha h)) fun _ =>
 ((Cm hL (by decide)).bind fun _=>WN.bind fun _=>rN.ite (ahE hL he) (WN.bind fun _=>rN.ite ((YS hL he).bind fun _=>rN.pure) rN.pure)) a ha)
include hu
theorem apG:rN L (yB L ex un):=by
 have hs:∀kind,rN L (AK L un kind):=fun kind=>M_.bind fun _=>(Ja hL).bind fun _=>hu.bind fun _=>aJV.bind fun _=>rN.pure
 exact M_.bind fun _=>rN.ite (hs _) (rN.ite (hs _) (rN.ite (hs _) (abN hL he)))
end
theorem WO {next:PM XE}(hn:rN L next) (k:Nat):∀(n:Nat) (x:XE),rN L (tP L next k n x)
 | 0,_=>rN.fail
 | n+1,x=>fun a ha=>Bd.here (by
  cases hs:pO (tk L a) k with
  | none=>exact rN.pure a ha
  | some kind=>exact Bd.next (p8 (k:=4) hL ha (by decide) (sO hs)) (rN.ite ((Cm hL (by decide)).bind fun _=>WO hn k n _) (hn.bind fun _=>WO hn k n _)))
theorem Ll {un:PM XE}(hu:rN L un):∀j,rN L (pD L un j)
 | 0=>hu
 | j+1=>(Ll hu j).bind fun _=>WO hL (Ll hu j) _ _ _
theorem ahG {un:PM XE}(hu:rN L un):rN L (Bj L un) :=
 (Ll hL hu 6).bind fun _=>fun a ha=>Bd.here (by
  cases hs:pO (tk L a) 0 with
  | none=>exact rN.pure a ha
  | some kind=>exact Bd.next (p8 (k:=4) hL ha (by decide) (sO hs)) ((Ll hL hu 6).bind fun _=>rN.pure))
theorem azX:∀n,rN L (EC L n)
 | 0=>rN.fail
 | n+1=>apG hL (ahG hL (azX n)) (azX n)
theorem ahF (n:Nat):rN L (B1 L n):=ahG hL (azX hL n)
theorem YR (n:Nat):rN L (Bu L n):=(ahF hL n).bind fun _=>(x9 hL).bind fun _=>rN.pure
theorem apE (n pos:Nat):rN L (pN L n pos) :=
 (Cm hL (by decide)).bind fun _=>WN.bind fun _=>rN.ite ((ahE hL (ahF hL _)).bind fun _=>(x9 hL).bind fun _=>rN.pure)
  (WN.bind fun _=>rN.ite ((YS hL (ahF hL _)).bind fun _=>(x9 hL).bind fun _=>(YR hL _).bind fun _=>rN.pure) ((x9 hL).bind fun _=>(YR hL _).bind fun _=>rN.pure))
theorem azW {block:PM (List XS)}(hb:rN L block) (n:Nat):rN L (uL L block n) :=
 M_.bind fun _=>(A9 hL).bind fun _=>rN.ite ((Cm hL (by decide)).bind fun _=>(x9 hL).bind fun _=>(YR hL _).bind fun _=>rN.pure)
  ((A9 hL).bind fun _=>rN.ite ((R1 hL).bind fun _=>(Cm hL (by decide)).bind fun _=>(x9 hL).bind fun _=>(YT hL).bind fun _=>(x9 hL).bind fun _=>rN.pure)
  ((A9 hL).bind fun _=>rN.ite ((ahF hL n).bind fun _=>hb.bind fun _=>(A9 hL).bind fun _=>rN.ite (hb.bind fun _=>rN.pure) rN.pure)
  ((A9 hL).bind fun _=>rN.ite ((Cm hL (by decide)).bind fun _=>(x9 hL).bind fun _=>(ahF hL n).bind fun _=>(x9 hL).bind fun _=>(Cm hL (by decide)).bind fun _=>hb.bind fun _=>rN.pure)
  ((A9 hL).bind fun _=>rN.ite ((YR hL n).bind fun _=>rN.pure) (apE hL _ _)))))
omit hL in
theorem YU {stmt:PM XS}(hs:rN L stmt):∀(m:Nat) (l:List XS),rN L (vZ L stmt m l)
 | 0,_=>rN.fail
 | m+1,l=>WN.bind fun _=>rN.ite rN.pure (hs.bind fun _=>YU hs m _)
theorem RZ:∀n,rN L (sE L n)
 | 0=>rN.fail
 | n+1=>(Ja hL).bind fun _=>(YU (azW hL (RZ n) n) _ _).bind fun _=>(Jb hL).bind fun _=>rN.pure
theorem azV:rN L (wL L) :=
 (x9 hL).bind fun _=>(Cm hL (by decide)).bind fun _=>(x9 hL).bind fun _=>(ahH hL (apF hL)).bind fun _=>(x9 hL).bind fun _=>(A9 hL).bind fun _ =>
  rN.ite ((R1 hL).bind fun _=>(Uz hL).bind fun _=>(RZ hL _).bind fun _=>rN.pure) ((RZ hL _).bind fun _=>rN.pure)
theorem R0:∀(m:Nat) (l:List XF),rN L (o7 L m l)
 | 0,_=>rN.fail
 | m+1,l=>M_.bind fun _=>rN.ite rN.pure ((azV hL).bind fun _=>R0 m _)
end
end
end Go.Proofs.YtlddmnojanpdoaaGreatDoor
