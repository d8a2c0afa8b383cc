/-
  The texts SG.H, SG.I, SG.J, SG.K, SG.N, SG.O, SG.Q, SG.R, SG.S, SG.T, SG.U, SG.V, SG.W, SG.X, SG.X1, SG.X2, SG.X3, SG.X5, SG.X4, SG.Y1, SG.Y2, SG.Y3, SG.Y4, SG.Y5, SG.Y6, one behind another. No conditions.
-/
import Derived.Test.YtlddmnojanpdoaaGreatDoorPSga1
import Derived.Test.YtlddmnojanpdoaaGreatDoorPLg1
set_option linter.unusedVariables false
set_option linter.unusedSimpArgs false
set_option linter.all false
open Bool renaming false_eq_true → al9
open Int renaming cast_ofNat_Int → ab9, natCast_add → af8
open List renaming append_assoc → ag1, cons_append → ae7, getElem?_append_right → ac3, getElem?_eq_some_iff → ab0, length_append → ab5, length_cons → ac1, length_map → aj1, length_nil → ac6, length_take → aj4, map_append → am3, map_cons → ai3, map_nil → al1, nil_append → ah4, set_append_right → al4
open Nat renaming le_refl → ab6, zero_le → ah8
open Option renaming bind_eq_some_iff → aa4, bind_some → ad9, map_eq_some_iff → ab8
open Option.some renaming injEq → ab1
namespace Go.Proofs.YtlddmnojanpdoaaGreatDoor
section
open Go Hk
def Da (n:Nat) (C:List lG):Prop:=∀m h,n≤m→nK m h C=some C
def B6 (n:Nat) (cs:List kM):Prop:=∀m h,n≤m→nI m h cs=some cs
section
variable {n:Nat}
theorem Da.mono {k:Nat}{C:List lG}(h:Da n C) (hk:n≤k):Da k C:=fun m x hm=>h m x (Nat.le_trans hk hm)
theorem sM {m:Nat}{h:kP}:∀{B C:List lG},nK m h B=some B→nK m h C=some C→nK m h (B++C)=some (B++C)
 | [],_,_,h2=>h2
 | b::r,C,h1,h2=>by
  simp only [nK] at h1
  split at h1
  ·rename_i b' r' e1 e2
   simp only [ab1,List.cons.injEq] at h1
   obtain⟨rfl,rfl⟩:=h1
   simp only [ae7,nK,e1,sM e2 h2]
  ·cases h1
theorem Fp {B C:List lG}(h1:Da n B) (h2:Da n C):Da n (B++C):=fun m h hm=>sM (h1 m h hm) (h2 m h hm)
theorem DR:Da n []:=fun _ _ _=>rfl
theorem Z2 {i j:Nat}{C:List lG}(h:Da n C):Da n (.front i j::C):=fun m x hm=>by simp [h m x hm]
theorem IF {cs:List kM}{C:List lG}(h1:B6 n cs) (h:Da n C):Da n (.cells cs::C):=fun m x hm=>by simp [h m x hm,h1 m x hm]
theorem QP:B6 n []:=fun _ _ _=>rfl
end
section
variable {n:Nat}
theorem OU {i j:Nat}{C:List lG}:Da n (.front i j::C)↔Da n C:=⟨fun h m x hm=>by
 have:=h m x hm
 simp only [oM,Sz,ad9,ab8] at this
 obtain⟨r,h1,h2⟩:=this
 cases h2; exact h1,Z2⟩
theorem QS {C:List lG}:Da n (.gone::C)↔Da n C:=⟨fun h m x hm=>by
 have:=h m x hm
 have e:pF m x .gone=some .gone:=rfl
 simp only [oM,e,ad9,ab8] at this
 obtain⟨r,h1,h2⟩:=this
 cases h2; exact h1,fun h m x hm=>by
 have e:pF m x .gone=some .gone:=rfl
 simp only [oM,e,ad9,h m x hm,Option.map_some]⟩
theorem Db {cs:List kM}{C:List lG}:Da n (.cells cs::C)↔B6 n cs∧Da n C:=⟨fun h=>by
 have key:∀m x,n≤m→nI m x cs=some cs∧nK m x C=some C:=fun m x hm=>by
  have:=h m x hm
  simp only [oM,Ij,aa4,ab8] at this
  obtain⟨b,⟨c,h1,h2⟩,r,h3,h4⟩:=this
  cases h2; cases h4; exact⟨h1,h3⟩
 exact⟨fun m x hm=>(key m x hm).1,fun m x hm=>(key m x hm).2⟩,fun h=>IF h.1 h.2⟩
theorem CK {v:kM}{cs:List kM}(hv:∀m x,n≤m→v.mP m x=v) (hc:v.mE=true):B6 n (v::cs)↔B6 n cs:=by
 constructor
 ·intro h m x hm
  have:=h m x hm
  simp only [tJ,hv m x hm,hc,cond_true,ab8] at this
  obtain⟨r,h1,h2⟩:=this
  cases h2; exact h1
 ·intro h m x hm
  simp only [tJ,hv m x hm,hc,cond_true,h m x hm,Option.map_some]
theorem S8 {k:IntKind}{z:Int}{cs:List kM}:B6 n (.int k z::cs)↔B6 n cs:=CK (fun _ _ _=>rfl) rfl
theorem Ta {z:List UInt8}{cs:List kM}:B6 n (.str z::cs)↔B6 n cs:=CK (fun _ _ _=>rfl) rfl
theorem QO {z:Bool}{cs:List kM}:B6 n (.bool z::cs)↔B6 n cs:=CK (fun _ _ _=>rfl) rfl
theorem OT {rows:List (List kM)}{cs:List kM}:B6 n (.slice rows .no::cs)↔B6 n cs:=CK (fun _ _ _=>rfl) rfl
theorem S9 {rows:List (List kM)}{id:Nat}{cs:List kM}:B6 n (.slice rows (.own id)::cs)↔id < n∧B6 n cs:=by
 have key:∀hi:id < n,B6 n (.slice rows (.own id)::cs)↔B6 n cs:=fun hi=>CK (fun m x hm=>by
  have:id < m:=by omega
  simp [this]) rfl
 constructor
 ·intro h
  have hi:id < n:=by
   have:=h n [] (ab6 _)
   by_cases hi:id < n
   ·exact hi
   ·exfalso
    simp only [tJ,U9,decide_eq_false hi,cond_false,Rf,cond_true,ab8] at this
    obtain⟨r,h1,h2⟩:=this
    cases h2
  exact⟨hi,(key hi).1 h⟩
 ·rintro⟨hi,h⟩
  exact(key hi).2 h
theorem S_ {id o:Nat}{cs:List kM}:B6 n (.ptr id o::cs)↔id < n∧B6 n cs:=by
 have key:∀hi:id < n,B6 n (.ptr id o::cs)↔B6 n cs:=fun hi=>CK (fun m x hm=>by
  have:id < m:=by omega
  simp [lE this]) rfl
 constructor
 ·intro h
  have hi:id < n:=by
   have:=h n [] (ab6 _)
   by_cases hi:id < n
   ·exact hi
   ·exfalso
    have e:(kM.ptr id o).mP n []=.junk:=by simp [kM.mP,hi]
    simp [tJ,e,kM.mE] at this
  exact⟨hi,(key hi).1 h⟩
 ·rintro⟨hi,h⟩
  exact(key hi).2 h
end
def HQ (A:List lG) (L:List Token) (a d:Nat) (B:List lG):kP:=A++PB L a d::B
def HN (A B:List lG):Nat:=A.length+1+B.length
structure KB (A B:List lG):Prop where
 a:∀n,HN A B≤n→Da n A
 b:∀n,HN A B≤n→Da n B
section
variable {A B C:List lG}{L:List Token}{a d k:Nat}
theorem C_:HN A (B++C)=HN A B+C.length:=by simp [HN]; omega
theorem KB.app (h:KB A B) (hC:Da (HN A B+C.length) C):KB A (B++C):=by
 refine⟨fun n hn=>?_,fun n hn=>?_⟩
 ·rw [C_] at hn
  exact(h.a (HN A B) (ab6 _)).mono (by omega)
 ·rw [C_] at hn
  exact Fp ((h.b (HN A B) (ab6 _)).mono (by omega)) (hC.mono hn)
theorem L1:HQ A L a d B++C=HQ A L a d (B++C):=by simp [HQ]
theorem IE:(HQ A L a d B).length=HN A B:=by simp [HQ,HN]; omega
theorem aIq:mY (HQ A L a d B) A.length=some [.slice (L.map Token.cells) .no,.int .i64 (a:Int),.int .i64 (d:Int)]:=by simp [HQ,mY,PB]
theorem ad0:mY (HQ A L a d (B++C)) (HN A B+k)=mY C k:=by
 unfold mY HQ HN
 rw [ac3 (by omega),show A.length+1+B.length+k - A.length=B.length+k+1 by omega,List.getElem?_cons_succ,ac3 (by omega),show B.length+k - B.length=k by omega]
theorem amO:mY (HQ A L a d (B++C)) (HN A B)=mY C 0:=ad0 (k:=0)
theorem L2:(HQ A L a d (B++C))[HN A B+k]?=C[k]?:=by
 unfold HQ HN
 rw [ac3 (by omega),show A.length+1+B.length+k - A.length=B.length+k+1 by omega,List.getElem?_cons_succ,ac3 (by omega),show B.length+k - B.length=k by omega]
theorem Th:qL (HQ A L a d (B++C)) (HN A B+k)=qL C k:=by unfold qL; rw [L2]
theorem L3 {x:lG}:List.set (HQ A L a d (B++C)) (HN A B+k) x=HQ A L a d (B++C.set k x):=by
 unfold HQ HN
 rw [al4 _ _ (by omega),show A.length+1+B.length+k - A.length=B.length+k+1 by omega,List.set_cons_succ,al4 _ _ (by omega),show B.length+k - B.length=k by omega]
theorem amP {x:lG}:List.set (HQ A L a d (B++C)) (HN A B) x=HQ A L a d (B++C.set 0 x):=L3 (k:=0)
theorem XV:List.set (HQ A L a d B) A.length (.cells [.slice (L.map Token.cells) .no,.int .i64 ((a:Int)+1),.int .i64 (d:Int)])=HQ A L (a+1) d B:=by
 unfold HQ; rw [al4 _ _ (ab6 _),Nat.sub_self]; rfl
theorem QR {d':Nat}:List.set (HQ A L a d B) A.length (.cells [.slice (L.map Token.cells) .no,.int .i64 (a:Int),.int .i64 (d':Int)])=HQ A L a d' B:=by
 unfold HQ; rw [al4 _ _ (ab6 _),Nat.sub_self]; rfl
theorem Tg:List.set (HQ A L a d B) A.length (.cells [.slice (L.map Token.cells) .no,.int .i64 (a:Int),.int .i64 ((d:Int)+1)])=HQ A L a (d+1) B:=QR (d':=d+1)
theorem Ti:oB (HQ A L a d (B++C)) (HN A B+k)=HQ A L a d (B++oB C k):=by
 unfold oB
 rw [L2]
 cases C[k]? with
 | none=>rfl
 | some b=>cases b <;> first | rfl | exact L3
theorem Z1:oB (HQ A L a d (B++C)) (HN A B)=HQ A L a d (B++oB C 0):=Ti (k:=0)
theorem L4 {a' d':Nat}{C':List lG}:mM (HQ A L a d (B++C)) (HQ A L a' d' (B++C')) (HN A B+k)=HQ A L a' d' (B++mM C C' k):=by
 unfold mM
 rw [L2]
 cases C[k]? with
 | none=>rfl
 | some b=>cases b <;> first | rfl | exact L3
theorem Tj {a' d':Nat}{C':List lG}:mM (HQ A L a d (B++C)) (HQ A L a' d' (B++C')) (HN A B)=HQ A L a' d' (B++mM C C' 0):=L4 (k:=0)
theorem Uk {cs:List kM}{C:List lG}:oB (.cells cs::C) 0=.gone::C:=(rfl)
theorem Ww {C:List lG}:oB (.gone::C) 0=.gone::C:=(rfl)
theorem Wx {b:lG}{C:List lG}{k:Nat}:oB (b::C) (k+1)=b::oB C k:=by
 unfold oB
 simp only [List.getElem?_cons_succ]
 cases C[k]? with
 | none=>rfl
 | some b=>cases b <;> rfl
theorem Pw {cs:List kM}{b:lG}{C C':List lG}:mM (.cells cs::C) (b::C') 0=.cells cs::C':=(rfl)
theorem SL {b b':lG}{C C':List lG}{k:Nat}:mM (b::C) (b'::C') (k+1)=b'::mM C C' k:=by
 unfold mM
 simp only [List.getElem?_cons_succ]
 cases C[k]? with
 | none=>rfl
 | some b=>cases b <;> rfl
theorem ag0 {h:kP}:nL [] h=h:=(rfl)
theorem aa9 {h:kP}{i:Nat}{ids:List Nat}:nL (i::ids) h=nL ids (oB h i):=(rfl)
theorem XD {h h':kP}:lQ [] h h'=h':=(rfl)
theorem VC {h h':kP}{i:Nat}{ids:List Nat}:lQ (i::ids) h h'=lQ ids h (mM h h' i):=(rfl)
theorem V5 {i o:Nat}:pK (.ptr i o)=some i:=(rfl)
theorem TE {cs:List kM}:pK (.pptr cs)=none:=(rfl)
theorem adX {d':Nat}:List.set (HQ A L (a+1) d B) A.length (.cells [.slice (L.map Token.cells) .no,.int .i64 ((a:Int)+1),.int .i64 (d':Int)])=HQ A L (a+1) d' B:=QR (a:=a+1)
theorem ZZ:List.set (HQ A L (a+1) d B) A.length (.cells [.slice (L.map Token.cells) .no,.int .i64 ((a:Int)+1),.int .i64 ((d:Int)+1)])=HQ A L (a+1) (d+1) B:=Tg (a:=a+1)
theorem Ha (h:KB A B):l_ (HN A B) (HQ A L a d (B++C))=some (HQ A L a d B):=by
 have e:HQ A L a d (B++C)=HQ A L a d B++C:=L1.symm
 unfold Hk.l_
 rw [e,←IE (L:=L) (a:=a) (d:=d),List.take_left,IE]
 exact sM (h.a _ (ab6 _) _ _ (ab6 _)) (by
  have:pF (HN A B) (HQ A L a d B++C) (PB L a d)=some (PB L a d):=rfl
  simp only [nK,this,h.b _ (ab6 _) _ _ (ab6 _)])
theorem Px (h:KB A B):l_ (HN A B) (HQ A L a d B)=some (HQ A L a d B):=by
 have:=Ha (L:=L) (a:=a) (d:=d) (C:=[]) h
 rwa [List.append_nil] at this
theorem amN {v:kM}(h:KB A B):lZ (HN A B) v (HQ A L a d (B++C))=some (.ret (v.vK (HN A B) (HQ A L a d (B++C))).kQ,HQ A L a d B):=by simp [lZ,Ha h]
theorem amM {v:kM}(h:KB A B):rE (HN A B) v (HQ A L a d (B++C))=some (.pan (v.vK (HN A B) (HQ A L a d (B++C))).kQ,HQ A L a d B):=by simp [rE,Ha h]
theorem adZ {v:kM}(h:KB A B):lZ (HN A B) v (HQ A L a d B)=some (.ret (v.vK (HN A B) (HQ A L a d B)).kQ,HQ A L a d B):=by simp [lZ,Px h]
theorem adY {v:kM}(h:KB A B):rE (HN A B) v (HQ A L a d B)=some (.pan (v.vK (HN A B) (HQ A L a d B)).kQ,HQ A L a d B):=by simp [rE,Px h]
end
def Out.res {α:Type}(enc:α→kM) (A:List lG) (L:List Token) (B:List lG):Out α→nO×kP
 | .ok v a d=>(.ret (enc v),HQ A L a d B)
 | .bad e p a d=>(.pan (p9 e p),HQ A L a d B)
section
variable {α:Type}{enc:α→kM}{A B:List lG}{L:List Token}{a d e p:Nat}{v:α}
theorem ajU:(Out.ok v a d).res enc A L B=(.ret (enc v),HQ A L a d B):=rfl
theorem as1:(Out.bad e p a d:Out α).res enc A L B=(.pan (p9 e p),HQ A L a d B):=rfl
end
def qP (L:List Token) (dk:Nat→Prop) (f:Nat) (args:List kM) {α:Type}(enc:α→kM) (x:PM α):Prop :=
 ∀A B a d,a < L.length→dk d→KB A B→KK f (.ptr A.length 0::args) (HQ A L a d B)=some ((x a d).res enc A L B)
def tP:Unit→kM:=fun _=>.tuple []
def IV:Bool→kM:=.bool
def zC:Token→kM:=fun t=>.agg t.cells
def Pn:Nat→kM:=fun n=>.int .i64 (n:Int)
section
variable {L:List Token}(hL:L.length≤131072)
attribute [simp] Ti Z1 L4 Tj Uk Ww Wx Pw SL ag0 aa9 XD VC V5 TE k9
attribute [simp] Th C_ IE L1 ad0 amO L2 L3 amP aIq XV QR Tg adX ZZ amN amM adZ adY ajU as1
attribute [simp] KB.app DR OU QS Db QP S8 Ta QO OT S9 S_
attribute [simp] lL lF putCells atY akU atZ ahB SJ lT sO apart
theorem aCp {L:List Token}{a:Nat}{h:a < L.length}:L[a]'h=tk L a:=by simp [tk,h]
attribute [simp] aCp
theorem rR {a:Nat}(h:a≤9223372036854775806):IntKind.wrap .i64 ((a:Int)+1)=(a:Int)+1:=by rw [wrap64] <;> omega
theorem wrapN {a:Nat}(h:a≤9223372036854775807):IntKind.wrap .i64 (a:Int)=(a:Int):=by rw [wrap64] <;> omega
theorem d76:qP L (fun _=>True) 51 [] zC (oQ L):=by
 intro A B a d ha hd hB
 refine lA (aAT _ _ _) ?_
 simp -implicitDefEqProofs [m51,ha,hB,oQ,zC]
theorem d178 (w:List UInt8):qP L (fun _=>True) 150 [.str w] IV (GV L w):=by
 intro A B a d ha hd hB
 refine lA (aqU _ _ _ _) ?_
 have h76:=d76 (L:=L)
 unfold qP at h76
 simp -implicitDefEqProofs [aFe,ha,hB,h76,oQ,GV,IV,zC]
 generalize tk L a=t
 obtain⟨k,p,q,x⟩:=t
 by_cases h1:k=3
 ·subst h1
  by_cases h3:x=w <;> simp -implicitDefEqProofs [Token.cells,ha,hB,isS,h3]
 ·have h1':¬(k:Int)=3:=by omega
  by_cases h2:k=4
  ·subst h2
   by_cases h3:x=w <;> simp -implicitDefEqProofs [Token.cells,ha,hB,isS,h3]
  ·have h2':¬(k:Int)=4:=by omega
   simp -implicitDefEqProofs [Token.cells,ha,hB,isS,h1,h1',h2,h2']
include hL
theorem d143 (w:List UInt8):qP L (fun _=>True) 107 [.str w] IV (pM L w):=by
 intro A B a d ha hd hB
 refine lA (apZ _ _ _ _) ?_
 have h178:=d178 (L:=L)
 unfold qP at h178
 have w1:=rR (a:=a) (by omega)
 cases hs:isS (tk L a) w <;> simp -implicitDefEqProofs [aE3,ha,hB,h178,pM,GV,IV,hs,w1]
omit hL in
theorem d179 (e:Nat) {α:Type}{enc:α→kM}:qP L (fun _=>True) 151 [.int .i64 (e:Int)] enc (w8 L e):=by
 intro A B a d ha hd hB
 refine lA (aqV _ _ _ _) ?_
 have h76:=d76 (L:=L)
 unfold qP at h76
 simp -implicitDefEqProofs [aFf,ha,hB,h76,oQ,w8,zC,Token.cells,EI,p9,uW]
theorem d138 (w:List UInt8):qP L (fun _=>True) 102 [.str w] tP (oR L w):=by
 intro A B a d ha hd hB
 refine lA (apU _ _ _ _) ?_
 have h178:=d178 (L:=L)
 have h179:=d179 (L:=L) 10 (enc:=tP)
 unfold qP at h178 h179
 have w1:=rR (a:=a) (by omega)
 simp only [ab9] at h179
 cases hs:isS (tk L a) w <;> simp -implicitDefEqProofs [aEZ,ha,hB,h178,h179,oR,GV,w8,tP,IV,hs,w1,p9,uW]
theorem d139 (k:Nat):qP L (fun _=>True) 103 [.int .i64 (k:Int)] zC (qM L k):=by
 intro A B a d ha hd hB
 refine lA (apV _ _ _ _) ?_
 have h76:=d76 (L:=L)
 have h179:=d179 (L:=L) 10 (enc:=tP)
 unfold qP at h76 h179
 simp only [ab9] at h179
 have w1:=rR (a:=a) (by omega)
 simp -implicitDefEqProofs [aE0,ha,hB,h76,oQ,qM,zC]
 by_cases hk:(tk L a).kind=k
 ·simp -implicitDefEqProofs [Token.cells,ha,hB,h76,hk,zC,w1]
 ·have hk':¬((tk L a).kind:Int)=k:=by omega
  simp -implicitDefEqProofs [Token.cells,ha,hB,h76,h179,hk,hk',zC,w1,w8,p9,uW]
theorem d181 (w:List UInt8):qP L (fun d=>d≤64) 153 [.str w] tP (uI L w):=by
 intro A B a d ha hd hB
 refine lA (aqX _ _ _ _) ?_
 have h178:=d178 (L:=L)
 have h138:=d138 hL w
 have h179:=d179 (L:=L) 11 (enc:=tP)
 unfold qP at h178 h179 h138
 simp only [ab9] at h179
 have w1:=rR (a:=d) (by omega)
 by_cases hd64:d=64
 ·subst hd64
  cases hs:isS (tk L a) w <;> simp -implicitDefEqProofs [aAk,ha,hB,h178,h138,h179,oR,GV,uI,w8,tP,IV,hs,w1,p9,uW]
 ·have hd64':¬(d:Int)=64:=by omega
  cases hs:isS (tk L a) w <;> simp -implicitDefEqProofs [aAk,ha,hB,h178,h138,h179,oR,GV,uI,w8,tP,IV,hs,w1,p9,uW,hd64,hd64']
theorem d183 (w:List UInt8):qP L (fun d=>1≤d∧d≤65) 155 [.str w] tP (uJ L w):=by
 intro A B a d ha hd hB
 obtain⟨d,rfl⟩:∃e,d=e+1:=⟨d - 1,by omega⟩
 refine lA (aqZ _ _ _ _) ?_
 have h138:=d138 hL w
 unfold qP at h138
 have w1:=wrapN (a:=d) (by omega)
 cases hs:isS (tk L a) w <;> simp -implicitDefEqProofs [aFh,ha,hB,h138,oR,uJ,tP,hs,w1,p9,uW]
theorem d145:qP L (fun _=>True) 109 [] Pn (sP L):=by
 intro A B a d ha hd hB
 refine lA (ap1 _ _ _) ?_
 have h143:=d143 hL
 have h138:=d138 hL
 unfold qP at h143 h138
 cases hs:isS (tk L a) Jw
 ·cases hq:isS (tk L a) Po <;> simp only [Jw,Po] at hs hq <;> simp -implicitDefEqProofs [az7,ha,hB,h143,h138,oR,pM,sP,Pn,tP,IV,hs,hq,Jw,Po,p9,uW]
 ·simp only [Jw] at hs
  simp -implicitDefEqProofs [az7,ha,hB,h143,h138,oR,pM,sP,Pn,tP,IV,hs,Jw,p9,uW]
def Ty.cells (t:Ty):List kM:=[.int .i64 (t.elem:Int),.int .i64 (t.len:Int),.int .i64 (t.label:Int)]
def Bl (t:Ty):kM:=.agg t.cells
theorem d144 (l:Nat):qP L (fun _=>True) 108 [.int .i64 (l:Int)] Bl (qO L l):=by
 intro A B a d ha hd hB
 refine lA (ap0 _ _ _ _) ?_
 have h143:=d143 hL
 have h138:=d138 hL
 unfold qP at h143 h138
 cases hs:isS (tk L a) zP
 ·cases hq:isS (tk L a) J0 <;> simp only [zP,J0] at hs hq <;> simp -implicitDefEqProofs [az6,ha,hB,h143,h138,oR,pM,qO,Bl,Ty.cells,tP,IV,hs,hq,zP,J0,p9,uW,P7]
 ·simp only [zP] at hs
  simp -implicitDefEqProofs [az6,ha,hB,h143,h138,oR,pM,qO,Bl,Ty.cells,tP,IV,hs,zP,p9,uW,P7]
end
end
section
open Go Hk
attribute [simp] mL PM.bind y6 GV oQ pM oR qM w8 uI uJ xS pUp zC tP Pn IV Bl Ty.cells Token.cells p9 uW
section
variable {L:List Token}(hL:L.length≤131072) (hK:rF L)
include hL hK
theorem d228:qP L (fun _=>True) 180 [] Pn (yK L):=by
 intro A B a d ha hd hB
 refine lA (arG _ _ _) ?_
 have h138:=d138 hL
 have h139:=d139 hL 2
 have h76:=d76 (L:=L)
 have h179:=d179 (L:=L) 10 (enc:=tP)
 unfold qP at h138 h139 h76 h179
 simp only [ab9] at h179 h139
 cases hs:isS (tk L a) [91]
 ·simp -implicitDefEqProofs [ahX,ha,hB,h138,yK,hs]
 ·have ha1:=mS hK ha hs
  by_cases h2:(tk L (a+1)).kind=2
  ·have ha2:=p8 (k:=2) hK ha1 (by decide) h2
   by_cases h3:(tk L (a+1)).num=0
   ·simp -implicitDefEqProofs [ahX,ha,ha1,hB,h138,h76,h179,h139,yK,hs,h2,h3]
   ·have h3':¬((tk L (a+1)).num:Int)=0:=by omega
    cases hs2:isS (tk L (a+1+1)) [93] <;>
     simp -implicitDefEqProofs [ahX,ha,ha1,ha2,hB,h138,h76,h179,h139,yK,hs,hs2,h2,h3,h3']
  ·have h2':¬((tk L (a+1)).kind:Int)=2:=by omega
   simp -implicitDefEqProofs [ahX,ha,ha1,hB,h138,h76,h179,h139,yK,hs,h2,h2']
theorem d180 (l:Nat):qP L (fun _=>True) 152 [.int .i64 (l:Int)] Bl (vI L l):=by
 intro A B a d ha hd hB
 refine lA (aqW _ _ _ _) ?_
 have h143:=d143 hL
 have h144:=d144 hL l
 have h228:=d228 hL hK
 have h178:=d178 (L:=L)
 unfold qP at h143 h144 h228 h178
 cases hs:isS (tk L a) [117,56]
 ·simp -implicitDefEqProofs [aAj,ha,hB,h143,h144,vI,hs]
  cases h1:qO L l a d with
  | bad e p a1 d1=>simp -implicitDefEqProofs [hB]
  | ok t a1 d1 =>
   obtain⟨g1,g2,g3⟩:=ES hK a d _ _ _ h1 ha
   by_cases h2:t.elem=0
   ·simp -implicitDefEqProofs [ha,hB,g2,h178,h228,h2]
    cases h3:isS (tk L a1) [91]
    ·simp -implicitDefEqProofs [hB,h2]
    ·simp -implicitDefEqProofs [hB,g2,h228]
     cases h4:yK L a1 d1 with
     | bad e p a2 d2=>simp -implicitDefEqProofs [hB]
     | ok n a2 d2=>simp -implicitDefEqProofs [hB,h2]
   ·have h2':¬(t.elem:Int)=0:=by omega
    simp -implicitDefEqProofs [ha,hB,g2,h178,h228,h2,h2']
 ·have ha1:=mS hK ha hs
  simp -implicitDefEqProofs [aAj,ha,ha1,hB,h143,h228,vI,hs]
  cases h4:yK L (a+1) d with
  | bad e p a2 d2=>simp -implicitDefEqProofs [hB]
  | ok n a2 d2=>simp -implicitDefEqProofs [hB]
theorem d142:qP L (fun _=>True) 106 [] (fun x:XP=>.agg ([.int .i64 (x.pos:Int),.str x.name]++x.ty.cells++[.bool x.out])) (uZ L):=by
 intro A B a d ha hd hB
 refine lA (apY _ _ _) ?_
 have h143:=d143 hL
 have h145:=d145 hL
 have h139:=d139 hL 1
 have h138:=d138 hL
 have h180:=d180 hL hK
 unfold qP at h143 h145 h139 h138 h180
 simp only [ab9] at h139
 simp -implicitDefEqProofs [aE2,ha,hB,h143,uZ]
 obtain⟨a1,d1,e1⟩:∃a1 d1,a1=(if isS (tk L a) [111,117,116]=true then a+1 else a)∧d1=d:=⟨_,_,rfl,rfl⟩
 obtain⟨e1,rfl⟩:=e1
 have ha1:a1 < L.length:=by
  subst e1; split
  ·rename_i h; exact mS hK ha h
  ·exact ha
 rw [←e1]
 simp -implicitDefEqProofs [ha1,hB,h145]
 cases h1:sP L a1 d1 with
 | bad e p a2 d2=>simp -implicitDefEqProofs [hB]
 | ok l a2 d2 =>
  obtain⟨g1,ha2,rfl⟩:=BN hK a1 d1 _ _ _ h1 ha1
  simp -implicitDefEqProofs [ha2,hB,h139]
  by_cases h2:(tk L a2).kind=1
  ·have ha3:=p8 (k:=1) hK ha2 (by decide) h2
   simp -implicitDefEqProofs [ha3,hB,h2,h138]
   cases h3:isS (tk L (a2+1)) [58]
   ·simp -implicitDefEqProofs [hB]
   ·have ha4:=mS hK ha3 h3
    simp -implicitDefEqProofs [ha4,hB,h180]
    cases h4:vI L l (a2+1+1) d2 with
    | bad e p a5 d5=>simp -implicitDefEqProofs [hB]
    | ok ty a5 d5=>simp -implicitDefEqProofs [hB]
  ·simp -implicitDefEqProofs [hB,h2]
end
end
section
open Go Hk
theorem DD {F:List kM×kP→Option R}{σ:Type}(enc:σ→List kM×kP) (inv:σ→Prop) (μ:σ→Nat) (Post:σ→R→Prop)
  (h:∀s,inv s→(∃s',F (enc s)=some (.normal,enc s')∧inv s'∧μ s' < μ s∧∀r,Post s' r→Post s r)∨(∃r,F (enc s)=some r∧r.1≠.normal∧Post s r)) :
  ∀s,inv s→∃r,mJ F (enc s)=some r∧Post s r:=by
 have key:∀n s,μ s=n→inv s→∃r,mJ F (enc s)=some r∧Post s r:=by
  intro n
  induction n using Nat.strongRecOn with
  | _ n ih =>
   intro s hn hi
   rw [l9]
   rcases h s hi with ⟨s',e1,e2,e3,e4⟩ | ⟨r,e1,e2,e3⟩
   ·obtain⟨r,h1,h2⟩:=ih (μ s') (by omega) s' rfl e2
    refine⟨r,?_,e4 r h2⟩
    rw [e1]
    simp only [ad9,oA]
    exact h1
   ·refine⟨r,?_,e3⟩
    rw [e1]
    obtain⟨e,l⟩:=r
    cases e <;> first | exact absurd rfl e2 | rfl
 exact fun s hi=>key (μ s) s rfl hi
@[simp] theorem aDP {m:Nat}{h:kP}{e p:Int}:kM.vK m h (.iface 102 (.agg [.int .i64 e,.int .i64 p]))=.iface 102 (.agg [.int .i64 e,.int .i64 p]):=(rfl)
@[simp] theorem aw3 {e p:Int}:kM.kQ (.iface 102 (.agg [.int .i64 e,.int .i64 p]))=.iface 102 (.agg [.int .i64 e,.int .i64 p]):=(rfl)
@[simp] theorem aC4 {i o:Nat}:kM.cells (.ptr i o)=[.ptr i o]:=(rfl)
@[simp] theorem ayU {i o:Nat}:kM.mE (.ptr i o)=true:=(rfl)
@[simp] theorem aCy {f:Nat}{x y:List kM}:kM.kQ (.func f x y)=.func f x y:=(rfl)
@[simp] theorem amK {A B:List lG}{j k:Nat}:HN A B+j+k=HN A B+(j+k):=Nat.add_assoc _ _ _
@[simp] theorem dec_lt {n k:Nat}:decide (n+k < n)=false:=by simp
theorem US {L:List Token}{α:Type}{one:PM α}{n:Nat}{l:List α}{a d:Nat}:xR L one (n+1) l a d=match one a d with
  | .bad e p a1 d1=>.bad e p a1 d1
  | .ok x a1 d1=>if isS (tk L a1) [44]=true then xR L one n (l++[x]) (a1+1) d1 else .ok (l++[x]) a1 d1:=by
 rw [xR]
 simp only [mL,PM.bind,pM]
 cases one a d with
 | bad=>rfl
 | ok x a1 d1=>cases h:isS (tk L a1) [44] <;> simp [h,y6]
structure XY {α:Type}(enc:α→List kM) (sz:Nat):Prop where
 len:∀x,(enc x).length=sz
 pure:∀x,n_ (enc x)=some (enc x)
 ok:∀x,(enc x).all kM.mE=true
theorem wO {cs zero:List kM}{sz:Nat}{h:kP}(hl:cs.length=sz) (hz:zero.length=sz) (hp:n_ cs=some cs) (ho:cs.all kM.mE=true) :
  kY 1 sz zero [(0,.agg cs)] h=some (.slice [cs] (.own h.length),h++[.front 1 sz]):=by
 have e1:lT (List.replicate 1 zero).flatten ((List.range 1).map fun i=>(i * sz,sz)) [(0,.agg cs)]=some (.agg cs):=by
  simp [lT,hl,hz,putCells,kM.pL,List.range_succ]
 simp only [kY,tR,e1,hp,hz,ho,and_self,if_true,rowsOf]
 rw [←hl,List.take_length]
section
variable {A B C:List lG}{L:List Token}{a d k:Nat}
theorem DQ {rows new:List (List kM)}{sz by_ sz':Nat}{t:Tok}(hc:C[k]?=some (.front rows.length sz')) (hs:sz'=sz∨rows.length=0∧sz'=0) (hr:∀r∈new,r.length=sz) (hn:new≠[])
  (hb:(rows.length+new.length) * by_≤140737488355328) (hb2:rows.length+new.length≤140737488355328) :
  mH sz by_ (HQ A L a d (B++C)) (.slice rows (.own (HN A B+k))) (.slice new t) =
   some (.slice (rows++new) (.own (HN A B+k)),HQ A L a d (B++C.set k (.front (rows.length+new.length) sz))):=by
 have h1:(new.all fun r=>r.length == sz)=true:=by simpa using hr
 have h2:¬new.length=0:=by simpa using hn
 simp only [mH,pY,h1,if_true,L2,hc]
 rw [if_pos ⟨trivial,hs,hb,hb2⟩,if_neg h2,L3]
theorem zG (h:KB A (B++C.take k)) (hk:k≤C.length):l_ (HN A B+k) (HQ A L a d (B++C))=some (HQ A L a d (B++C.take k)):=by
 have:=Ha (L:=L) (a:=a) (d:=d) (C:=C.drop k) h
 rw [C_,ag1,List.take_append_drop,aj4,Nat.min_eq_left hk] at this
 exact this
theorem C9:A.length < HN A B+k:=by simp [HN]; omega
theorem F7:A.length < HN A B:=C9 (k:=0)
def Has (A B:List lG) (i:Nat):Prop:=∃j,i=A.length+1+j∧B[j]?=some (.cells [.ptr A.length 0])
theorem Has.app {i:Nat}(h:Has A B i):Has A (B++C) i:=by
 obtain⟨j,h1,h2⟩:=h
 have:=(ab0.1 h2).1
 exact⟨j,h1,by rw [List.getElem?_append_left this]; exact h2⟩
theorem Has.new:Has A (B++.cells [.ptr A.length 0]::C) (HN A B):=⟨B.length,rfl,by simp⟩
theorem Has.get {i:Nat}(h:Has A B i):mY (HQ A L a d B) i=some [.ptr A.length 0]:=by
 obtain⟨j,rfl,h2⟩:=h
 unfold mY HQ
 rw [ac3 (by omega),show A.length+1+j - A.length=j+1 by omega,List.getElem?_cons_succ,h2]
theorem Has.lt {i:Nat}(h:Has A B i):i < HN A B+k:=by
 obtain⟨j,rfl,h2⟩:=h
 have:=(ab0.1 h2).1
 simp [HN]; omega
theorem QE {m f i:Nat}{h:kP}(hi:i < m):kM.vK m h (.func f [] [.ptr i 0])=.func f [] [.ptr i 0]:=by
 have:kM.vK m h (.func f [] [.ptr i 0])=bif (kM.func f [] [.ptr i 0]).nP m then .func f [] [.ptr i 0] else .junk:=rfl
 rw [this]
 simp [kM.nP,kM.pE,qA,hi]
end
end
section
open Go Hk
def XP.cells (x:XP):List kM:=[.int .i64 (x.pos:Int),.str x.name,.int .i64 (x.ty.elem:Int),.int .i64 (x.ty.len:Int),.int .i64 (x.ty.label:Int),.bool x.out]
def rY (n sz:Nat):Nat:=if n=0 then 0 else sz
theorem rB {sz:Nat}:rY 0 sz=0:=(rfl)
theorem rH {n sz:Nat}:rY (n+1) sz=sz:=by simp [rY]
theorem AN (n sz:Nat):rY n sz=sz∨n=0∧rY n sz=0:=by by_cases h:n=0 <;> simp [rY,h]
theorem XP.row:XY XP.cells 6:=⟨fun _=>rfl,fun _=>rfl,fun _=>rfl⟩
mutual
def XE.cells:XE→List kM
 | .mk k p n name args=>[.int .i64 (k:Int),.int .i64 (p:Int),.int .i64 (n:Int),.str name,.slice (XE.rows args) .no]
def XE.rows:List XE→List (List kM)
 | []=>[]
 | x::r=>x.cells::XE.rows r
end
theorem XE.nN:∀l:List XE,XE.rows l=l.map XE.cells
 | []=>rfl
 | x::r=>by simp [XE.rows,XE.nN r]
theorem XE.row:XY XE.cells 5:=⟨fun x=>by cases x; simp [XE.cells],fun x=>by cases x; simp [XE.cells,n_,kM.C4],fun x=>by cases x; simp [XE.cells]⟩
section
variable {L:List Token}(hL:L.length≤131072) (hK:rF L)
include hL hK
theorem aaV {one:PM XP}(hg:mD L 1 (fun d=>d) one) {A B:List lG}{i d:Nat}(hB:KB A B) (hi:Has A B i)
  (hone:∀(C:List lG) (a:Nat),a < L.length→KB A (B++C)→KK 105 [.ptr i 0] (HQ A L a d (B++C))=some ((one a d).res (fun x=>.agg (XP.cells x)) A L (B++C))) (n:Nat) (l:List XP) (a:Nat) (ha:a < L.length) (hn:L.length < a+n) (hl:l.length≤a) :
  ∃r,mJ (Ln KK (HN A B+2)) ([.ptr A.length 0,.func 105 [] [.ptr i 0],.slice [] (.own (HN A B)),.slice (l.map XP.cells) (.own (HN A B+1))],HQ A L a d (B++[.front 0 0,.front l.length (rY l.length 6)]))=some r ∧
   match xR L one n l a d with
   | .ok l' a' d'=>r=(.ret,[.ptr A.length 0,.func 105 [] [.ptr i 0],.slice (l'.map XP.cells) (.own (HN A B+1)),.slice (l'.map XP.cells) (.own (HN A B+1))],HQ A L a' d' (B++[.front 0 0,.front l'.length 6]))
   | .bad e p a' d'=>∃vs C,r=(.pan (p9 e p),vs,HQ A L a' d' (B++C)):=by
 have h143:=d143 hL
 unfold qP at h143
 refine DD (σ:=List XP×Nat×Nat) (fun s=>([.ptr A.length 0,.func 105 [] [.ptr i 0],.slice [] (.own (HN A B)),.slice (s.1.map XP.cells) (.own (HN A B+1))],HQ A L s.2.1 d (B++[.front 0 0,.front s.1.length (rY s.1.length 6)])))
  (fun s=>s.2.1 < L.length∧L.length < s.2.1+s.2.2∧s.1.length≤s.2.1) (fun s=>s.2.2)
  (fun s r=>match xR L one s.2.2 s.1 s.2.1 d with
   | .ok l' a' d'=>r=(.ret,[.ptr A.length 0,.func 105 [] [.ptr i 0],.slice (l'.map XP.cells) (.own (HN A B+1)),.slice (l'.map XP.cells) (.own (HN A B+1))],HQ A L a' d' (B++[.front 0 0,.front l'.length 6]))
   | .bad e p a' d'=>∃vs C,r=(.pan (p9 e p),vs,HQ A L a' d' (B++C))) ?_ (l,a,n) ⟨ha,hn,hl⟩
 rintro⟨l,a,n⟩ ⟨ha,hn,hl⟩
 simp only at ha hn hl
 have hi':i < HN A B+2:=hi.lt
 have hsf:∀h,kM.vK (HN A B+2) h (.func 105 [] [.ptr i 0])=.func 105 [] [.ptr i 0]:=fun h=>QE hi'
 have hsp:∀h,kM.vK (HN A B+2) h (.ptr A.length 0)=.ptr A.length 0:=fun h=>uA C9
 have hKB:∀x y,KB A (B++[.front 0 0,.front x y]):=fun x y=>hB.app (by simp)
 have htr:∀a x y C,l_ (HN A B+2) (HQ A L a d (B++(.front 0 0::.front x y::C)))=some (HQ A L a d (B++[.front 0 0,.front x y])):=fun a x y C=>by
  have:=zG (L:=L) (a:=a) (d:=d) (A:=A) (B:=B) (C:=.front 0 0::.front x y::C) (k:=2) (by simpa using hKB x y) (by simp)
  simpa using this
 have htr0:∀a d x y,l_ (HN A B+2) (HQ A L a d (B++[.front 0 0,.front x y]))=some (HQ A L a d (B++[.front 0 0,.front x y])):=fun a d x y=>by
  have:=zG (L:=L) (a:=a) (d:=d) (A:=A) (B:=B) (C:=[.front 0 0,.front x y]) (k:=2) (by simpa using hKB x y) (by simp)
  simpa using this
 obtain⟨n,rfl⟩:∃k,n=k+1:=⟨n - 1,by omega⟩
 have hfst:Ln KK (HN A B+2) ([.ptr A.length 0,.func 105 [] [.ptr i 0],.slice [] (.own (HN A B)),.slice (l.map XP.cells) (.own (HN A B+1))],HQ A L a d (B++[.front 0 0,.front l.length (rY l.length 6)])) =
   match one a d with
   | .bad e p a1 d1=>(l_ (HN A B+2) (HQ A L a1 d1 (B++[.front 0 0,.front l.length (rY l.length 6)]))).map fun h=>(.pan (p9 e p),[.ptr A.length 0,.func 105 [] [.ptr i 0],.slice [] (.own (HN A B)),.slice (l.map XP.cells) (.own (HN A B+1))],h)
   | .ok x a1 d1=>if isS (tk L a1) [44]=true then some (.normal,[.ptr A.length 0,.func 105 [] [.ptr i 0],.slice [] (.own (HN A B)),.slice ((l++[x]).map XP.cells) (.own (HN A B+1))],HQ A L (a1+1) d (B++[.front 0 0,.front (l++[x]).length 6]))
    else some (.ret,[.ptr A.length 0,.func 105 [] [.ptr i 0],.slice ((l++[x]).map XP.cells) (.own (HN A B+1)),.slice ((l++[x]).map XP.cells) (.own (HN A B+1))],HQ A L a1 d (B++[.front 0 0,.front (l++[x]).length 6])):=by
  have e1:=hone [.front 0 0,.front l.length (rY l.length 6)] a ha (hKB _ _)
  have ce:CR mK KK 105 (A1 mK 105 [.ptr i 0]) (HQ A L a d (B++[.front 0 0,.front l.length (rY l.length 6)]))=some ((one a d).res (fun x=>.agg (XP.cells x)) A L (B++[.front 0 0,.front l.length (rY l.length 6)])):=e1
  simp -implicitDefEqProofs only [Ln,OD,OE,OF,OG,OH,OI,Ue,M_,Na,T_,TP,List.getD_cons_zero,List.getD_cons_succ,Bz,ad9,ah4,List.append_nil,ce]
  cases h1:one a d with
  | bad e p a1 d1 =>
   simp -implicitDefEqProofs [htr0,kT,hsf,hsp]
  | ok x a1 d1 =>
   obtain⟨g1,g2,g3⟩:=hg a d _ _ _ h1 ha
   have g3:d=d1:=g3.symm
   subst g3
   have b1:=wO (zero:=[.int .i64 0,.str [],.int .i64 0,.int .i64 0,.int .i64 0,.bool false]) (h:=HQ A L a1 d (B++[.front 0 0,.front l.length (rY l.length 6)])) (XP.row.len x) rfl (XP.row.pure x) (XP.row.ok x)
   have b2:=DQ (A:=A) (B:=B) (L:=L) (a:=a1) (d:=d) (C:=[.front 0 0,.front l.length (rY l.length 6),.front 1 6]) (k:=1) (rows:=l.map XP.cells) (new:=[XP.cells x]) (sz:=6) (by_:=56) (sz':=rY l.length 6) (t:=.own (HN A B+2)) (by simp) (by rw [aj1]; exact AN _ _) (by simpa using XP.row.len x) (by simp) (by simp; omega) (by simp; omega)
   simp only [aj1,List.length_singleton,List.set_cons_succ,List.set_cons_zero] at b2
   simp -implicitDefEqProofs [b1,b2]
   rw [h143 [44] _ _ _ _ g2 trivial (hB.app (by simp))]
   simp -implicitDefEqProofs only [pM]
   cases h2:isS (tk L a1) [44] <;> simp -implicitDefEqProofs [htr,kT,hsf,hsp]
 rw [hfst]
 simp only [US]
 cases h1:one a d with
 | bad e p a1 d1 =>
  right
  exact⟨_,(by simp only [htr0,Option.map_some]; rfl),by simp,_,_,rfl⟩
 | ok x a1 d1 =>
  obtain⟨g1,g2,g3⟩:=hg a d _ _ _ h1 ha
  have g3:d=d1:=g3.symm
  subst g3
  cases h2:isS (tk L a1) [44] with
  | true =>
   left
   refine⟨(l++[x],a1+1,n),?_,⟨mS hK g2 h2,by simp; omega,by simp; omega⟩,by simp,?_⟩
   ·simp [h2,rH]
   ·intro r hr
    simpa [h2] using hr
  | false =>
   right
   exact⟨_,by simp only [h2]; rfl,by simp,by simp [h2]⟩
theorem d140 {one:PM XP}(w:List UInt8) (hg:mD L 1 (fun d=>d) one) {A B:List lG}{i a d:Nat}(ha:a < L.length) (hB:KB A B) (hi:Has A B i)
  (hone:∀(C:List lG) (a:Nat),a < L.length→KB A (B++C)→KK 105 [.ptr i 0] (HQ A L a d (B++C))=some ((one a d).res (fun x=>.agg (XP.cells x)) A L (B++C))) :
  KK 104 [.ptr A.length 0,.str w,.func 105 [] [.ptr i 0]] (HQ A L a d B)=some ((yW L w one a d).res (fun l=>.slice (l.map XP.cells) .no) A L B):=by
 refine lA (apW _ _ _ _ _) ?_
 have h178:=d178 (L:=L)
 unfold qP at h178
 unfold yW
 cases hs:isS (tk L a) w
 ·obtain⟨r,h1,h2⟩:=aaV hL hK hg hB hi hone 131073 [] a ha (by omega) (ah8 _)
  simp only [al1,ac6,rB] at h1
  simp -implicitDefEqProofs [az5,ha,hB,h178,hs,h1]
  cases h3:xR L one 131073 [] a d with
  | bad e p a' d' =>
   rw [h3] at h2
   obtain⟨vs,C,rfl⟩:=h2
   simp -implicitDefEqProofs [hB]
  | ok l' a' d' =>
   rw [h3] at h2
   subst h2
   simp -implicitDefEqProofs [hB]
 ·simp -implicitDefEqProofs [az5,ha,hB,h178,hs]
theorem aaY {one:PM XE}(hg:mD L 1 (fun d=>d) one) {A B:List lG}{i d:Nat}(hB:KB A B) (hi:Has A B i)
  (hone:∀(C:List lG) (a:Nat),a < L.length→KB A (B++C)→KK 223 [.ptr i 0] (HQ A L a d (B++C))=some ((one a d).res (fun x=>.agg (XE.cells x)) A L (B++C))) (n:Nat) (l:List XE) (a:Nat) (ha:a < L.length) (hn:L.length < a+n) (hl:l.length≤a) :
  ∃r,mJ (Ls KK (HN A B+2)) ([.ptr A.length 0,.func 223 [] [.ptr i 0],.slice [] (.own (HN A B)),.slice (l.map XE.cells) (.own (HN A B+1))],HQ A L a d (B++[.front 0 0,.front l.length (rY l.length 5)]))=some r ∧
   match xR L one n l a d with
   | .ok l' a' d'=>r=(.ret,[.ptr A.length 0,.func 223 [] [.ptr i 0],.slice (l'.map XE.cells) (.own (HN A B+1)),.slice (l'.map XE.cells) (.own (HN A B+1))],HQ A L a' d' (B++[.front 0 0,.front l'.length 5]))
   | .bad e p a' d'=>∃vs C,r=(.pan (p9 e p),vs,HQ A L a' d' (B++C)):=by
 have h143:=d143 hL
 unfold qP at h143
 refine DD (σ:=List XE×Nat×Nat) (fun s=>([.ptr A.length 0,.func 223 [] [.ptr i 0],.slice [] (.own (HN A B)),.slice (s.1.map XE.cells) (.own (HN A B+1))],HQ A L s.2.1 d (B++[.front 0 0,.front s.1.length (rY s.1.length 5)])))
  (fun s=>s.2.1 < L.length∧L.length < s.2.1+s.2.2∧s.1.length≤s.2.1) (fun s=>s.2.2)
  (fun s r=>match xR L one s.2.2 s.1 s.2.1 d with
   | .ok l' a' d'=>r=(.ret,[.ptr A.length 0,.func 223 [] [.ptr i 0],.slice (l'.map XE.cells) (.own (HN A B+1)),.slice (l'.map XE.cells) (.own (HN A B+1))],HQ A L a' d' (B++[.front 0 0,.front l'.length 5]))
   | .bad e p a' d'=>∃vs C,r=(.pan (p9 e p),vs,HQ A L a' d' (B++C))) ?_ (l,a,n) ⟨ha,hn,hl⟩
 rintro⟨l,a,n⟩ ⟨ha,hn,hl⟩
 simp only at ha hn hl
 have hi':i < HN A B+2:=hi.lt
 have hsf:∀h,kM.vK (HN A B+2) h (.func 223 [] [.ptr i 0])=.func 223 [] [.ptr i 0]:=fun h=>QE hi'
 have hsp:∀h,kM.vK (HN A B+2) h (.ptr A.length 0)=.ptr A.length 0:=fun h=>uA C9
 have hKB:∀x y,KB A (B++[.front 0 0,.front x y]):=fun x y=>hB.app (by simp)
 have htr:∀a x y C,l_ (HN A B+2) (HQ A L a d (B++(.front 0 0::.front x y::C)))=some (HQ A L a d (B++[.front 0 0,.front x y])):=fun a x y C=>by
  have:=zG (L:=L) (a:=a) (d:=d) (A:=A) (B:=B) (C:=.front 0 0::.front x y::C) (k:=2) (by simpa using hKB x y) (by simp)
  simpa using this
 have htr0:∀a d x y,l_ (HN A B+2) (HQ A L a d (B++[.front 0 0,.front x y]))=some (HQ A L a d (B++[.front 0 0,.front x y])):=fun a d x y=>by
  have:=zG (L:=L) (a:=a) (d:=d) (A:=A) (B:=B) (C:=[.front 0 0,.front x y]) (k:=2) (by simpa using hKB x y) (by simp)
  simpa using this
 obtain⟨n,rfl⟩:∃k,n=k+1:=⟨n - 1,by omega⟩
 have hfst:Ls KK (HN A B+2) ([.ptr A.length 0,.func 223 [] [.ptr i 0],.slice [] (.own (HN A B)),.slice (l.map XE.cells) (.own (HN A B+1))],HQ A L a d (B++[.front 0 0,.front l.length (rY l.length 5)])) =
   match one a d with
   | .bad e p a1 d1=>(l_ (HN A B+2) (HQ A L a1 d1 (B++[.front 0 0,.front l.length (rY l.length 5)]))).map fun h=>(.pan (p9 e p),[.ptr A.length 0,.func 223 [] [.ptr i 0],.slice [] (.own (HN A B)),.slice (l.map XE.cells) (.own (HN A B+1))],h)
   | .ok x a1 d1=>if isS (tk L a1) [44]=true then some (.normal,[.ptr A.length 0,.func 223 [] [.ptr i 0],.slice [] (.own (HN A B)),.slice ((l++[x]).map XE.cells) (.own (HN A B+1))],HQ A L (a1+1) d (B++[.front 0 0,.front (l++[x]).length 5]))
    else some (.ret,[.ptr A.length 0,.func 223 [] [.ptr i 0],.slice ((l++[x]).map XE.cells) (.own (HN A B+1)),.slice ((l++[x]).map XE.cells) (.own (HN A B+1))],HQ A L a1 d (B++[.front 0 0,.front (l++[x]).length 5])):=by
  have e1:=hone [.front 0 0,.front l.length (rY l.length 5)] a ha (hKB _ _)
  have ce:CR mK KK 223 (A1 mK 223 [.ptr i 0]) (HQ A L a d (B++[.front 0 0,.front l.length (rY l.length 5)]))=some ((one a d).res (fun x=>.agg (XE.cells x)) A L (B++[.front 0 0,.front l.length (rY l.length 5)])):=e1
  simp -implicitDefEqProofs only [Ls,OD,OE,OF,OG,OH,OI,Ue,M_,Na,T_,TP,List.getD_cons_zero,List.getD_cons_succ,Bz,ad9,ah4,List.append_nil,ce]
  cases h1:one a d with
  | bad e p a1 d1 =>
   simp -implicitDefEqProofs [htr0,kT,hsf,hsp]
  | ok x a1 d1 =>
   obtain⟨g1,g2,g3⟩:=hg a d _ _ _ h1 ha
   have g3:d=d1:=g3.symm
   subst g3
   have b1:=wO (zero:=[.int .i64 0,.int .i64 0,.int .i64 0,.str [],.slice [] .nil]) (h:=HQ A L a1 d (B++[.front 0 0,.front l.length (rY l.length 5)])) (XE.row.len x) rfl (XE.row.pure x) (XE.row.ok x)
   have b2:=DQ (A:=A) (B:=B) (L:=L) (a:=a1) (d:=d) (C:=[.front 0 0,.front l.length (rY l.length 5),.front 1 5]) (k:=1) (rows:=l.map XE.cells) (new:=[XE.cells x]) (sz:=5) (by_:=64) (sz':=rY l.length 5) (t:=.own (HN A B+2)) (by simp) (by rw [aj1]; exact AN _ _) (by simpa using XE.row.len x) (by simp) (by simp; omega) (by simp; omega)
   simp only [aj1,List.length_singleton,List.set_cons_succ,List.set_cons_zero] at b2
   simp -implicitDefEqProofs [b1,b2]
   rw [h143 [44] _ _ _ _ g2 trivial (hB.app (by simp))]
   simp -implicitDefEqProofs only [pM]
   cases h2:isS (tk L a1) [44] <;> simp -implicitDefEqProofs [htr,kT,hsf,hsp]
 rw [hfst]
 simp only [US]
 cases h1:one a d with
 | bad e p a1 d1 =>
  right
  exact⟨_,(by simp only [htr0,Option.map_some]; rfl),by simp,_,_,rfl⟩
 | ok x a1 d1 =>
  obtain⟨g1,g2,g3⟩:=hg a d _ _ _ h1 ha
  have g3:d=d1:=g3.symm
  subst g3
  cases h2:isS (tk L a1) [44] with
  | true =>
   left
   refine⟨(l++[x],a1+1,n),?_,⟨mS hK g2 h2,by simp; omega,by simp; omega⟩,by simp,?_⟩
   ·simp [h2,rH]
   ·intro r hr
    simpa [h2] using hr
  | false =>
   right
   exact⟨_,by simp only [h2]; rfl,by simp,by simp [h2]⟩
theorem d259 {one:PM XE}(w:List UInt8) (hg:mD L 1 (fun d=>d) one) {A B:List lG}{i a d:Nat}(ha:a < L.length) (hB:KB A B) (hi:Has A B i)
  (hone:∀(C:List lG) (a:Nat),a < L.length→KB A (B++C)→KK 223 [.ptr i 0] (HQ A L a d (B++C))=some ((one a d).res (fun x=>.agg (XE.cells x)) A L (B++C))) :
  KK 222 [.ptr A.length 0,.str w,.func 223 [] [.ptr i 0]] (HQ A L a d B)=some ((yW L w one a d).res (fun l=>.slice (l.map XE.cells) .no) A L B):=by
 refine lA (arX _ _ _ _ _) ?_
 have h178:=d178 (L:=L)
 unfold qP at h178
 unfold yW
 cases hs:isS (tk L a) w
 ·obtain⟨r,h1,h2⟩:=aaY hL hK hg hB hi hone 131073 [] a ha (by omega) (ah8 _)
  simp only [al1,ac6,rB] at h1
  simp -implicitDefEqProofs [aAx,ha,hB,h178,hs,h1]
  cases h3:xR L one 131073 [] a d with
  | bad e p a' d' =>
   rw [h3] at h2
   obtain⟨vs,C,rfl⟩:=h2
   simp -implicitDefEqProofs [hB]
  | ok l' a' d' =>
   rw [h3] at h2
   subst h2
   simp -implicitDefEqProofs [hB]
 ·simp -implicitDefEqProofs [aAx,ha,hB,h178,hs]
end
end
section
open Go Hk
section
variable {x:XE}{n m:Nat}{h:kP}
@[simp] theorem aLc:x.cells.length=5:=XE.row.len x
@[simp] theorem ZV:x.cells.take 5=x.cells:=List.take_of_length_le (by simp)
theorem aG8:∀c∈x.cells,c.mE=true:=by simpa using XE.row.ok x
@[simp] theorem aLd:(∀c,c∈x.cells→c.mE=true)=True:=eq_true aG8
@[simp] theorem aG7 {os:List kM}:pV h os x.cells=x.cells:=rA (by cases x; simp [XE.cells,kM.isNil])
@[simp] theorem aIn:x.cells.map (kM.uG∘fun c=>kM.mP m h c)=x.cells:=by cases x; simp [XE.cells]
@[simp] theorem aLb:B6 n x.cells:=by cases x; simp [XE.cells]
@[simp] theorem alH:kY 1 5 [.int .i64 0,.int .i64 0,.int .i64 0,.str [],.slice [] .nil] [(0,.agg x.cells)] h=some (.slice [x.cells] (.own h.length),h++[.front 1 5]) :=
 wO (XE.row.len x) rfl (XE.row.pure x) (XE.row.ok x)
end
def rV (x:XE):kM:=.agg x.cells
def Pj (l:List XE):kM:=.slice (l.map XE.cells) .no
attribute [simp] rV Pj
def AG:Option (Nat×Nat)→kM
 | some (n,k)=>.tuple [.int .i64 (n:Int),.int .i64 (k:Int)]
 | none=>.tuple [.int .i64 (-1),.int .i64 0]
set_option maxHeartbeats 1000000 in
theorem aJi (w:List UInt8) (h:kP):KK 221 [.str w] h=some (.ret (AG (nU w)),h):=by
 refine lD rfl rfl (lA (arW _ _ _) ?_)
 by_cases h0:w=[61,61]
 ·subst h0; simp -implicitDefEqProofs [F6,nU,AG,kN]
 by_cases h1:w=[33,61]
 ·subst h1; simp -implicitDefEqProofs [F6,nU,AG,kN]
 by_cases h2:w=[60]
 ·subst h2; simp -implicitDefEqProofs [F6,nU,AG,kN]
 by_cases h3:w=[60,61]
 ·subst h3; simp -implicitDefEqProofs [F6,nU,AG,kN]
 by_cases h4:w=[62]
 ·subst h4; simp -implicitDefEqProofs [F6,nU,AG,kN]
 by_cases h5:w=[62,61]
 ·subst h5; simp -implicitDefEqProofs [F6,nU,AG,kN]
 by_cases h6:w=[124]
 ·subst h6; simp -implicitDefEqProofs [F6,nU,AG,kN]
 by_cases h7:w=[94]
 ·subst h7; simp -implicitDefEqProofs [F6,nU,AG,kN]
 by_cases h8:w=[38]
 ·subst h8; simp -implicitDefEqProofs [F6,nU,AG,kN]
 by_cases h9:w=[60,60]
 ·subst h9; simp -implicitDefEqProofs [F6,nU,AG,kN]
 by_cases h10:w=[62,62]
 ·subst h10; simp -implicitDefEqProofs [F6,nU,AG,kN]
 by_cases h11:w=[43]
 ·subst h11; simp -implicitDefEqProofs [F6,nU,AG,kN]
 by_cases h12:w=[45]
 ·subst h12; simp -implicitDefEqProofs [F6,nU,AG,kN]
 by_cases h13:w=[42]
 ·subst h13; simp -implicitDefEqProofs [F6,nU,AG,kN]
 simp -implicitDefEqProofs [F6,nU,AG,kN,h0,h1,h2,h3,h4,h5,h6,h7,h8,h9,h10,h11,h12,h13]
def sgV (t:Token) (k:Nat):Int×Bool:=if t.kind=4 then(match nU t.text with | some (n,kind)=>(kind,decide (n=k)) | none=>(0,false)) else(0,false)
theorem Vf {t:Token}{k:Nat}(h:pO t k=none):(sgV t k).2=false:=by
 unfold pO at h
 unfold sgV
 split at h
 ·rename_i hk
  simp only [hk,if_true]
  split at h
  ·rename_i n kind hl
   split at h
   ·cases h
   ·rename_i hn; simp [hl,hn]
  ·rename_i hl; simp [hl]
 ·rename_i hk; simp [hk]
theorem Vg {t:Token}{k kind:Nat}(h:pO t k=some kind):sgV t k=((kind:Int),true):=by
 unfold pO at h
 unfold sgV
 split at h
 ·rename_i hk
  simp only [hk,if_true]
  split at h
  ·rename_i n kd hl
   split at h
   ·rename_i hn; cases h; simp [hl,hn]
   ·cases h
  ·cases h
 ·cases h
section
variable {L:List Token}(hL:L.length≤131072) (hK:rF L)
def aFM (L:List Token) (k:Nat):PM (Int×Bool):=fun a d=>.ok (sgV (tk L a) k) a d
def awI (x:Int×Bool):kM:=.tuple [.int .i64 x.1,.bool x.2]
attribute [simp] aFM awI
theorem d249 (k:Nat):qP L (fun _=>True) 206 [.int .i64 (k:Int)] awI (aFM L k):=by
 intro A B a d ha hd hB
 refine lA (arR _ _ _ _) ?_
 have h76:=d76 (L:=L)
 unfold qP at h76
 have h258:=aJi
 simp -implicitDefEqProofs [aFo,ha,hB,h76]
 by_cases hk:(tk L a).kind=4
 ·simp -implicitDefEqProofs [hk,hB,h258,sgV]
  cases hl:nU (tk L a).text with
  | none =>
   have:¬(-1:Int)=k:=by omega
   simp -implicitDefEqProofs [AG,hB,this]
  | some x =>
   obtain⟨n,kind⟩:=x
   simp -implicitDefEqProofs [AG,hB]
   omega
 ·have hk':¬((tk L a).kind:Int)=4:=by omega
  simp -implicitDefEqProofs [hk',hk,hB,sgV]
def dk (n d:Nat):Prop:=d+n=65∧d≤64
theorem dk.up {n d:Nat}(h:dk (n+1) d) (hd:¬d=64):dk n (d+1):=⟨by have:=h.1; omega,by have:=h.2; omega⟩
include hL hK
theorem aIQ {A B:List lG}{i a d:Nat}(hi:Has A B i) (ha:a < L.length) (hB:KB A B) :
  KK 105 [.ptr i 0] (HQ A L a d B)=some ((uZ L a d).res (fun x=>.agg x.cells) A L B):=by
 refine lA (apX _ _ _) ?_
 have h142:=d142 hL hK
 unfold qP at h142
 have hg:∀C a d,mY (HQ A L a d (B++C)) i=some [.ptr A.length 0]:=fun C a d=>hi.app.get
 simp -implicitDefEqProofs [aE1,ha,hB,hg,h142]
 cases h1:uZ L a d with
 | bad e p a1 d1=>simp -implicitDefEqProofs [hB]
 | ok x a1 d1=>simp -implicitDefEqProofs [hB,XP.cells]
section
variable {n:Nat}{ex:PM XE}(he:qP L (dk n) 182 [] rV ex) (hg:mD L 1 (fun d=>d) ex)
include he
omit hL hK in
theorem aEs {A B:List lG}{i a d:Nat}(hi:Has A B i) (ha:a < L.length) (hd:dk n d) (hB:KB A B) :
  KK 223 [.ptr i 0] (HQ A L a d B)=some ((ex a d).res rV A L B):=by
 refine lA (arY _ _ _) ?_
 unfold qP at he
 have hg:∀C a d,mY (HQ A L a d (B++C)) i=some [.ptr A.length 0]:=fun C a d=>hi.app.get
 simp -implicitDefEqProofs [aFr,ha,hB,hg,he,hd]
 cases h1:ex a d with
 | bad e p a1 d1=>simp -implicitDefEqProofs [hB]
 | ok x a1 d1=>simp -implicitDefEqProofs [hB]
include hg
theorem aEr {A B:List lG}{a d:Nat}(ha:a < L.length) (hd:dk (n+1) d) (hB:KB A B):match uT L ex a d with
  | .bad e p a' d'=>KK 208 [.ptr A.length 0] (HQ A L a d B)=some (.pan (p9 e p),HQ A L a' d' B)
  | .ok l a' d'=>∃x,l=[x]∧KK 208 [.ptr A.length 0] (HQ A L a d B)=some (.ret (.slice [x.cells] (.own (HN A B+3))),HQ A L a' d' (B++[.front 0 0,.cells x.cells,.front 0 0,.front 1 5])):=by
 have h181:=d181 hL
 have h183:=d183 hL
 unfold qP at h181 h183 he
 have hd64:=hd.2
 have ev:∀r,WU KK (.ptr A.length 0) (HQ A L a d B)=some r→KK 208 [.ptr A.length 0] (HQ A L a d B)=some r:=fun r hr=>lA (arT _ _ _) hr
 unfold uT
 simp only [mL,PM.bind,uI]
 cases hs:isS (tk L a) [91]
 ·simp only [al9,if_false]
  refine ev _ ?_
  simp -implicitDefEqProofs [WU,ha,hB,h181,hd64,hs]
 ·have ha1:=mS hK ha hs
  by_cases h64:d=64
  ·simp only [if_true,h64]
   rw [h64] at ev hd64
   refine ev _ ?_
   simp -implicitDefEqProofs [WU,ha,hB,h181,hs]
  ·have hd1:=hd.up h64
   simp only [if_true,h64,if_false]
   cases h1:ex (a+1) (d+1) with
   | bad e p a2 d2 =>
    refine ev _ ?_
    simp -implicitDefEqProofs [WU,ha,hB,h181,hd64,hs,h64,ha1,hd1,he,h1]
   | ok x a2 d2 =>
    obtain⟨g1,g2,g3⟩:=hg _ _ _ _ _ h1 ha1
    have g3:d2=d+1:=g3
    subst g3
    have h65:d≤64:=by omega
    simp only [uJ]
    cases h2:isS (tk L a2) [93]
    ·simp only [al9,if_false]
     refine ev _ ?_
     simp -implicitDefEqProofs [WU,ha,hB,h181,hd64,hs,h64,ha1,hd1,he,h1,g2,h183,h65,h2]
    ·simp only [if_true,y6]
     refine⟨x,rfl,ev _ ?_⟩
     simp -implicitDefEqProofs [WU,ha,hB,h181,hd64,hs,h64,ha1,hd1,he,h1,g2,h183,h65,h2]
theorem d250 (t:Token):qP L (dk (n+1)) 207 [.agg t.cells] rV (zQ L ex t):=by
 intro A B a d ha hd hB
 refine lA (arS _ _ _ _) ?_
 have h181:=d181 hL
 have h183:=d183 hL
 have h260:=fun A B i a d hi ha hd hB=>aEs (A:=A) (B:=B) (i:=i) (a:=a) (d:=d) he hi ha hd hB
 unfold qP at h181 h183
 have hd64:=hd.2
 have hlt:A.length < HN A B:=F7
 simp -implicitDefEqProofs [aFp,ha,hB,h181,hd64,zQ,hlt,C9]
 cases hs:isS (tk L a) [40]
 ·simp -implicitDefEqProofs [hB]
 ·have ha1:=mS hK ha hs
  by_cases h64:d=64
  ·simp -implicitDefEqProofs [hB,h64]
  ·have hd1:=hd.up h64
   have hB':KB A (B++[.cells [.ptr A.length 0],.cells t.cells,.cells [.int .i64 0,.int .i64 0,.int .i64 0,.str [],.slice [] (.own (HN A B+3))],.front 0 0]):=hB.app (by simp [C9])
   have h259:=d259 hL hK (one:=ex) [41] hg ha1 hB' Has.new (fun C a ha hB=>aEs he Has.new.app ha hd1 hB)
   simp only [Token.cells] at h259
   simp -implicitDefEqProofs [hB,h64,ha1,h259,C9,hlt]
   cases h1:yW L [41] ex (a+1) (d+1) with
   | bad e p a2 d2=>simp -implicitDefEqProofs [hB]
   | ok l a2 d2 =>
    obtain⟨g1,g2,g3⟩:=Gy hK hg _ _ _ _ _ h1 ha1
    have g3:d2=d+1:=g3
    subst g3
    have h65:d≤64:=by omega
    simp -implicitDefEqProofs [hB,g2,h183,h65,C9,hlt]
    cases h2:isS (tk L a2) [41] <;> simp -implicitDefEqProofs [hB,XE.cells,XE.nN]
end
end
end
section
open Go Hk
def UR (L:List Token) (ex:PM XE) (n:Nat) (l:List XE):PM (List XE):=fun a d=>match ex a d with
 | .bad e p a1 d1=>.bad e p a1 d1
 | .ok x a1 d1=>tN L ex n false (l++[x]) a1 d1
theorem ajH {L:List Token}{ex:PM XE}{n:Nat}{first:Bool}{l:List XE}{a d:Nat}:tN L ex (n+1) first l a d =
  if first=true then UR L ex n l a d else if isS (tk L a) [44]=true then UR L ex n l (a+1) d else .bad 10 (tk L a).pos a d:=by
 unfold UR
 rw [tN]
 cases first
 ·simp only [Bool.not_false,if_true,mL,PM.bind,oR,al9,if_false]
  cases h:isS (tk L a) [44]
  ·simp
  ·simp only [if_true]
   cases ex (a+1) d <;> rfl
 ·simp only [Bool.not_true,al9,if_false,if_true,mL,PM.bind]
  cases ex a d <;> rfl
section
variable {L:List Token}(hL:L.length≤131072) (hK:rF L)
variable {n:Nat}{ex:PM XE}(he:qP L (dk n) 182 [] rV ex) (hg:mD L 1 (fun d=>d) ex)
include hL hK he hg
def mC (A B : List lG) (kind pos : Nat) (l : List XE) : List lG :=
  [.cells [.int .i64 0, .int .i64 0, .int .i64 0, .str [], .slice [] (.own (HN A B + 1))], .front 0 0,
   .cells [.int .i64 (kind : Int), .int .i64 (pos : Int), .int .i64 0, .str [], .slice (l.map XE.cells) (.own (HN A B + 3))], .front l.length (rY l.length 5)]
theorem aaZ {A B:List lG}{kind pos many d:Nat}{num:Bool}(hB:KB A B) (hd:dk n d) (hm:many≤8) (rem:Nat) (l:List XE) (a:Nat) (ha:a < L.length) (hl:l.length+rem=many) :
  ∃r,mJ (C0 KK (HN A B+4)) ([.ptr A.length 0,.bool num,.ptr (HN A B) 0,.ptr (HN A B+2) 0,.int .i64 (many:Int),.int .i64 (l.length:Int)],HQ A L a d (B++mC A B kind pos l))=some r ∧
   match tN L ex rem (decide (l.length=0)) l a d with
   | .ok l' a' d'=>r=(.exit 0,[.ptr A.length 0,.bool num,.ptr (HN A B) 0,.ptr (HN A B+2) 0,.int .i64 (many:Int),.int .i64 (many:Int)],HQ A L a' d' (B++mC A B kind pos l'))
   | .bad e p a' d'=>∃vs C,r=(.pan (p9 e p),vs,HQ A L a' d' (B++C)):=by
 have h138:=d138 hL
 unfold qP at h138 he
 refine DD (σ:=List XE×Nat×Nat) (fun s=>([.ptr A.length 0,.bool num,.ptr (HN A B) 0,.ptr (HN A B+2) 0,.int .i64 (many:Int),.int .i64 (s.1.length:Int)],HQ A L s.2.1 d (B++mC A B kind pos s.1)))
  (fun s=>s.2.1 < L.length∧s.1.length+s.2.2=many) (fun s=>s.2.2)
  (fun s r=>match tN L ex s.2.2 (decide (s.1.length=0)) s.1 s.2.1 d with
   | .ok l' a' d'=>r=(.exit 0,[.ptr A.length 0,.bool num,.ptr (HN A B) 0,.ptr (HN A B+2) 0,.int .i64 (many:Int),.int .i64 (many:Int)],HQ A L a' d' (B++mC A B kind pos l'))
   | .bad e p a' d'=>∃vs C,r=(.pan (p9 e p),vs,HQ A L a' d' (B++C))) ?_ (l,a,rem) ⟨ha,hl⟩
 rintro⟨l,a,rem⟩ ⟨ha,hl⟩
 simp only at ha hl
 have hsp:∀h,kM.vK (HN A B+4) h (.ptr A.length 0)=.ptr A.length 0:=fun h=>uA C9
 have hsp2:∀h,kM.vK (HN A B+4) h (.ptr (HN A B) 0)=.ptr (HN A B) 0:=fun h=>uA (by omega)
 have hsp3:∀h,kM.vK (HN A B+4) h (.ptr (HN A B+2) 0)=.ptr (HN A B+2) 0:=fun h=>uA (by omega)
 have hKB:∀l,KB A (B++mC A B kind pos l):=fun l=>hB.app (by simp [mC])
 have htr:∀a d l C,l_ (HN A B+4) (HQ A L a d (B++(mC A B kind pos l++C)))=some (HQ A L a d (B++mC A B kind pos l)):=fun a d l C=>by
  have:=zG (L:=L) (a:=a) (d:=d) (A:=A) (B:=B) (C:=mC A B kind pos l++C) (k:=4) (by simpa [mC] using hKB l) (by simp [mC])
  simpa [mC] using this
 have htr0:∀a d l,l_ (HN A B+4) (HQ A L a d (B++mC A B kind pos l))=some (HQ A L a d (B++mC A B kind pos l)):=fun a d l=>by
  have:=htr a d l []
  simpa using this
 cases rem with
 | zero =>
  right
  have:(l.length:Int)=many:=by omega
  refine⟨(.exit 0,[.ptr A.length 0,.bool num,.ptr (HN A B) 0,.ptr (HN A B+2) 0,.int .i64 (many:Int),.int .i64 (many:Int)],HQ A L a d (B++mC A B kind pos l)),?_,by simp,?_⟩
  ·simp -implicitDefEqProofs only [C0,OD,OE,OF,OG,OH,OI,Ue,M_,Na,T_,TP,List.getD_cons_zero,List.getD_cons_succ,ae3,ad9,Gp,this,Int.lt_irrefl,decide_false,cond_false,kT,htr0,Option.map_some,ai3,al1,hsp,hsp2,hsp3,as6,aj3,Wn]
  ·simp only [tN,y6]
 | succ rem =>
  have hlt:(l.length:Int) < many:=by omega
  have hfst0:∀(hc:l=[]),C0 KK (HN A B+4) ([.ptr A.length 0,.bool num,.ptr (HN A B) 0,.ptr (HN A B+2) 0,.int .i64 (many:Int),.int .i64 (l.length:Int)],HQ A L a d (B++mC A B kind pos l)) =
    match ex a d with
    | .bad e p a1 d1=>some (.pan (p9 e p),[.ptr A.length 0,.bool num,.ptr (HN A B) 0,.ptr (HN A B+2) 0,.int .i64 (many:Int),.int .i64 (l.length:Int)],HQ A L a1 d1 (B++mC A B kind pos l))
    | .ok x a1 d1=>some (.normal,[.ptr A.length 0,.bool num,.ptr (HN A B) 0,.ptr (HN A B+2) 0,.int .i64 (many:Int),.int .i64 ((l++[x]).length:Int)],HQ A L a1 d (B++mC A B kind pos (l++[x]))):=by
   intro hc
   have ha1:=ha
   have hc1:¬0 < l.length:=by simp [hc]
   have htr1:=fun a d=>htr0 a d l
   simp only [mC] at htr1
   simp -implicitDefEqProofs [C0,mC,hlt,hB,ha,hc1,he,ha1,hd]
   cases h1:ex a d with
   | bad e p a1 d1=>simp -implicitDefEqProofs [kT,htr1,hsp,hsp2,hsp3]
   | ok x a1 d1 =>
    obtain⟨g1,g2,g3⟩:=hg _ _ _ _ _ h1 ha1
    have g3:d=d1:=g3.symm
    subst g3
    have b2:=DQ (A:=A) (B:=B) (L:=L) (a:=a1) (d:=d) (C:=mC A B kind pos l++[.front 1 5]) (k:=3) (rows:=l.map XE.cells) (new:=[x.cells]) (sz:=5) (by_:=64) (sz':=rY l.length 5) (t:=.own (HN A B+4)) (by simp [mC]) (by rw [aj1]; exact AN _ _) (by simp) (by simp) (by simp; omega) (by simp; omega)
    simp only [mC,aj1,List.length_singleton,ae7,ah4,List.set_cons_succ,List.set_cons_zero] at b2
    have htr2:=htr a1 d (l++[x]) [.front 1 5]
    simp only [mC,ae7,ah4,am3,ai3,al1,ab5,List.length_singleton,rH] at htr2
    have w1:=rR (a:=l.length) (by omega)
    simp -implicitDefEqProofs [b2,kT,htr2,hsp,hsp2,hsp3,w1,rH]
  have hfst1:∀(hc:l≠[]∧isS (tk L a) [44]=true),C0 KK (HN A B+4) ([.ptr A.length 0,.bool num,.ptr (HN A B) 0,.ptr (HN A B+2) 0,.int .i64 (many:Int),.int .i64 (l.length:Int)],HQ A L a d (B++mC A B kind pos l)) =
    match ex (a+1) d with
    | .bad e p a1 d1=>some (.pan (p9 e p),[.ptr A.length 0,.bool num,.ptr (HN A B) 0,.ptr (HN A B+2) 0,.int .i64 (many:Int),.int .i64 (l.length:Int)],HQ A L a1 d1 (B++mC A B kind pos l))
    | .ok x a1 d1=>some (.normal,[.ptr A.length 0,.bool num,.ptr (HN A B) 0,.ptr (HN A B+2) 0,.int .i64 (many:Int),.int .i64 ((l++[x]).length:Int)],HQ A L a1 d (B++mC A B kind pos (l++[x]))):=by
   intro hc
   obtain⟨hc,hs⟩:=hc
   have ha1:=mS hK ha hs
   have hc1:0 < l.length:=List.length_pos_iff.2 hc
   have htr1:=fun a d=>htr0 a d l
   simp only [mC] at htr1
   simp -implicitDefEqProofs [C0,mC,hlt,hB,ha,hc,hs,hc1,h138,he,ha1,hd]
   cases h1:ex (a+1) d with
   | bad e p a1 d1=>simp -implicitDefEqProofs [kT,htr1,hsp,hsp2,hsp3]
   | ok x a1 d1 =>
    obtain⟨g1,g2,g3⟩:=hg _ _ _ _ _ h1 ha1
    have g3:d=d1:=g3.symm
    subst g3
    have b2:=DQ (A:=A) (B:=B) (L:=L) (a:=a1) (d:=d) (C:=mC A B kind pos l++[.front 1 5]) (k:=3) (rows:=l.map XE.cells) (new:=[x.cells]) (sz:=5) (by_:=64) (sz':=rY l.length 5) (t:=.own (HN A B+4)) (by simp [mC]) (by rw [aj1]; exact AN _ _) (by simp) (by simp) (by simp; omega) (by simp; omega)
    simp only [mC,aj1,List.length_singleton,ae7,ah4,List.set_cons_succ,List.set_cons_zero] at b2
    have htr2:=htr a1 d (l++[x]) [.front 1 5]
    simp only [mC,ae7,ah4,am3,ai3,al1,ab5,List.length_singleton,rH] at htr2
    have w1:=rR (a:=l.length) (by omega)
    simp -implicitDefEqProofs [b2,kT,htr2,hsp,hsp2,hsp3,w1,rH]
  simp only [ajH,decide_eq_true_eq]
  by_cases hl0:l=[]
  ·have hf:=hfst0 hl0
   have:l.length=0:=by simp [hl0]
   rw [hf]
   simp only [this,if_true,UR]
   cases h1:ex a d with
   | bad e p a1 d1=>exact .inr ⟨_,rfl,by simp,_,_,rfl⟩
   | ok x a1 d1 =>
    obtain⟨g1,g2,g3⟩:=hg _ _ _ _ _ h1 ha
    have g3:d=d1:=g3.symm
    subst g3
    exact .inl ⟨(l++[x],a1,rem),rfl,⟨g2,by simp; omega⟩,by simp,fun r hr=>by simpa using hr⟩
  ·have h0:¬l.length=0:=by simpa using hl0
   simp only [h0,if_false]
   cases hs:isS (tk L a) [44] with
   | false =>
    right
    have hc1:0 < l.length:=by omega
    have htr1:=fun a d=>htr0 a d l
    simp only [mC] at htr1
    refine⟨(.pan (p9 10 (tk L a).pos),[.ptr A.length 0,.bool num,.ptr (HN A B) 0,.ptr (HN A B+2) 0,.int .i64 (many:Int),.int .i64 (l.length:Int)],HQ A L a d (B++mC A B kind pos l)),?_,by simp,?_⟩
    ·simp -implicitDefEqProofs [C0,mC,hlt,hB,ha,h138,hs,hc1,kT,htr1,hsp,hsp2,hsp3]
    ·simp only [al9,if_false]
     exact⟨_,_,rfl⟩
   | true =>
    have hf:=hfst1 ⟨hl0,hs⟩
    have ha1:=mS hK ha hs
    rw [hf]
    simp only [if_true,UR]
    cases h1:ex (a+1) d with
    | bad e p a1 d1=>exact .inr ⟨_,rfl,by simp,_,_,rfl⟩
    | ok x a1 d1 =>
     obtain⟨g1,g2,g3⟩:=hg _ _ _ _ _ h1 ha1
     have g3:d=d1:=g3.symm
     subst g3
     exact .inl ⟨(l++[x],a1,rem),rfl,⟨g2,by simp; omega⟩,by simp,fun r hr=>by simpa using hr⟩
theorem aJj {A B:List lG}{a d kind many:Nat}{num:Bool}(ha:a < L.length) (ha1:a+1 < L.length) (hd:dk (n+1) d) (hB:KB A B) (hm:many≤8) :
  KK 228 [.ptr A.length 0,.int .i64 (kind:Int),.int .i64 (many:Int),.bool num] (HQ A L a d B)=some ((vW L ex kind many num a d).res rV A L B):=by
 refine lA (ar0 _ _ _ _ _ _) ?_
 have h76:=d76 (L:=L)
 have h181:=d181 hL
 have h183:=d183 hL
 have h138:=d138 hL
 have h139:=d139 hL 2
 unfold qP at h76 h181 h183 h138 h139
 simp only [ab9] at h139
 have hd64:=hd.2
 have w1:=rR (a:=a) (by omega)
 simp -implicitDefEqProofs [aFt,ha,ha1,hB,h76,h181,hd64,w1,vW]
 cases hs:isS (tk L (a+1)) [40]
 ·simp -implicitDefEqProofs [hB]
 ·have ha2:=mS hK ha1 hs
  by_cases h64:d=64
  ·simp -implicitDefEqProofs [hB,h64]
  ·have hd1:=hd.up h64
   obtain⟨r,h1,h2⟩:=aaZ hL hK he hg (kind:=kind) (pos:=(tk L a).pos) (num:=num) hB hd1 hm many [] (a+1+1) ha2 (by simp)
   simp only [al1,ac6,rB,decide_true,mC,ab9] at h1 h2
   simp -implicitDefEqProofs [hB,h64,ha2,h1]
   cases h3:tN L ex many true [] (a+1+1) (d+1) with
   | bad e p a3 d3 =>
    rw [h3] at h2
    obtain⟨vs,C,rfl⟩:=h2
    simp -implicitDefEqProofs [hB]
   | ok l a3 d3 =>
    obtain⟨g1,g2,g3⟩:=MW hK hg _ _ _ _ _ _ _ _ h3 ha2
    have g3:d3=d+1:=g3
    subst g3
    rw [h3] at h2
    subst h2
    have h65:d≤64:=by omega
    cases num with
    | false =>
     simp -implicitDefEqProofs [hB,g2,h183,h65,mC]
     cases h4:isS (tk L a3) [41] <;> simp -implicitDefEqProofs [hB,XE.cells,XE.nN]
    | true =>
     simp -implicitDefEqProofs [hB,g2,h138,mC]
     cases h4:isS (tk L a3) [44]
     ·simp -implicitDefEqProofs [hB]
     ·have ha4:=mS hK g2 h4
      simp -implicitDefEqProofs [hB,ha4,h139]
      by_cases h5:(tk L (a3+1)).kind=2
      ·have ha5:=p8 (k:=2) hK ha4 (by decide) h5
       simp -implicitDefEqProofs [hB,h5,ha5,h183,h65]
       cases h6:isS (tk L (a3+1+1)) [41] <;> simp -implicitDefEqProofs [hB,XE.cells,XE.nN]
      ·simp -implicitDefEqProofs [hB,h5]
theorem d262:qP L (dk (n+1)) 227 [] rV (qD L ex):=by
 intro A B a d ha hd hB
 refine lA (arZ _ _ _) ?_
 have h76:=d76 (L:=L)
 have h178:=d178 (L:=L)
 have h181:=d181 hL
 have h183:=d183 hL
 have h139:=d139 hL 1
 have h250:=fun t=>d250 hL hK he hg t
 have he':=he
 unfold qP at h76 h178 h181 h183 h139 h250 he'
 simp only [ab9] at h139
 have hd64:=hd.2
 have w1:=rR (a:=a) (by omega)
 have h263:=fun B (ha1:a+1 < L.length) (hB:KB A B) kind many num hm=>aJj hL hK he hg (A:=A) (B:=B) (kind:=kind) (many:=many) (num:=num) ha ha1 hd hB hm
 simp -implicitDefEqProofs [aFs,ha,hB,h76,qD]
 by_cases hk:(tk L a).kind=2
 ·simp -implicitDefEqProofs [hk,ha,hB,w1,XE.cells,XE.rows]
 ·have hk':¬((tk L a).kind:Int)=2:=by omega
  simp -implicitDefEqProofs [hk,hk',ha,hB,h178]
  cases s0:isS (tk L a) [40]
  ·simp -implicitDefEqProofs [ha,hB,h178]
   cases s1:isS (tk L a) [109,117,108,104,105]
   ·simp -implicitDefEqProofs [ha,hB,h178]
    cases s2:isS (tk L a) [99,97,114,114,121]
    ·simp -implicitDefEqProofs [ha,hB,h178]
     cases s3:isS (tk L a) [115,101,108,101,99,116]
     ·simp -implicitDefEqProofs [ha,hB,h178]
      cases s4:isS (tk L a) [119,111,114,100]
      ·simp -implicitDefEqProofs [ha,hB,h178]
       cases s5:isS (tk L a) [114,111,114]
       ·simp -implicitDefEqProofs [ha,hB,h178,h139]
        by_cases hn:(tk L a).kind=1
        ·have ha1:=p8 (k:=1) hK ha (by decide) hn
         simp -implicitDefEqProofs [hn,ha1,hB,h178]
         cases q1:isS (tk L (a+1)) [40]
         ·simp -implicitDefEqProofs [ha1,hB,h178]
          cases q2:isS (tk L (a+1)) [91]
          ·simp -implicitDefEqProofs [ha1,hB,XE.cells,XE.rows]
          ·have i1:=aEr hL hK he hg (A:=A) (B:=B++[.cells [.int .i64 0,.int .i64 0,.int .i64 0,.str [],.slice [] (.own (HN A B+1))],.front 0 0,.gone]) ha1 hd (hB.app (by simp))
           simp -implicitDefEqProofs [ha1,hB]
           cases q3:uT L ex (a+1) d with
           | bad e p a3 d3 =>
            rw [q3] at i1
            simp -implicitDefEqProofs [hB,i1]
           | ok l a3 d3 =>
            rw [q3] at i1
            obtain⟨x,rfl,i2⟩:=i1
            simp -implicitDefEqProofs [hB,i2,XE.cells,XE.rows]
         ·have h250':=h250 (tk L a)
          simp -implicitDefEqProofs [hn] at h250'
          simp -implicitDefEqProofs [ha1,hB,h250',hd]
          cases q3:zQ L ex (tk L a) (a+1) d with
          | bad e p a3 d3=>simp -implicitDefEqProofs [hB]
          | ok x a3 d3=>simp -implicitDefEqProofs [hB]
        ·simp -implicitDefEqProofs [hn,hB]
       ·have ha1:=mS hK ha s5
        have h263':=fun B hB=>h263 B ha1 hB 16 1 true (by decide)
        simp only [ab9] at h263'
        simp -implicitDefEqProofs [hB,h263']
        cases q3:vW L ex 16 1 true a d with
        | bad e p a3 d3=>simp -implicitDefEqProofs [hB]
        | ok x a3 d3=>simp -implicitDefEqProofs [hB]
      ·have ha1:=mS hK ha s4
       have h263':=fun B hB=>h263 B ha1 hB 26 1 false (by decide)
       simp only [ab9] at h263'
       simp -implicitDefEqProofs [hB,h263']
       cases q3:vW L ex 26 1 false a d with
       | bad e p a3 d3=>simp -implicitDefEqProofs [hB]
       | ok x a3 d3=>simp -implicitDefEqProofs [hB]
     ·have ha1:=mS hK ha s3
      have h263':=fun B hB=>h263 B ha1 hB 25 3 false (by decide)
      simp only [ab9] at h263'
      simp -implicitDefEqProofs [hB,h263']
      cases q3:vW L ex 25 3 false a d with
      | bad e p a3 d3=>simp -implicitDefEqProofs [hB]
      | ok x a3 d3=>simp -implicitDefEqProofs [hB]
    ·have ha1:=mS hK ha s2
     have h263':=fun B hB=>h263 B ha1 hB 24 2 false (by decide)
     simp only [ab9] at h263'
     simp -implicitDefEqProofs [hB,h263']
     cases q3:vW L ex 24 2 false a d with
     | bad e p a3 d3=>simp -implicitDefEqProofs [hB]
     | ok x a3 d3=>simp -implicitDefEqProofs [hB]
   ·have ha1:=mS hK ha s1
    have h263':=fun B hB=>h263 B ha1 hB 23 2 false (by decide)
    simp only [ab9] at h263'
    simp -implicitDefEqProofs [hB,h263']
    cases q3:vW L ex 23 2 false a d with
    | bad e p a3 d3=>simp -implicitDefEqProofs [hB]
    | ok x a3 d3=>simp -implicitDefEqProofs [hB]
  ·have ha1:=mS hK ha s0
   simp -implicitDefEqProofs [hB,ha,h181,hd64,s0]
   by_cases h64:d=64
   ·simp -implicitDefEqProofs [hB,h64]
   ·have hd1:=hd.up h64
    simp -implicitDefEqProofs [hB,h64,ha1,hd1,he']
    cases q1:ex (a+1) (d+1) with
    | bad e p a2 d2=>simp -implicitDefEqProofs [hB]
    | ok x a2 d2 =>
     obtain⟨g1,g2,g3⟩:=hg _ _ _ _ _ q1 ha1
     have g3:d2=d+1:=g3
     subst g3
     have h65:d≤64:=by omega
     simp -implicitDefEqProofs [hB,g2,h183,h65]
     cases q2:isS (tk L a2) [41] <;> simp -implicitDefEqProofs [hB]
end
end
section
open Go Hk
section
variable {L:List Token}(hL:L.length≤131072) (hK:rF L)
variable {n:Nat}{ex un:PM XE}(he:qP L (dk n) 182 [] rV ex) (hg:mD L 1 (fun d=>d) ex) (hu:qP L (dk n) 220 [] rV un) (hgu:mD L 1 (fun d=>d) un)
include hL hK he hg hu hgu
theorem d257:qP L (dk (n+1)) 220 [] rV (x_ L ex un):=by
 intro A B a d ha hd hB
 refine lA (arV _ _ _) ?_
 have h76:=d76 (L:=L)
 have h178:=d178 (L:=L)
 have h181:=d181 hL
 have h262:=d262 hL hK he hg
 have hu':=hu
 unfold qP at h76 h178 h181 h262 hu'
 have hd64:=hd.2
 simp -implicitDefEqProofs [aFq,ha,hB,h76,h178,x_]
 have key:∀s:List UInt8,isS (tk L a) s=true→(tk L a).text=s:=by
  intro s hs
  simp [isS] at hs
  exact hs.2
 cases s1:isS (tk L a) [126]
 ·simp -implicitDefEqProofs [ha,hB,h178]
  cases s2:isS (tk L a) [45]
  ·simp -implicitDefEqProofs [ha,hB,h178]
   cases s3:isS (tk L a) [33]
   ·simp -implicitDefEqProofs [ha,hB,h262,hd]
    cases q:qD L ex a d with
    | bad e p a1 d1=>simp -implicitDefEqProofs [hB]
    | ok x a1 d1=>simp -implicitDefEqProofs [hB]
   ·have ha1:=mS hK ha s3
    have ht:=key _ s3
    simp -implicitDefEqProofs [ha,hB,h181,hd64,AH,ht,s3]
    by_cases h64:d=64
    ·simp -implicitDefEqProofs [hB,h64]
    ·have hd1:=hd.up h64
     simp -implicitDefEqProofs [hB,h64,ha1,hd1,hu']
     cases q:un (a+1) (d+1) with
     | bad e p a1 d1=>simp -implicitDefEqProofs [hB]
     | ok x a1 d1 =>
      obtain⟨g1,g2,g3⟩:=hgu _ _ _ _ _ q ha1
      have g3:d1=d+1:=g3
      subst g3
      have w1:=wrapN (a:=d) (by omega)
      simp -implicitDefEqProofs [hB,w1,XE.cells,XE.rows]
  ·have ha1:=mS hK ha s2
   have ht:=key _ s2
   simp -implicitDefEqProofs [ha,hB,h181,hd64,AH,ht,s2]
   by_cases h64:d=64
   ·simp -implicitDefEqProofs [hB,h64]
   ·have hd1:=hd.up h64
    simp -implicitDefEqProofs [hB,h64,ha1,hd1,hu']
    cases q:un (a+1) (d+1) with
    | bad e p a1 d1=>simp -implicitDefEqProofs [hB]
    | ok x a1 d1 =>
     obtain⟨g1,g2,g3⟩:=hgu _ _ _ _ _ q ha1
     have g3:d1=d+1:=g3
     subst g3
     have w1:=wrapN (a:=d) (by omega)
     simp -implicitDefEqProofs [hB,w1,XE.cells,XE.rows]
 ·have ha1:=mS hK ha s1
  have ht:=key _ s1
  simp -implicitDefEqProofs [ha,hB,h181,hd64,AH,ht,s1]
  by_cases h64:d=64
  ·simp -implicitDefEqProofs [hB,h64]
  ·have hd1:=hd.up h64
   simp -implicitDefEqProofs [hB,h64,ha1,hd1,hu']
   cases q:un (a+1) (d+1) with
   | bad e p a1 d1=>simp -implicitDefEqProofs [hB]
   | ok x a1 d1 =>
    obtain⟨g1,g2,g3⟩:=hgu _ _ _ _ _ q ha1
    have g3:d1=d+1:=g3
    subst g3
    have w1:=wrapN (a:=d) (by omega)
    simp -implicitDefEqProofs [hB,w1,XE.cells,XE.rows]
end
end
section
open Go Hk
theorem ajI {L:List Token}{next:PM XE}{k n a d:Nat}{x:XE}:tO L next k (n+1) x a d=match pO (tk L a) k with
  | none=>.ok x a d
  | some kind=>if kind=14∨kind=15 then(if (tk L (a+1)).kind=2 then tO L next k n (.mk kind (tk L a).pos (tk L (a+1)).num [] [x]) (a+1+1) d else .bad 10 (tk L (a+1)).pos (a+1) d)
    else match next (a+1) d with
     | .bad e p a2 d2=>.bad e p a2 d2
     | .ok y a2 d2=>tO L next k n (.mk kind (tk L a).pos 0 [] [x,y]) a2 d2:=by
 rw [tO]
 simp only [mL,PM.bind,oQ]
 cases pO (tk L a) k with
 | none=>rfl
 | some kind =>
  by_cases h:kind=14∨kind=15
  ·by_cases h2:(tk L (a+1)).kind=2 <;> simp [h,h2]
  ·simp only [h,if_false,mL,PM.bind,xS]
   cases next (a+1) d <;> rfl
def xL (h:kP) (id:Nat):Bool:=match h[id]? with
 | some .free=>true
 | _=>false
theorem M7 {h:kP}{id:Nat}:xL h id=true→h[id]?=some .free:=by
 unfold xL
 split
 ·rename_i e; exact fun _=>e
 ·intro h; cases h
section
variable {A B C:List lG}{L:List Token}{a d k:Nat}{h:kP}
@[simp] theorem avV {r:kP}:xL (.free::r) 0=true:=(rfl)
@[simp] theorem avU {b:lG}{r:kP}{n:Nat}:xL (b::r) (n+1)=xL r n:=(rfl)
@[simp] theorem aHi:xL (HQ A L a d (B++C)) (HN A B+k)=xL C k:=by unfold xL; rw [L2]
theorem yH {id n:Nat}{v:kM}(hf:xL h id=true):vQ id n h v=if v.cells.length=n∧v.cells.all kM.mE then some (.ptr id 0,h.set id (.cells v.cells)) else none:=by
 unfold vQ
 simp only [M7 hf]
theorem XO {x:XE}{id:Nat}(hf:xL h id=true):qW id 1 5 [.int .i64 0,.int .i64 0,.int .i64 0,.str [],.slice [] .nil] [(0,.agg x.cells)] h=some (.slice [x.cells] (.own id),h.set id (.front 1 5)):=by
 have:=alH (x:=x) (h:=h)
 unfold kY at this
 unfold qW
 simp only [M7 hf]
 split at this
 ·rename_i rows hr
  cases this
  simp only [hr]
 ·cases this
theorem amR (hk:k≤C.length):List.take (HN A B+k) (HQ A L a d (B++C))=HQ A L a d (B++C.take k):=by
 have e:HQ A L a d (B++C)=HQ A L a d (B++C.take k)++C.drop k:=by rw [L1,ag1,List.take_append_drop]
 rw [e]
 have:HN A B+k=(HQ A L a d (B++C.take k)).length:=by rw [IE,C_,aj4,Nat.min_eq_left hk]
 rw [this,List.take_left]
theorem amL (hk:k≤C.length):List.drop (HN A B+k) (HQ A L a d (B++C))=C.drop k:=by
 have e:HQ A L a d (B++C)=HQ A L a d (B++C.take k)++C.drop k:=by rw [L1,ag1,List.take_append_drop]
 rw [e]
 have:HN A B+k=(HQ A L a d (B++C.take k)).length:=by rw [IE,C_,aj4,Nat.min_eq_left hk]
 rw [this,List.drop_left]
theorem G_ {n : Nat} : ∀ {cs : List kM}, B6 n cs → cs.all (kM.nP n) = true
  | [], _ => rfl
  | v :: cs, hc => by
    have key : ∀ h, (v.mP n h).mE = true ∧ v.mP n h = v ∧ nI n h cs = some cs := fun h => by
      have := hc n h (ab6 _)
      rw [tJ] at this
      cases he : (v.mP n h).mE with
      | false => rw [he] at this; cases this
      | true =>
        rw [he] at this
        simp only [cond_true, ab8, List.cons.injEq] at this
        obtain ⟨r, h1, h2, h3⟩ := this
        subst h3
        exact ⟨rfl, h2, h1⟩
    have hcs : B6 n cs := fun m h hm => by
      have := hc m h hm
      rw [tJ] at this
      cases he : (v.mP m h).mE with
      | false => rw [he] at this; cases this
      | true =>
        rw [he] at this
        simp only [cond_true, ab8, List.cons.injEq] at this
        obtain ⟨r, h1, h2, h3⟩ := this
        subst h3; exact h1
    rw [List.all_cons, G_ hcs, Bool.and_true]
    obtain ⟨h1, h2, _⟩ := key []
    have nj : v.mP n [] ≠ .junk := by intro e; rw [e] at h1; cases h1
    cases v with
    | slice rows t =>
      cases t with
      | own id =>
        rw [U9] at h2
        cases hd : decide (id < n) with
        | true => simpa [kM.nP, kM.pE, qA] using hd
        | false => rw [hd] at h2; simp at h2
      | _ => rfl
    | ptr id off =>
      cases hd : decide (id < n) with
      | true => simpa [kM.nP, kM.pE, qA] using hd
      | false => exact absurd (by simp [kM.mP, hd]) nj
    | mslice id off len sz =>
      cases hd : decide (id < n) with
      | true => simpa [kM.nP, kM.pE, qA] using hd
      | false => exact absurd (by simp [kM.mP, hd]) nj
    | vslice id tot off len sz =>
      cases hd : decide (id < n) with
      | true => simpa [kM.nP, kM.pE, qA] using hd
      | false => simp [kM.mP, hd, kM.nP, kM.pE, qA] at nj h2
    | _ =>
      simp only [kM.mP] at nj
      first
        | (cases hs : kM.nP n _ with
           | true => rfl
           | false => rw [hs] at nj; exact absurd rfl nj)
        | rfl
theorem L6 {n:Nat}:∀{C:List lG},Da n C→C.all (sR n)=true
 | [],_=>rfl
 | b::C,hc=>by
  have hC:Da n C:=fun m h hm=>by
   have:=hc m h hm
   rw [oM,aa4] at this
   obtain⟨b',h1,h2⟩:=this
   rw [ab8] at h2
   obtain⟨r,h3,h4⟩:=h2
   cases h4; exact h3
  have hb:∀m h,n≤m→pF m h b=some b:=fun m h hm=>by
   have:=hc m h hm
   rw [oM,aa4] at this
   obtain⟨b',h1,h2⟩:=this
   rw [ab8] at h2
   obtain⟨r,h3,h4⟩:=h2
   cases h4; exact h1
  rw [List.all_cons,L6 hC,Bool.and_true]
  cases b with
  | cells cs =>
   refine G_ (n:=n) fun m h hm=>?_
   have:=hb m h hm
   rw [Ij,ab8] at this
   obtain⟨r,h1,h2⟩:=this
   cases h2; exact h1
  | vec tot sz cs =>
   refine G_ (n:=n) fun m h hm=>?_
   have:=hb m h hm
   simp only [pF,ab8] at this
   obtain⟨r,h1,h2⟩:=this
   cases h2; exact h1
  | tcells t cs =>
   refine G_ (n:=n) fun m h hm=>?_
   have:=hb m h hm
   simp only [pF,ab8] at this
   obtain⟨r,h1,h2⟩:=this
   cases h2; exact h1
  | map es =>
   have:=hb n [] (ab6 _)
   simp only [pF] at this
   cases he:es.all (fun e=>e.2.nP n) with
   | true=>exact he
   | false=>rw [he] at this; cases this
  | _=>rfl
theorem amQ {m:Nat}(hB:KB A B) (hm:m=HN A B):(HQ A L a d B).all (sR m)=true:=by
 subst hm
 unfold HQ
 rw [List.all_append,List.all_cons,L6 (hB.a _ (ab6 _)),L6 (hB.b _ (ab6 _))]
 rfl
theorem Xn {m i o:Nat}(hi:i < m):vJ m (.ptr i o)=.ptr i o:=by simp [vJ,kM.nP,kM.pE,qA,hi]
theorem Uj {m:Nat}{kv:kM→kP→Option R}{v:kM}{h':kP}:ET m h kv (.normal,[v],h')=bif h'.length == m then kv v (h'++h.drop m) else none:=(rfl)
theorem Fo {C1 C1' C2:List lG}(hB:KB A B) (hk:k=C1.length) (hs:nK (HN A B+k) (HQ A L a d (B++(C1++C2))) C1=some C1') :
  l_ (HN A B+k) (HQ A L a d (B++(C1++C2)))=some (HQ A L a d (B++C1')):=by
 subst hk
 have e:HQ A L a d (B++(C1++C2))=HQ A L a d (B++C1)++C2:=by rw [L1,ag1]
 have hl:HN A B+C1.length=(HQ A L a d (B++C1)).length:=by rw [IE,C_]
 have app:∀{m:Nat}{h:kP}{X Y X' Y':List lG},nK m h X=some X'→nK m h Y=some Y'→nK m h (X++Y)=some (X'++Y'):=by
  intro m h X
  induction X with
  | nil=>intro Y X' Y' h1 h2; simp [nK] at h1; subst h1; exact h2
  | cons b r ih =>
   intro Y X' Y' h1 h2
   rw [oM,aa4] at h1
   obtain⟨b',e1,e2⟩:=h1
   rw [ab8] at e2
   obtain⟨r',e3,rfl⟩:=e2
   rw [ae7,oM,e1,ad9,ih e3 h2]
   rfl
 unfold Hk.l_
 rw [show List.take (HN A B+C1.length) (HQ A L a d (B++(C1++C2)))=HQ A L a d (B++C1) by rw [e,hl,List.take_left]]
 unfold HQ at hs ⊢
 have hPB:∀m h,pF m h (PB L a d)=some (PB L a d):=fun _ _=>rfl
 refine app (hB.a _ (ab6 _) _ _ (by omega)) ?_
 rw [oM,hPB,ad9,app (hB.b _ (ab6 _) _ _ (by omega)) hs]
 rfl
end
end
section
open Go Hk
@[simp] theorem auF {x:XE}:x.cells.drop 5=[]:=List.drop_eq_nil_iff.2 (by simp)
@[simp] theorem aLE {h:kP}{os:List kM}{k1 k2 k3:IntKind}{z1 z2 z3:Int}{w:List UInt8}{rows:List (List kM)}{id:Nat} :
  pV h os [.int k1 z1,.int k2 z2,.int k3 z3,.str w,.slice rows (.own id)]=[.int k1 z1,.int k2 z2,.int k3 z3,.str w,.slice rows (.own id)] :=
 rA (by
  intro c hc
  simp only [List.mem_cons,List.not_mem_nil,or_false] at hc
  rcases hc with rfl | rfl | rfl | rfl | rfl <;> first | rfl | (cases rows <;> rfl))
def hC (A B:List lG) (x:XE):List lG :=
 [.cells [.int .i64 0,.int .i64 0,.int .i64 0,.str [],.slice [] (.own (HN A B+1))],.front 0 0,.cells x.cells,.front 0 0]
section
variable {L:List Token}(hL:L.length≤131072) (hK:rF L)
variable {n:Nat}{next:PM XE}{k:Nat}(hn:qP L (dk n) 205 [.int .i64 ((k+1:Nat):Int)] rV next) (hgn:mD L 1 (fun d=>d) next)
include hL hK hn hgn
theorem Wf {A B:List lG}{d:Nat}(hB:KB A B) (hd:dk n d) (hk:k≤6) (x:XE) (a:Nat) (ha:a < L.length) :
  HW KK (HN A B+4) ([.ptr A.length 0,.int .i64 (k:Int),.ptr (HN A B) 0,.ptr (HN A B+2) 0],HQ A L a d (B++hC A B x)) =
   match pO (tk L a) k with
   | none=>some (.ret,[.ptr A.length 0,.int .i64 (k:Int),.ptr (HN A B) 0,.ptr (HN A B+2) 0],HQ A L a d (B++[.cells x.cells,.front 0 0,.cells x.cells,.front 0 0]))
   | some kind=>if kind=14∨kind=15 then(if (tk L (a+1)).kind=2 then
      some (.normal,[.ptr A.length 0,.int .i64 (k:Int),.ptr (HN A B) 0,.ptr (HN A B+2) 0],HQ A L (a+1+1) d (B++hC A B (.mk kind (tk L a).pos (tk L (a+1)).num [] [x])))
     else some (.pan (p9 10 (tk L (a+1)).pos),[.ptr A.length 0,.int .i64 (k:Int),.ptr (HN A B) 0,.ptr (HN A B+2) 0],HQ A L (a+1) d (B++hC A B x)))
    else match next (a+1) d with
     | .bad e p a2 d2=>some (.pan (p9 e p),[.ptr A.length 0,.int .i64 (k:Int),.ptr (HN A B) 0,.ptr (HN A B+2) 0],HQ A L a2 d2 (B++hC A B x))
     | .ok y a2 d2=>some (.normal,[.ptr A.length 0,.int .i64 (k:Int),.ptr (HN A B) 0,.ptr (HN A B+2) 0],HQ A L a2 d (B++hC A B (.mk kind (tk L a).pos 0 [] [x,y]))):=by
 have h249:=d249 (L:=L) k
 have h76:=d76 (L:=L)
 have h139:=d139 hL 2
 unfold qP at h249 h76 h139 hn
 simp only [ab9,af8,ab9] at h139 hn
 have hsp:∀h,kM.vK (HN A B+4) h (.ptr A.length 0)=.ptr A.length 0:=fun h=>uA C9
 have hsp2:∀h,kM.vK (HN A B+4) h (.ptr (HN A B) 0)=.ptr (HN A B) 0:=fun h=>uA (by omega)
 have hsp3:∀h,kM.vK (HN A B+4) h (.ptr (HN A B+2) 0)=.ptr (HN A B+2) 0:=fun h=>uA (by omega)
 have hKB:KB A (B++hC A B x):=hB.app (by simp [hC])
 have hKB2:KB A (B++[.cells x.cells,.front 0 0,.cells x.cells,.front 0 0]):=hB.app (by simp)
 have htr:∀a d C,l_ (HN A B+4) (HQ A L a d (B++(hC A B x++C)))=some (HQ A L a d (B++hC A B x)):=fun a d C=>by
  have:=zG (L:=L) (a:=a) (d:=d) (A:=A) (B:=B) (C:=hC A B x++C) (k:=4) (by simpa [hC] using hKB) (by simp [hC])
  simpa [hC] using this
 have htr0:=fun a d=>htr a d []
 have htr2:∀a d C,l_ (HN A B+4) (HQ A L a d (B++([.cells x.cells,.front 0 0,.cells x.cells,.front 0 0]++C)))=some (HQ A L a d (B++[.cells x.cells,.front 0 0,.cells x.cells,.front 0 0])):=fun a d C=>by
  have:=zG (L:=L) (a:=a) (d:=d) (A:=A) (B:=B) (C:=[.cells x.cells,.front 0 0,.cells x.cells,.front 0 0]++C) (k:=4) (by simpa using hKB2) (by simp)
  simpa using this
 have htr20:=fun a d=>htr2 a d []
 have htrG:∀a d (z1 z2 z3:Int) rows C,l_ (HN A B+4) (HQ A L a d (B++(.cells [.int .i64 0,.int .i64 0,.int .i64 0,.str [],.slice [] (.own (HN A B+1))]::.front 0 0::.cells [.int .i64 z1,.int .i64 z2,.int .i64 z3,.str [],.slice rows (.own (HN A B+4))]::.front 0 0::C))) =
   some (HQ A L a d (B++[.cells [.int .i64 0,.int .i64 0,.int .i64 0,.str [],.slice [] (.own (HN A B+1))],.front 0 0,.cells [.int .i64 z1,.int .i64 z2,.int .i64 z3,.str [],.slice rows .no],.front 0 0])):=fun a d z1 z2 z3 rows C =>
  Fo (C1:=[.cells [.int .i64 0,.int .i64 0,.int .i64 0,.str [],.slice [] (.own (HN A B+1))],.front 0 0,.cells [.int .i64 z1,.int .i64 z2,.int .i64 z3,.str [],.slice rows (.own (HN A B+4))],.front 0 0]) (C2:=C) hB rfl (by simp)
 simp only [hC,List.append_nil,ae7,ah4] at htr htr0 htr20
 have w1:=rR (a:=a) (by omega)
 have w2:=rR (a:=k) (by omega)
 cases hs:pO (tk L a) k with
 | none =>
  have h1:=Vf hs
  simp -implicitDefEqProofs [HW,hC,ha,hB,h249,h1,kT,htr20,hsp,hsp2,hsp3]
 | some kind =>
  have h1:=Vg hs
  have ha1:=p8 (k:=4) hK ha (by decide) (sN hs)
  simp -implicitDefEqProofs [HW,hC,ha,hB,h249,h1,XO,yH,amR,amL,amQ,Xn,C9,Uj,h76,w1,kT,htr0,hsp,hsp2,hsp3]
  by_cases k14:kind=14∨kind=15
  ·have k14':(kind:Int)=14∨(kind:Int)=15:=by omega
   have fin:∀b:Bool,b=true→True:=fun _ _=>trivial
   by_cases h2:(tk L (a+1)).kind=2
   ·rcases k14 with rfl | rfl <;> simp -implicitDefEqProofs [ha1,hB,h139,h2,kT,htrG,hsp,hsp2,hsp3,XE.cells,XE.rows]
   ·rcases k14 with rfl | rfl <;> simp -implicitDefEqProofs [ha1,hB,h139,h2,kT,htr,hsp,hsp2,hsp3]
  ·have k14':¬(kind:Int)=14:=by omega
   have k15':¬(kind:Int)=15:=by omega
   simp -implicitDefEqProofs [ha1,hB,hn,hd,w2,k14,k14',k15']
   cases q:next (a+1) d with
   | bad e p a2 d2=>simp -implicitDefEqProofs [hB,kT,htr,hsp,hsp2,hsp3]
   | ok y a2 d2 =>
    obtain⟨g1,g2,g3⟩:=hgn _ _ _ _ _ q ha1
    have g3:d=d2:=g3.symm
    subst g3
    have b2:=DQ (A:=A) (B:=B) (L:=L) (a:=a2) (d:=d) (C:=[.cells [.int .i64 0,.int .i64 0,.int .i64 0,.str [],.slice [] (.own (HN A B+1))],.front 0 0,.cells x.cells,.front 0 0,.front 1 5,.cells [.int .i64 (kind:Int),.int .i64 ((tk L a).pos:Int),.int .i64 0,.str [],.slice [x.cells] (.own (HN A B+4))],.front 1 5]) (k:=4) (rows:=[x.cells]) (new:=[y.cells]) (sz:=5) (by_:=64) (sz':=5) (t:=.own (HN A B+6)) (by simp) (.inl rfl) (by simp) (by simp) (by simp) (by simp)
    simp only [List.length_singleton,ae7,ah4,List.set_cons_succ,List.set_cons_zero] at b2
    simp -implicitDefEqProofs [hB,b2,kT,htrG,hsp,hsp2,hsp3,XE.cells,XE.rows]
theorem aaX {A B:List lG}{d:Nat}(hB:KB A B) (hd:dk n d) (hk:k≤6) (m:Nat) (x:XE) (a:Nat) (ha:a < L.length) (hm:L.length < a+m) :
  ∃r,mJ (HW KK (HN A B+4)) ([.ptr A.length 0,.int .i64 (k:Int),.ptr (HN A B) 0,.ptr (HN A B+2) 0],HQ A L a d (B++hC A B x))=some r ∧
   match tO L next k m x a d with
   | .ok x' a' d'=>r=(.ret,[.ptr A.length 0,.int .i64 (k:Int),.ptr (HN A B) 0,.ptr (HN A B+2) 0],HQ A L a' d' (B++[.cells x'.cells,.front 0 0,.cells x'.cells,.front 0 0]))
   | .bad e p a' d'=>∃vs C,r=(.pan (p9 e p),vs,HQ A L a' d' (B++C)):=by
 refine DD (σ:=XE×Nat×Nat) (fun s=>([.ptr A.length 0,.int .i64 (k:Int),.ptr (HN A B) 0,.ptr (HN A B+2) 0],HQ A L s.2.1 d (B++hC A B s.1)))
  (fun s=>s.2.1 < L.length∧L.length < s.2.1+s.2.2) (fun s=>s.2.2)
  (fun s r=>match tO L next k s.2.2 s.1 s.2.1 d with
   | .ok x' a' d'=>r=(.ret,[.ptr A.length 0,.int .i64 (k:Int),.ptr (HN A B) 0,.ptr (HN A B+2) 0],HQ A L a' d' (B++[.cells x'.cells,.front 0 0,.cells x'.cells,.front 0 0]))
   | .bad e p a' d'=>∃vs C,r=(.pan (p9 e p),vs,HQ A L a' d' (B++C))) ?_ (x,a,m) ⟨ha,hm⟩
 rintro⟨x,a,m⟩ ⟨ha,hm⟩
 simp only at ha hm
 obtain⟨m,rfl⟩:∃j,m=j+1:=⟨m - 1,by omega⟩
 simp only [ajI,Wf hL hK hn hgn hB hd hk x a ha]
 cases hs:pO (tk L a) k with
 | none=>exact .inr ⟨_,rfl,by simp,rfl⟩
 | some kind =>
  have ha1:=p8 (k:=4) hK ha (by decide) (sN hs)
  by_cases k14:kind=14∨kind=15
  ·by_cases h2:(tk L (a+1)).kind=2
   ·left
    have ha2:=p8 (k:=2) hK ha1 (by decide) h2
    refine⟨(.mk kind (tk L a).pos (tk L (a+1)).num [] [x],a+1+1,m),?_,⟨ha2,by simp; omega⟩,by simp,fun r hr=>?_⟩
    ·simp only [k14,h2,if_true]
    ·simp only [k14,h2,if_true]; exact hr
   ·right
    refine⟨(.pan (p9 10 (tk L (a+1)).pos),[.ptr A.length 0,.int .i64 (k:Int),.ptr (HN A B) 0,.ptr (HN A B+2) 0],HQ A L (a+1) d (B++hC A B x)),?_,by simp,?_⟩
    ·simp only [k14,h2,if_true,if_false]
    ·simp only [k14,h2,if_true,if_false]
     exact⟨_,_,rfl⟩
  ·simp only [k14,if_false]
   cases q:next (a+1) d with
   | bad e p a2 d2=>exact .inr ⟨_,rfl,by simp,_,_,rfl⟩
   | ok y a2 d2 =>
    obtain⟨g1,g2,g3⟩:=hgn _ _ _ _ _ q ha1
    have g3:d=d2:=g3.symm
    subst g3
    exact .inl ⟨(.mk kind (tk L a).pos 0 [] [x,y],a2,m),rfl,⟨g2,by simp; omega⟩,by simp,fun r hr=>hr⟩
end
section
variable {L:List Token}(hL:L.length≤131072) (hK:rF L)
variable {n:Nat}{un:PM XE}(hu:qP L (dk n) 220 [] rV un) (hgu:mD L 1 (fun d=>d) un)
include hL hK hu hgu
theorem d248:∀(j k:Nat),j+k=7→qP L (dk n) 205 [.int .i64 (k:Int)] rV (pD L un j)
 | 0,k,hk=>by
  intro A B a d ha hd hB
  have hk7:k=7:=by omega
  subst hk7
  refine lA (Y9 _ _ _ _) ?_
  unfold qP at hu
  simp -implicitDefEqProofs [aAv,pD,ha,hd,hB,hu]
  cases q:un a d with
  | bad e p a1 d1=>simp -implicitDefEqProofs [hB]
  | ok x a1 d1=>simp -implicitDefEqProofs [hB]
 | j+1,k,hk=>by
  intro A B a d ha hd hB
  have ih:=d248 j (k+1) (by omega)
  have hgc:=BM hK hgu j
  have ih':=ih
  unfold qP at ih'
  simp only [af8,ab9] at ih'
  have hk6:k≤6:=by omega
  have hj:6 - j=k:=by omega
  have hk6':¬(6:Int) < k:=by omega
  have w2:=rR (a:=k) (by omega)
  refine lA (Y9 _ _ _ _) ?_
  simp only [pD,hj]
  simp -implicitDefEqProofs [aAv,ha,hd,hB,hk6',w2,ih']
  cases q:pD L un j a d with
  | bad e p a1 d1=>simp -implicitDefEqProofs [hB]
  | ok x a1 d1 =>
   obtain⟨g1,g2,g3⟩:=hgc _ _ _ _ _ q ha
   have g3:d=d1:=g3.symm
   subst g3
   obtain⟨r,h1,h2⟩:=aaX hL hK ih hgc hB hd hk6 131073 x a1 g2 (by omega)
   simp only [hC] at h1
   simp -implicitDefEqProofs [hB,h1]
   cases q2:tO L (pD L un j) k 131073 x a1 d with
   | bad e p a2 d2 =>
    rw [q2] at h2
    obtain⟨vs,C,rfl⟩:=h2
    simp -implicitDefEqProofs [hB]
   | ok x' a2 d2 =>
    rw [q2] at h2
    subst h2
    simp -implicitDefEqProofs [hB]
end
end
section
open Go Hk
theorem KJ:∀{a b a' b':List kM},n_ a=some a'→n_ b=some b'→n_ (a++b)=some (a'++b')
 | [],b,a',b',h1,h2=>by simp only [n_,ab1] at h1; subst h1; exact h2
 | v::r,b,a',b',h1,h2=>by
  simp only [n_] at h1
  split at h1
  ·rename_i x y e1 e2
   simp only [ab1] at h1
   subst h1
   simp only [ae7,n_,e1,KJ e2 h2]
  ·cases h1
@[simp] theorem aDQ {x y:XE}{h:kP}:kY 2 5 [.int .i64 0,.int .i64 0,.int .i64 0,.str [],.slice [] .nil] [(0,.agg x.cells),(1,.agg y.cells)] h=some (.slice [x.cells,y.cells] (.own h.length),h++[.front 2 5]):=by
 have e1:lT (List.replicate 2 [kM.int .i64 0,.int .i64 0,.int .i64 0,.str [],.slice [] .nil]).flatten ((List.range 2).map fun i=>(i * 5,5)) [(0,.agg x.cells),(1,.agg y.cells)]=some (.agg (x.cells++y.cells)):=by
  simp [lT,putCells,kM.pL,List.range_succ]
 have e2:=KJ (XE.row.pure x) (XE.row.pure y)
 have e3:(x.cells++y.cells).all kM.mE=true:=by rw [List.all_append,XE.row.ok x,XE.row.ok y]; rfl
 simp only [kY,tR,e1,e2,e3,rowsOf]
 rw [if_pos ⟨rfl,trivial⟩]
 rw [List.take_append_of_le_length (by simp),ZV,List.drop_append_of_le_length (by simp),auF,ah4,ZV]
section
variable {L:List Token}(hL:L.length≤131072) (hK:rF L)
include hL hK
theorem d230 {n:Nat}{un:PM XE}(hu:qP L (dk n) 220 [] rV un) (hgu:mD L 1 (fun d=>d) un):qP L (dk n) 182 [] rV (Bg L un):=by
 intro A B a d ha hd hB
 have h248:=d248 hL hK hu hgu 6 1 rfl
 have hgc:=BM hK hgu 6
 have h249:=d249 (L:=L) 0
 have h76:=d76 (L:=L)
 unfold qP at h248 h249 h76
 simp only [ab9] at h248 h249
 refine lA (arI _ _ _) ?_
 simp -implicitDefEqProofs [aFn,Bg,ha,hd,hB,h248]
 cases q:pD L un 6 a d with
 | bad e p a1 d1=>simp -implicitDefEqProofs [hB]
 | ok x a1 d1 =>
  obtain⟨g1,g2,g3⟩:=hgc _ _ _ _ _ q ha
  have g3:d=d1:=g3.symm
  subst g3
  simp -implicitDefEqProofs [hB,g2,h249]
  cases hs:pO (tk L a1) 0 with
  | none =>
   have h1:=Vf hs
   simp -implicitDefEqProofs [hB,h1]
  | some kind =>
   have h1:=Vg hs
   have ha1:=p8 (k:=4) hK g2 (by decide) (sN hs)
   have w1:=rR (a:=a1) (by omega)
   simp -implicitDefEqProofs [hB,h1,g2,h76,w1,ha1,h248,hd]
   cases q2:pD L un 6 (a1+1) d with
   | bad e p a2 d2=>simp -implicitDefEqProofs [hB]
   | ok y a2 d2 =>
    obtain⟨k1,k2,k3⟩:=hgc _ _ _ _ _ q2 ha1
    have k3:d=d2:=k3.symm
    subst k3
    simp -implicitDefEqProofs [hB,XE.cells,XE.rows]
theorem XB:∀n,qP L (dk n) 220 [] rV (Ew L n)
 | 0=>fun A B a d ha hd=>by have h1:=hd.1; have h2:=hd.2; omega
 | n+1=>d257 hL hK (d230 hL hK (XB n) (RI hK n)) (Dd hK n) (XB n) (RI hK n)
theorem Wm (n:Nat):qP L (dk n) 182 [] rV (BX L n):=d230 hL hK (XB hL hK n) (RI hK n)
theorem d229 (n:Nat):qP L (dk n) 181 [] Pj (Br L n):=by
 intro A B a d ha hd hB
 have he:=Wm hL hK n
 have hg:=Dd hK n
 have h138:=d138 hL
 unfold qP at he h138
 refine lA (arH _ _ _) ?_
 simp -implicitDefEqProofs [aFm,Br,ha,hd,hB,he]
 cases q:BX L n a d with
 | bad e p a1 d1=>simp -implicitDefEqProofs [hB]
 | ok x a1 d1 =>
  obtain⟨g1,g2,g3⟩:=hg _ _ _ _ _ q ha
  simp -implicitDefEqProofs [hB,g2,h138]
  cases hs:isS (tk L a1) [59] <;> simp -implicitDefEqProofs [hB]
end
end
section
open Go Hk
mutual
def XS.cells:XS→List kM
 | .mk k p m name ty args body els has=>[.int .i64 (k:Int),.int .i64 (p:Int),.int .i64 (m:Int),.str name,.int .i64 (ty.elem:Int),.int .i64 (ty.len:Int),.int .i64 (ty.label:Int),
   .slice (args.map XE.cells) .no,.slice (XS.rows body) .no,.slice (XS.rows els) .no,.bool has]
def XS.rows:List XS→List (List kM)
 | []=>[]
 | x::r=>x.cells::XS.rows r
end
theorem XS.nN:∀l:List XS,XS.rows l=l.map XS.cells
 | []=>rfl
 | x::r=>by simp [XS.rows,XS.nN r]
theorem XS.row:XY XS.cells 11:=⟨fun x=>by cases x; simp [XS.cells],fun x=>by cases x; simp [XS.cells,n_,kM.C4],fun x=>by cases x; simp [XS.cells]⟩
def sC (A B : List lG) (z0 pos r_ : Int) (name : List UInt8) (ty : Ty) (args body els : kM) (has : Bool) : List lG :=
  [.cells [.int .i64 0, .int .i64 0, .int .i64 0, .str [], .int .i64 0, .int .i64 0, .int .i64 0, .slice [] (.own (HN A B + 1)), .slice [] (.own (HN A B + 2)), .slice [] (.own (HN A B + 3)), .bool false], .front 0 0, .front 0 0, .front 0 0,
   .cells [.int .i64 z0, .int .i64 pos, .int .i64 r_, .str name, .int .i64 (ty.elem : Int), .int .i64 (ty.len : Int), .int .i64 (ty.label : Int), args, body, els, .bool has], .front 0 0, .front 0 0, .front 0 0]
section
variable {L:List Token}(hL:L.length≤131072) (hK:rF L)
include hL hK
theorem aJd {n:Nat}{A B:List lG}{a d pos:Nat}(ha:a < L.length) (hd:dk (n+1) d) (hB:KB A B) :
  match pN L (n+1) pos a d with
  | .bad e p a' d'=>∃C,KK 183 [.ptr A.length 0,.ptr (HN A B+4) 0] (HQ A L a d (B++sC A B 0 pos 0 [] ⟨0,0,0⟩ (.slice [] (.own (HN A B+5))) (.slice [] (.own (HN A B+6))) (.slice [] (.own (HN A B+7))) false))=some (.pan (p9 e p),HQ A L a' d' (B++C))
  | .ok s a' d'=>∃(k:Nat) (name:List UInt8) (args:List XE),s=.mk k pos 0 name ⟨0,0,0⟩ args [] [] false ∧
    KK 183 [.ptr A.length 0,.ptr (HN A B+4) 0] (HQ A L a d (B++sC A B 0 pos 0 [] ⟨0,0,0⟩ (.slice [] (.own (HN A B+5))) (.slice [] (.own (HN A B+6))) (.slice [] (.own (HN A B+7))) false)) =
     some (.ret (.tuple []),HQ A L a' d' (B++sC A B k pos 0 name ⟨0,0,0⟩ (.slice (args.map XE.cells) .no) (.slice [] (.own (HN A B+6))) (.slice [] (.own (HN A B+7))) false)):=by
 have he:=Wm hL hK n
 have hg:=Dd hK n
 have h139:=d139 hL 1
 have h178:=d178 (L:=L)
 have h138:=d138 hL
 have h250:=fun t=>d250 hL hK he hg t
 have h229:=d229 hL hK (n+1)
 unfold qP at h139 h178 h138 h250 h229
 simp only [ab9] at h139
 have ev:∀r,Jd KK (.ptr A.length 0) (.ptr (HN A B+4) 0) (HQ A L a d (B++sC A B 0 pos 0 [] ⟨0,0,0⟩ (.slice [] (.own (HN A B+5))) (.slice [] (.own (HN A B+6))) (.slice [] (.own (HN A B+7))) false))=some r →
   KK 183 [.ptr A.length 0,.ptr (HN A B+4) 0] (HQ A L a d (B++sC A B 0 pos 0 [] ⟨0,0,0⟩ (.slice [] (.own (HN A B+5))) (.slice [] (.own (HN A B+6))) (.slice [] (.own (HN A B+7))) false))=some r:=fun r hr=>lA (arJ _ _ _ _) hr
 have hKB:∀(z0:Int) nm,KB A (B++sC A B z0 pos 0 nm ⟨0,0,0⟩ (.slice [] (.own (HN A B+5))) (.slice [] (.own (HN A B+6))) (.slice [] (.own (HN A B+7))) false):=fun z0 nm=>hB.app (by simp [sC])
 have hKB2:∀(z0:Int) nm rows,KB A (B++sC A B z0 pos 0 nm ⟨0,0,0⟩ (.slice rows .no) (.slice [] (.own (HN A B+6))) (.slice [] (.own (HN A B+7))) false):=fun z0 nm rows=>hB.app (by simp [sC])
 have htr:∀a d (z0:Int) nm C,l_ (HN A B+8) (HQ A L a d (B++(sC A B z0 pos 0 nm ⟨0,0,0⟩ (.slice [] (.own (HN A B+5))) (.slice [] (.own (HN A B+6))) (.slice [] (.own (HN A B+7))) false++C))) =
   some (HQ A L a d (B++sC A B z0 pos 0 nm ⟨0,0,0⟩ (.slice [] (.own (HN A B+5))) (.slice [] (.own (HN A B+6))) (.slice [] (.own (HN A B+7))) false)):=fun a d z0 nm C =>
  Fo hB rfl (by simp [sC])
 have htr2:∀a d (z0:Int) nm rows C,l_ (HN A B+8) (HQ A L a d (B++(sC A B z0 pos 0 nm ⟨0,0,0⟩ (.slice rows .no) (.slice [] (.own (HN A B+6))) (.slice [] (.own (HN A B+7))) false++C))) =
   some (HQ A L a d (B++sC A B z0 pos 0 nm ⟨0,0,0⟩ (.slice rows .no) (.slice [] (.own (HN A B+6))) (.slice [] (.own (HN A B+7))) false)):=fun a d z0 nm rows C =>
  Fo hB rfl (by simp [sC])
 have htr3:∀a d (z0:Int) nm rows j C,8≤j→l_ (HN A B+8) (HQ A L a d (B++(sC A B z0 pos 0 nm ⟨0,0,0⟩ (.slice rows (.own (HN A B+j))) (.slice [] (.own (HN A B+6))) (.slice [] (.own (HN A B+7))) false++C))) =
   some (HQ A L a d (B++sC A B z0 pos 0 nm ⟨0,0,0⟩ (.slice rows .no) (.slice [] (.own (HN A B+6))) (.slice [] (.own (HN A B+7))) false)):=fun a d z0 nm rows j C hj =>
  Fo hB rfl (by
   have:¬j < 8:=by omega
   simp [sC,this])
 simp only [sC,ae7,ah4,ab9] at htr htr2 htr3
 by_cases hk:(tk L a).kind=1
 ·have ha1:=p8 (k:=1) hK ha (by decide) hk
  cases s1:isS (tk L (a+1)) [40]
  ·cases s2:isS (tk L (a+1)) [91]
   ·cases s3:isS (tk L (a+1)) [61]
    ·rw [show pN L (n+1) pos a d=.bad 10 (tk L (a+1)).pos (a+1) d by simp [pN,hk,s1,s2,s3]]
     refine⟨sC A B 0 pos 0 (tk L a).text ⟨0,0,0⟩ (.slice [] (.own (HN A B+5))) (.slice [] (.own (HN A B+6))) (.slice [] (.own (HN A B+7))) false,ev _ ?_⟩
     simp -implicitDefEqProofs [Jd,sC,ha,hB,h139,hk,ha1,h178,h138,s1,s2,s3,rE,htr]
    ·have ha2:=mS hK ha1 s3
     cases q:Br L (n+1) (a+1+1) d with
     | bad e p a2 d2 =>
      rw [show pN L (n+1) pos a d=.bad e p a2 d2 by simp [pN,hk,s1,s2,s3,q]]
      refine⟨sC A B 0 pos 0 (tk L a).text ⟨0,0,0⟩ (.slice [] (.own (HN A B+5))) (.slice [] (.own (HN A B+6))) (.slice [] (.own (HN A B+7))) false,ev _ ?_⟩
      simp -implicitDefEqProofs [Jd,sC,ha,hB,h139,hk,ha1,h178,h138,s1,s2,s3,ha2,h229,hd,q,rE,htr]
     | ok l a2 d2 =>
      rw [show pN L (n+1) pos a d=.ok (.mk 3 pos 0 (tk L a).text ⟨0,0,0⟩ l [] [] false) a2 d2 by simp [pN,hk,s1,s2,s3,q]]
      refine⟨3,(tk L a).text,l,rfl,ev _ ?_⟩
      simp -implicitDefEqProofs [Jd,sC,ha,hB,h139,hk,ha1,h178,h138,s1,s2,s3,ha2,h229,hd,q,lZ,htr2]
   ·have hB':KB A (B++(sC A B 4 pos 0 (tk L a).text ⟨0,0,0⟩ (.slice [] (.own (HN A B+5))) (.slice [] (.own (HN A B+6))) (.slice [] (.own (HN A B+7))) false++[.cells (tk L a).cells])):=hB.app (by simp [sC])
    have i1:=aEr hL hK he hg ha1 hd hB'
    simp only [sC,Token.cells,ae7,ah4,hk,ab9] at i1
    cases q3:uT L (BX L n) (a+1) d with
    | bad e p a3 d3 =>
     rw [show pN L (n+1) pos a d=.bad e p a3 d3 by simp [pN,hk,s1,s2,q3]]
     rw [q3] at i1
     refine⟨sC A B 4 pos 0 (tk L a).text ⟨0,0,0⟩ (.slice [] (.own (HN A B+5))) (.slice [] (.own (HN A B+6))) (.slice [] (.own (HN A B+7))) false,ev _ ?_⟩
     simp -implicitDefEqProofs [Jd,sC,ha,hB,h139,hk,ha1,h178,s1,s2,i1,rE,htr]
    | ok l a3 d3 =>
     rw [q3] at i1
     obtain⟨x,rfl,i2⟩:=i1
     obtain⟨g1,g2,g3⟩:=(Hx hK hg) _ _ _ _ _ q3 ha1
     have g3:d=d3:=g3.symm
     subst g3
     simp -implicitDefEqProofs only [C_,ac1,ac6,ag1,ae7,ah4,amK] at i2
     simp at i2
     cases s3:isS (tk L a3) [61]
     ·rw [show pN L (n+1) pos a d=.bad 10 (tk L a3).pos a3 d by simp [pN,hk,s1,s2,q3,s3]]
      refine⟨sC A B 4 pos 0 (tk L a).text ⟨0,0,0⟩ (.slice [] (.own (HN A B+5))) (.slice [] (.own (HN A B+6))) (.slice [] (.own (HN A B+7))) false,ev _ ?_⟩
      simp -implicitDefEqProofs [Jd,sC,ha,hB,h139,hk,ha1,h178,s1,s2,i2,g2,h138,s3,rE,htr]
     ·have ha4:=mS hK g2 s3
      cases q:Br L (n+1) (a3+1) d with
      | bad e p a2 d2 =>
       rw [show pN L (n+1) pos a d=.bad e p a2 d2 by simp [pN,hk,s1,s2,q3,s3,q]]
       refine⟨sC A B 4 pos 0 (tk L a).text ⟨0,0,0⟩ (.slice [] (.own (HN A B+5))) (.slice [] (.own (HN A B+6))) (.slice [] (.own (HN A B+7))) false,ev _ ?_⟩
       simp -implicitDefEqProofs [Jd,sC,ha,hB,h139,hk,ha1,h178,s1,s2,i2,g2,h138,s3,ha4,h229,hd,q,rE,htr]
      | ok l a2 d2 =>
       rw [show pN L (n+1) pos a d=.ok (.mk 4 pos 0 (tk L a).text ⟨0,0,0⟩ ([x]++l) [] [] false) a2 d2 by simp [pN,hk,s1,s2,q3,s3,q]]
       refine⟨4,(tk L a).text,[x]++l,rfl,ev _ ?_⟩
       have hlen:l.length=1:=by
        revert q
        simp only [Br,mL,PM.bind]
        cases BX L (n+1) (a3+1) d with
        | bad=>intro q; cases q
        | ok y a5 d5 =>
         simp only [oR]
         split
         ·rename_i v a' d' h; split at h
          ·cases h; intro q; cases q; rfl
          ·cases h
         ·intro q; cases q
       have b2:=DQ (A:=A) (B:=B) (L:=L) (a:=a2) (d:=d2) (C:=sC A B 4 pos 0 (tk L a).text ⟨0,0,0⟩ (.slice [] (.own (HN A B+5))) (.slice [] (.own (HN A B+6))) (.slice [] (.own (HN A B+7))) false++[.cells [.int .i64 1,.int .i64 ((tk L a).pos:Int),.int .i64 ((tk L a).num:Int),.str (tk L a).text],.front 0 0,.cells x.cells,.front 0 0,.front 1 5]) (k:=12) (rows:=[x.cells]) (new:=l.map XE.cells) (sz:=5) (by_:=64) (sz':=5) (t:=.no) rfl (.inl rfl) (by simp) (by intro h; simp at h; rw [h] at hlen; cases hlen) (by simp [hlen]) (by simp [hlen])
       simp only [sC,List.length_singleton,aj1,hlen,ae7,ah4,List.set_cons_succ,List.set_cons_zero,ab9] at b2
       simp -implicitDefEqProofs [Jd,sC,ha,hB,h139,hk,ha1,h178,s1,s2,i2,g2,h138,s3,ha4,h229,hd,q,b2,lZ,htr3]
  ·have hB':KB A (B++(sC A B 7 pos 0 [] ⟨0,0,0⟩ (.slice [] (.own (HN A B+5))) (.slice [] (.own (HN A B+6))) (.slice [] (.own (HN A B+7))) false++[.cells (tk L a).cells])):=hB.app (by simp [sC])
   have i1:=h250 (tk L a) A _ (a+1) d ha1 hd hB'
   simp only [sC,Token.cells,ae7,ah4,hk,ab9] at i1
   cases q3:zQ L (BX L n) (tk L a) (a+1) d with
   | bad e p a3 d3 =>
    rw [show pN L (n+1) pos a d=.bad e p a3 d3 by simp [pN,hk,s1,q3]]
    rw [q3] at i1
    refine⟨sC A B 7 pos 0 [] ⟨0,0,0⟩ (.slice [] (.own (HN A B+5))) (.slice [] (.own (HN A B+6))) (.slice [] (.own (HN A B+7))) false,ev _ ?_⟩
    simp -implicitDefEqProofs [Jd,sC,ha,hB,h139,hk,ha1,h178,s1,i1,rE,htr]
   | ok x a3 d3 =>
    rw [q3] at i1
    obtain⟨g1,g2,g3⟩:=(RD hK hg) _ _ _ _ _ q3 ha1
    cases s3:isS (tk L a3) [59]
    ·rw [show pN L (n+1) pos a d=.bad 10 (tk L a3).pos a3 d3 by simp [pN,hk,s1,q3,s3]]
     refine⟨sC A B 7 pos 0 [] ⟨0,0,0⟩ (.slice [x.cells] .no) (.slice [] (.own (HN A B+6))) (.slice [] (.own (HN A B+7))) false,ev _ ?_⟩
     simp -implicitDefEqProofs [Jd,sC,ha,hB,h139,hk,ha1,h178,s1,i1,g2,h138,s3,rE,htr3]
    ·rw [show pN L (n+1) pos a d=.ok (.mk 7 pos 0 [] ⟨0,0,0⟩ [x] [] [] false) (a3+1) d3 by simp [pN,hk,s1,q3,s3]]
     refine⟨7,[],[x],rfl,ev _ ?_⟩
     simp -implicitDefEqProofs [Jd,sC,ha,hB,h139,hk,ha1,h178,s1,i1,g2,h138,s3,lZ,htr3]
 ·rw [show pN L (n+1) pos a d=.bad 10 (tk L a).pos a d by simp [pN,hk]]
  refine⟨sC A B 0 pos 0 [] ⟨0,0,0⟩ (.slice [] (.own (HN A B+5))) (.slice [] (.own (HN A B+6))) (.slice [] (.own (HN A B+7))) false,ev _ ?_⟩
  simp -implicitDefEqProofs [Jd,sC,ha,hB,h139,hk,rE,htr]
end
end
section
open Go Hk
section
variable {x:XS}{n m:Nat}{h:kP}
@[simp] theorem aLg:x.cells.length=11:=XS.row.len x
end
def Sw (x:XS):kM:=.agg x.cells
def Ac (l:List XS):kM:=.slice (l.map XS.cells) .no
attribute [simp] Sw Ac
section
variable {L:List Token}(hL:L.length≤131072) (hK:rF L)
include hL hK
set_option maxHeartbeats 1000000 in
theorem d182 {n:Nat}{bl:PM (List XS)}(hb:qP L (dk (n+1)) 110 [] Ac bl) (hgb:mD L 1 (fun d=>d) bl):qP L (dk (n+1)) 154 [] Sw (uK L bl (n+1)):=by
 intro A B a d ha hd hB
 have h230:=Wm hL hK (n+1)
 have hge:=Dd hK (n+1)
 have h76:=d76 (L:=L)
 have h143:=d143 hL
 have h138:=d138 hL
 have h139:=fun k=>d139 hL k
 have h145:=d145 hL
 have h180:=d180 hL hK
 have h229:=d229 hL hK (n+1)
 have hgd:=Kp hK (n+1)
 unfold qP at h230 h76 h143 h138 h139 h145 h180 h229 hb
 have h1391:=h139 1
 have h1392:=h139 2
 simp only [ab9] at h1391 h1392
 refine lA (aqY _ _ _) ?_
 simp -implicitDefEqProofs [aFg,uK,ha,hB,h76,h143]
 cases s1:isS (tk L a) [108,101,116]
 ·simp -implicitDefEqProofs [ha,hB,h143]
  cases s2:isS (tk L a) [118,97,114]
  ·simp -implicitDefEqProofs [ha,hB,h143]
   cases s3:isS (tk L a) [105,102]
   ·simp -implicitDefEqProofs [ha,hB,h143]
    cases s4:isS (tk L a) [102,111,114]
    ·simp -implicitDefEqProofs [ha,hB,h143]
     cases s5:isS (tk L a) [114,101,116,117,114,110]
     ·have i1:=aJd hL hK (A:=A) (B:=B) (pos:=(tk L a).pos) ha hd hB
      simp only [sC,ab9] at i1
      simp -implicitDefEqProofs [hB]
      cases q:pN L (n+1) (tk L a).pos a d with
      | bad e p a1 d1 =>
       rw [q] at i1
       obtain⟨C,i2⟩:=i1
       simp -implicitDefEqProofs [hB,i2]
      | ok s a1 d1 =>
       rw [q] at i1
       obtain⟨k,name,args,rfl,i2⟩:=i1
       simp -implicitDefEqProofs [hB,i2,XS.cells,XS.rows]
     ·have ha1:=mS hK ha s5
      simp -implicitDefEqProofs [hB,ha1,hd,h229]
      cases q:Br L (n+1) (a+1) d with
      | bad e p a1 d1=>simp -implicitDefEqProofs [hB]
      | ok l a1 d1=>simp -implicitDefEqProofs [hB,XS.cells,XS.rows]
    ·have ha1:=mS hK ha s4
     simp -implicitDefEqProofs [hB,ha1,h1391]
     by_cases k1:(tk L (a+1)).kind=1
     ·have ha2:=p8 (k:=1) hK ha1 (by decide) k1
      simp -implicitDefEqProofs [hB,k1,ha2,h138]
      cases t1:isS (tk L (a+1+1)) [60]
      ·simp -implicitDefEqProofs [hB]
      ·have ha3:=mS hK ha2 t1
       simp -implicitDefEqProofs [hB,ha3,h230,hd]
       cases q:BX L (n+1) (a+1+1+1) d with
       | bad e p a4 d4=>simp -implicitDefEqProofs [hB]
       | ok x a4 d4 =>
        obtain⟨g1,g2,g3⟩:=hge _ _ _ _ _ q ha3
        have g3:d=d4:=g3.symm
        subst g3
        simp -implicitDefEqProofs [hB,g2,h138]
        cases t2:isS (tk L a4) [109,97,120]
        ·simp -implicitDefEqProofs [hB]
        ·have ha5:=mS hK g2 t2
         simp -implicitDefEqProofs [hB,ha5,h1392]
         by_cases k2:(tk L (a4+1)).kind=2
         ·have ha6:=p8 (k:=2) hK ha5 (by decide) k2
          simp -implicitDefEqProofs [hB,k2,ha6,hb,hd]
          cases q2:bl (a4+1+1) d with
          | bad e p a7 d7=>simp -implicitDefEqProofs [hB]
          | ok l a7 d7=>simp -implicitDefEqProofs [hB,XS.cells,XS.rows,XS.nN]
         ·simp -implicitDefEqProofs [hB,k2]
     ·simp -implicitDefEqProofs [hB,k1]
   ·have ha1:=mS hK ha s3
    simp -implicitDefEqProofs [hB,ha1,h230,hd]
    cases q:BX L (n+1) (a+1) d with
    | bad e p a4 d4=>simp -implicitDefEqProofs [hB]
    | ok x a4 d4 =>
     obtain⟨g1,g2,g3⟩:=hge _ _ _ _ _ q ha1
     have g3:d=d4:=g3.symm
     subst g3
     simp -implicitDefEqProofs [hB,g2,hb,hd]
     cases q2:bl a4 d with
     | bad e p a5 d5=>simp -implicitDefEqProofs [hB]
     | ok l a5 d5 =>
      obtain⟨j1,j2,j3⟩:=hgb _ _ _ _ _ q2 g2
      have j3:d=d5:=j3.symm
      subst j3
      simp -implicitDefEqProofs [hB,j2,h143]
      cases t1:isS (tk L a5) [101,108,115,101]
      ·simp -implicitDefEqProofs [hB,XS.cells,XS.rows,XS.nN]
      ·have ha6:=mS hK j2 t1
       simp -implicitDefEqProofs [hB,ha6,hb,hd]
       cases q3:bl (a5+1) d with
       | bad e p a7 d7=>simp -implicitDefEqProofs [hB]
       | ok l2 a7 d7=>simp -implicitDefEqProofs [hB,XS.cells,XS.rows,XS.nN]
  ·have ha1:=mS hK ha s2
   simp -implicitDefEqProofs [hB,ha1,h145]
   cases q:sP L (a+1) d with
   | bad e p a2 d2=>simp -implicitDefEqProofs [hB]
   | ok lab a2 d2 =>
    obtain⟨g1,g2,g3⟩:=BN hK _ _ _ _ _ q ha1
    have g3:d=d2:=g3.symm
    subst g3
    simp -implicitDefEqProofs [hB,g2,h1391]
    by_cases k1:(tk L a2).kind=1
    ·have ha3:=p8 (k:=1) hK g2 (by decide) k1
     simp -implicitDefEqProofs [hB,k1,ha3,h138]
     cases t1:isS (tk L (a2+1)) [58]
     ·simp -implicitDefEqProofs [hB]
     ·have ha4:=mS hK ha3 t1
      simp -implicitDefEqProofs [hB,ha4,h180]
      cases q2:vI L lab (a2+1+1) d with
      | bad e p a5 d5=>simp -implicitDefEqProofs [hB]
      | ok ty a5 d5 =>
       obtain⟨j1,j2,j3⟩:=Hy hK _ _ _ _ _ q2 ha4
       simp -implicitDefEqProofs [hB,j2,h138]
       cases t2:isS (tk L a5) [59] <;> simp -implicitDefEqProofs [hB,XS.cells,XS.rows]
    ·simp -implicitDefEqProofs [hB,k1]
 ·have ha1:=mS hK ha s1
  simp -implicitDefEqProofs [hB,ha1,h1391]
  by_cases k1:(tk L (a+1)).kind=1
  ·have ha2:=p8 (k:=1) hK ha1 (by decide) k1
   simp -implicitDefEqProofs [hB,k1,ha2,h138]
   cases t1:isS (tk L (a+1+1)) [61]
   ·simp -implicitDefEqProofs [hB]
   ·have ha3:=mS hK ha2 t1
    simp -implicitDefEqProofs [hB,ha3,h229,hd]
    cases q:Br L (n+1) (a+1+1+1) d with
    | bad e p a4 d4=>simp -implicitDefEqProofs [hB]
    | ok l a4 d4=>simp -implicitDefEqProofs [hB,XS.cells,XS.rows]
  ·simp -implicitDefEqProofs [hB,k1]
end
end
section
open Go Hk
theorem acQ {L:List Token}{stmt:PM XS}{m a d:Nat}{l:List XS}:vX L stmt (m+1) l a d=if isS (tk L a) [125]=true then .ok l a d else match stmt a d with
  | .bad e p a1 d1=>.bad e p a1 d1
  | .ok x a1 d1=>vX L stmt m (l++[x]) a1 d1:=by
 rw [vX]
 simp only [mL,PM.bind,GV]
 cases h:isS (tk L a) [125]
 ·simp only [al9,if_false,PM.bind]
  cases stmt a d <;> rfl
 ·simp [y6]
section
variable {L:List Token}(hL:L.length≤131072) (hK:rF L)
include hL hK
omit hK in
theorem aaW {n:Nat}{st:PM XS}(hs:qP L (dk n) 154 [] Sw st) (hg:mD L 1 (fun d=>d) st) {A B:List lG}{d:Nat}(hB:KB A B) (hd:dk n d) (m:Nat) (l:List XS) (a:Nat) (ha:a < L.length) (hm:L.length < a+m) (hl:l.length≤a) :
  ∃r,mJ (Lo KK (HN A B+2)) ([.ptr A.length 0,.slice [] (.own (HN A B)),.slice (l.map XS.cells) (.own (HN A B+1))],HQ A L a d (B++[.front 0 0,.front l.length (rY l.length 11)]))=some r ∧
   match vX L st m l a d with
   | .ok l' a' d'=>r=(.exit 0,[.ptr A.length 0,.slice [] (.own (HN A B)),.slice (l'.map XS.cells) (.own (HN A B+1))],HQ A L a' d' (B++[.front 0 0,.front l'.length (rY l'.length 11)]))
   | .bad e p a' d'=>∃vs C,r=(.pan (p9 e p),vs,HQ A L a' d' (B++C)):=by
 have h178:=d178 (L:=L)
 unfold qP at h178 hs
 refine DD (σ:=List XS×Nat×Nat) (fun s=>([.ptr A.length 0,.slice [] (.own (HN A B)),.slice (s.1.map XS.cells) (.own (HN A B+1))],HQ A L s.2.1 d (B++[.front 0 0,.front s.1.length (rY s.1.length 11)])))
  (fun s=>s.2.1 < L.length∧L.length < s.2.1+s.2.2∧s.1.length≤s.2.1) (fun s=>s.2.2)
  (fun s r=>match vX L st s.2.2 s.1 s.2.1 d with
   | .ok l' a' d'=>r=(.exit 0,[.ptr A.length 0,.slice [] (.own (HN A B)),.slice (l'.map XS.cells) (.own (HN A B+1))],HQ A L a' d' (B++[.front 0 0,.front l'.length (rY l'.length 11)]))
   | .bad e p a' d'=>∃vs C,r=(.pan (p9 e p),vs,HQ A L a' d' (B++C))) ?_ (l,a,m) ⟨ha,hm,hl⟩
 rintro⟨l,a,m⟩ ⟨ha,hm,hl⟩
 simp only at ha hm hl
 obtain⟨m,rfl⟩:∃j,m=j+1:=⟨m - 1,by omega⟩
 have hsp:∀h,kM.vK (HN A B+2) h (.ptr A.length 0)=.ptr A.length 0:=fun h=>uA C9
 have hKB:∀x y,KB A (B++[.front 0 0,.front x y]):=fun x y=>hB.app (by simp)
 have htr:∀a d x y C,l_ (HN A B+2) (HQ A L a d (B++(.front 0 0::.front x y::C)))=some (HQ A L a d (B++[.front 0 0,.front x y])):=fun a d x y C=>by
  have:=zG (L:=L) (a:=a) (d:=d) (A:=A) (B:=B) (C:=.front 0 0::.front x y::C) (k:=2) (by simpa using hKB x y) (by simp)
  simpa using this
 have hfst:Lo KK (HN A B+2) ([.ptr A.length 0,.slice [] (.own (HN A B)),.slice (l.map XS.cells) (.own (HN A B+1))],HQ A L a d (B++[.front 0 0,.front l.length (rY l.length 11)])) =
   if isS (tk L a) [125]=true then some (.exit 0,[.ptr A.length 0,.slice [] (.own (HN A B)),.slice (l.map XS.cells) (.own (HN A B+1))],HQ A L a d (B++[.front 0 0,.front l.length (rY l.length 11)]))
   else match st a d with
   | .bad e p a1 d1=>some (.pan (p9 e p),[.ptr A.length 0,.slice [] (.own (HN A B)),.slice (l.map XS.cells) (.own (HN A B+1))],HQ A L a1 d1 (B++[.front 0 0,.front l.length (rY l.length 11)]))
   | .ok x a1 d1=>some (.normal,[.ptr A.length 0,.slice [] (.own (HN A B)),.slice ((l++[x]).map XS.cells) (.own (HN A B+1))],HQ A L a1 d (B++[.front 0 0,.front (l++[x]).length 11])):=by
  simp -implicitDefEqProofs [Lo,ha,hB,h178]
  cases h1:isS (tk L a) [125]
  ·simp -implicitDefEqProofs [ha,hB,hs,hd]
   cases q:st a d with
   | bad e p a1 d1=>simp -implicitDefEqProofs [kT,htr,hsp]
   | ok x a1 d1 =>
    obtain⟨g1,g2,g3⟩:=hg a d _ _ _ q ha
    have g3:d=d1:=g3.symm
    subst g3
    have b1:=wO (zero:=[.int .i64 0,.int .i64 0,.int .i64 0,.str [],.int .i64 0,.int .i64 0,.int .i64 0,.slice [] .nil,.slice [] .nil,.slice [] .nil,.bool false]) (h:=HQ A L a1 d (B++[.front 0 0,.front l.length (rY l.length 11)])) (XS.row.len x) rfl (XS.row.pure x) (XS.row.ok x)
    have b2:=DQ (A:=A) (B:=B) (L:=L) (a:=a1) (d:=d) (C:=[.front 0 0,.front l.length (rY l.length 11),.front 1 11]) (k:=1) (rows:=l.map XS.cells) (new:=[x.cells]) (sz:=11) (by_:=144) (sz':=rY l.length 11) (t:=.own (HN A B+2)) (by simp) (by rw [aj1]; exact AN _ _) (by simp) (by simp) (by simp; omega) (by simp; omega)
    simp only [aj1,List.length_singleton,List.set_cons_succ,List.set_cons_zero] at b2
    simp -implicitDefEqProofs [b1,b2,kT,htr,hsp]
  ·simp -implicitDefEqProofs [kT,htr,hsp]
 rw [hfst]
 simp only [acQ]
 cases h1:isS (tk L a) [125] with
 | true =>
  right
  exact⟨_,by simp only [if_true]; rfl,by simp,by simp only [if_true]⟩
 | false =>
  simp only [al9,if_false]
  cases q:st a d with
  | bad e p a1 d1 =>
   right
   exact⟨_,rfl,by simp,_,_,rfl⟩
  | ok x a1 d1 =>
   obtain⟨g1,g2,g3⟩:=hg a d _ _ _ q ha
   have g3:d=d1:=g3.symm
   subst g3
   left
   refine⟨(l++[x],a1,m),?_,⟨g2,by simp; omega,by simp; omega⟩,by simp,fun r hr=>hr⟩
   simp [rH]
theorem d146 {n:Nat}(hs:qP L (dk n) 154 [] Sw (uK L (sB L n) n)) (hg:mD L 1 (fun d=>d) (uK L (sB L n) n)):qP L (dk (n+1)) 110 [] Ac (sB L (n+1)):=by
 intro A B a d ha hd hB
 have h181:=d181 hL
 have h183:=d183 hL
 unfold qP at h181 h183
 have hd64:=hd.2
 refine lA (ap2 _ _ _) ?_
 simp -implicitDefEqProofs [aE4,sB,ha,hB,h181,hd64]
 cases s1:isS (tk L a) [123]
 ·simp -implicitDefEqProofs [hB]
 ·have ha1:=mS hK ha s1
  by_cases h64:d=64
  ·simp -implicitDefEqProofs [hB,h64]
  ·have hd1:=hd.up h64
   obtain⟨r,h1,h2⟩:=aaW hL hs hg hB hd1 131073 [] (a+1) ha1 (by omega) (ah8 _)
   simp only [al1,ac6,rB] at h1
   simp -implicitDefEqProofs [hB,h64,h1]
   cases q:vX L (uK L (sB L n) n) 131073 [] (a+1) (d+1) with
   | bad e p a2 d2 =>
    rw [q] at h2
    obtain⟨vs,C,rfl⟩:=h2
    simp -implicitDefEqProofs [hB]
   | ok l a2 d2 =>
    rw [q] at h2
    subst h2
    obtain⟨g1,g2,g3⟩:=Lg hg _ _ _ _ _ _ _ q ha1
    have g3:d2=d+1:=g3
    subst g3
    have h65:d≤64:=by omega
    simp -implicitDefEqProofs [hB,g2,h183,h65]
    cases s2:isS (tk L a2) [125] <;> simp -implicitDefEqProofs [hB]
theorem afH:∀n,qP L (dk n) 110 [] Ac (sB L n)
 | 0=>fun A B a d ha hd=>by have h1:=hd.1; have h2:=hd.2; omega
 | 1=>d146 hL hK (fun A B a d ha hd=>by have h1:=hd.1; have h2:=hd.2; omega) (RH hK (BL hK 0) 0)
 | n+2=>d146 hL hK (d182 hL hK (afH (n+1)) (BL hK (n+1))) (RH hK (BL hK (n+1)) (n+1))
def XF.cells (f:XF):List kM:=[.int .i64 (f.pos:Int),.str f.name,.slice (f.params.map XP.cells) .no,.bool f.has,.int .i64 (f.result.elem:Int),.int .i64 (f.result.len:Int),.int .i64 (f.result.label:Int),.slice (f.body.map XS.cells) .no]
def aoQ (f:XF):kM:=.agg f.cells
attribute [simp] aoQ
omit hL hK in
theorem XF.row:XY XF.cells 8:=⟨fun _=>rfl,fun _=>rfl,fun _=>rfl⟩
set_option maxHeartbeats 1000000 in
theorem d77:qP L (fun d=>d=0) 52 [] aoQ (wJ L):=by
 intro A B a d ha hd hB
 subst hd
 have h138:=d138 hL
 have h139:=d139 hL 1
 have h143:=d143 hL
 have h145:=d145 hL
 have h144:=fun l=>d144 hL l
 have h146:=afH hL hK 65
 have hd0:dk 65 0:=⟨rfl,by omega⟩
 unfold qP at h138 h139 h143 h145 h144 h146
 simp only [ab9] at h139
 refine lA (aAU _ _ _) ?_
 simp -implicitDefEqProofs [m52,wJ,ha,hB,h138,C9,F7]
 cases s1:isS (tk L a) [102,110]
 ·simp -implicitDefEqProofs [hB]
 ·have ha1:=mS hK ha s1
  simp -implicitDefEqProofs [hB,ha1,h139,C9,F7]
  by_cases k1:(tk L (a+1)).kind=1
  ·have ha2:=p8 (k:=1) hK ha1 (by decide) k1
   simp -implicitDefEqProofs [hB,k1,ha2,h138,C9,F7]
   cases s2:isS (tk L (a+1+1)) [40]
   ·simp -implicitDefEqProofs [hB]
   ·have ha3:=mS hK ha2 s2
    have hB':KB A (B++[.cells [.ptr A.length 0],.cells [.int .i64 0,.str [],.slice [] (.own (HN A B+2)),.bool false,.int .i64 0,.int .i64 0,.int .i64 0,.slice [] (.own (HN A B+3))],.front 0 0,.front 0 0,
     .cells [.int .i64 1,.int .i64 ((tk L (a+1)).pos:Int),.int .i64 ((tk L (a+1)).num:Int),.str (tk L (a+1)).text],
     .cells [.int .i64 ((tk L (a+1)).pos:Int),.str (tk L (a+1)).text,.slice [] (.own (HN A B+6)),.bool false,.int .i64 0,.int .i64 0,.int .i64 0,.slice [] (.own (HN A B+7))],.front 0 0,.front 0 0]):=hB.app (by simp [C9])
    have h140:=d140 hL hK (one:=uZ L) (d:=0) [41] (Hz hK) ha3 hB' Has.new (fun C a ha hB=>aIQ hL hK Has.new.app ha hB)
    simp -implicitDefEqProofs [hB,h140]
    cases q:yW L [41] (uZ L) (a+1+1+1) 0 with
    | bad e p a4 d4=>simp -implicitDefEqProofs [hB]
    | ok ps a4 d4 =>
     obtain⟨g1,g2,g3⟩:=Gy hK (Hz hK) _ _ _ _ _ q ha3
     have g3:d4=0:=g3
     subst g3
     simp -implicitDefEqProofs [hB,g2,h138,C9,F7]
     cases s3:isS (tk L a4) [41]
     ·simp -implicitDefEqProofs [hB]
     ·have ha5:=mS hK g2 s3
      simp -implicitDefEqProofs [hB,ha5,h143,C9,F7]
      cases s4:isS (tk L (a4+1)) [58]
      ·simp -implicitDefEqProofs [hB,ha5,h146,hd0,C9,F7]
       cases q2:sB L 65 (a4+1) 0 with
       | bad e p a6 d6=>simp -implicitDefEqProofs [hB]
       | ok b a6 d6=>simp -implicitDefEqProofs [hB,XF.cells]
      ·have ha6:=mS hK ha5 s4
       simp -implicitDefEqProofs [hB,ha6,h145,C9,F7]
       cases q3:sP L (a4+1+1) 0 with
       | bad e p a7 d7=>simp -implicitDefEqProofs [hB]
       | ok lab a7 d7 =>
        obtain⟨j1,j2,j3⟩:=BN hK _ _ _ _ _ q3 ha6
        have j3:d7=0:=j3
        subst j3
        simp -implicitDefEqProofs [hB,j2,h144,C9,F7]
        cases q4:qO L lab a7 0 with
        | bad e p a8 d8=>simp -implicitDefEqProofs [hB]
        | ok ty a8 d8 =>
         obtain⟨k1,k2,k3⟩:=ES hK _ _ _ _ _ q4 j2
         have k3:d8=0:=k3
         subst k3
         simp -implicitDefEqProofs [hB,k2,h146,hd0,C9,F7]
         cases q2:sB L 65 a8 0 with
         | bad e p a6 d6=>simp -implicitDefEqProofs [hB]
         | ok b a6 d6=>simp -implicitDefEqProofs [hB,XF.cells]
  ·simp -implicitDefEqProofs [hB,k1]
end
end
section
open Go Hk
section
variable {x:XF}{n m:Nat}{h:kP}
@[simp] theorem aLe:x.cells.length=8:=rfl
@[simp] theorem aHb:kY 1 8 [.int .i64 0,.str [],.slice [] .nil,.bool false,.int .i64 0,.int .i64 0,.int .i64 0,.slice [] .nil] [(0,.agg x.cells)] h=some (.slice [x.cells] (.own h.length),h++[.front 1 8]) :=
 wO (XF.row.len x) rfl (XF.row.pure x) (XF.row.ok x)
end
def hP (e p:Nat) (l:List XF) (n sz:Nat) (L:List Token) (a d:Nat) (C:List lG):kP :=
 .cells [.slice (l.map XF.cells) (.own 1)]::.front n sz::.cells [.int .i64 (e:Int),.int .i64 (p:Int)]::PB L a d::C
theorem acO {L:List Token}{m a d:Nat}{l:List XF}:o7 L (m+1) l a d=if (tk L a).kind=0 then .ok l a d else match wJ L a d with
  | .bad e p a1 d1=>.bad e p a1 d1
  | .ok x a1 d1=>o7 L m (l++[x]) a1 d1:=by
 rw [o7]
 simp only [mL,PM.bind,oQ]
 by_cases h:(tk L a).kind=0
 ·simp [h,y6]
 ·simp only [h,if_false,PM.bind]
  cases wJ L a d <;> rfl
section
variable {L:List Token}(hL:L.length≤131072) (hK:rF L)
include hL hK
omit hL hK in
theorem agX {e p:Int}{rows:List (List kM)}{n sz a d:Nat}{C:List lG}:l_ 4 (.cells [.slice rows (.own 1)]::.front n sz::.cells [.int .i64 e,.int .i64 p]::PB L a d::C)=some [.cells [.slice rows (.own 1)],.front n sz,.cells [.int .i64 e,.int .i64 p],PB L a d]:=by
 simp [l_,PB]
theorem af2 (e0 p0:Nat) (m:Nat) (l:List XF) (a:Nat) (ha:a < L.length) (hm:L.length < a+m) (hl:l.length≤a) :
  ∃r,mJ (Nv KK 4) ([.ptr 0 0,.ptr 2 0,.ptr 3 0],hP e0 p0 l l.length (rY l.length 8) L a 0 [])=some r ∧
   match o7 L m l a 0 with
   | .ok l' a' d'=>r=(.exit 0,[.ptr 0 0,.ptr 2 0,.ptr 3 0],hP e0 p0 l' l'.length (rY l'.length 8) L a' d' [])
   | .bad e p a' d'=>∃l':List XF,r=(.pan (p9 e p),[.ptr 0 0,.ptr 2 0,.ptr 3 0],hP e0 p0 l' l'.length (rY l'.length 8) L a' d' []):=by
 refine DD (σ:=List XF×Nat×Nat) (fun s=>([.ptr 0 0,.ptr 2 0,.ptr 3 0],hP e0 p0 s.1 s.1.length (rY s.1.length 8) L s.2.1 0 []))
  (fun s=>s.2.1 < L.length∧L.length < s.2.1+s.2.2∧s.1.length≤s.2.1) (fun s=>s.2.2)
  (fun s r=>match o7 L s.2.2 s.1 s.2.1 0 with
   | .ok l' a' d'=>r=(.exit 0,[.ptr 0 0,.ptr 2 0,.ptr 3 0],hP e0 p0 l' l'.length (rY l'.length 8) L a' d' [])
   | .bad e p a' d'=>∃l':List XF,r=(.pan (p9 e p),[.ptr 0 0,.ptr 2 0,.ptr 3 0],hP e0 p0 l' l'.length (rY l'.length 8) L a' d' [])) ?_ (l,a,m) ⟨ha,hm,hl⟩
 rintro⟨l,a,m⟩ ⟨ha,hm,hl⟩
 simp only at ha hm hl
 obtain⟨m,rfl⟩:∃j,m=j+1:=⟨m - 1,by omega⟩
 have hKB:KB [.cells [.slice (l.map XF.cells) (.own 1)],.front l.length (rY l.length 8),.cells [.int .i64 (e0:Int),.int .i64 (p0:Int)]] []:=⟨fun n hn=>by simp [HN] at hn ⊢; omega,fun n hn=>by simp⟩
 have hKB2:KB [.gone,.front l.length (rY l.length 8),.cells [.int .i64 (e0:Int),.int .i64 (p0:Int)]] []:=⟨fun n hn=>by simp,fun n hn=>by simp⟩
 have h76:=d76 (L:=L) _ _ a 0 ha trivial hKB
 have h77:=d77 hL hK _ _ a 0 ha rfl hKB2
 simp only [oQ,ajU,zC,HQ,ac1,ac6,ae7,ah4] at h76 h77
 have htr:=fun e p rows n sz a d C=>agX (L:=L) (e:=e) (p:=p) (rows:=rows) (n:=n) (sz:=sz) (a:=a) (d:=d) (C:=C)
 have s1:∀h,kM.vK 4 h (.ptr 0 0)=.ptr 0 0:=fun h=>uA (by omega)
 have s2:∀h,kM.vK 4 h (.ptr 2 0)=.ptr 2 0:=fun h=>uA (by omega)
 have s3:∀h,kM.vK 4 h (.ptr 3 0)=.ptr 3 0:=fun h=>uA (by omega)
 have hfst:Nv KK 4 ([.ptr 0 0,.ptr 2 0,.ptr 3 0],hP e0 p0 l l.length (rY l.length 8) L a 0 []) =
   if (tk L a).kind=0 then some (.exit 0,[.ptr 0 0,.ptr 2 0,.ptr 3 0],hP e0 p0 l l.length (rY l.length 8) L a 0 [])
   else match wJ L a 0 with
   | .bad e p a1 d1=>some (.pan (p9 e p),[.ptr 0 0,.ptr 2 0,.ptr 3 0],hP e0 p0 l l.length (rY l.length 8) L a1 d1 [])
   | .ok x a1 d1=>some (.normal,[.ptr 0 0,.ptr 2 0,.ptr 3 0],hP e0 p0 (l++[x]) (l++[x]).length 8 L a1 0 []):=by
  by_cases h0:(tk L a).kind=0
  ·have h0':((tk L a).kind:Int)=0:=by omega
   simp -implicitDefEqProofs [Nv,hP,h76,h0,kT,htr,s1,s2,s3]
  ·have h0':¬((tk L a).kind:Int)=0:=by omega
   simp -implicitDefEqProofs [Nv,hP,h76,h0,h0',h77]
   cases q:wJ L a 0 with
   | bad e p a1 d1=>simp -implicitDefEqProofs [HQ,kT,htr,s1,s2,s3,hP]
   | ok x a1 d1 =>
    obtain⟨g1,g2,g3⟩:=(MX hK) _ _ _ _ _ q ha
    have g3:d1=0:=g3
    subst g3
    have b2:∀(u:List lG),mH 8 104 (.cells [.slice (l.map XF.cells) (.own 1)]::.front l.length (rY l.length 8)::u) (.slice (l.map XF.cells) (.own 1)) (.slice [x.cells] (.own 4)) =
      some (.slice (l.map XF.cells++[x.cells]) (.own 1),.cells [.slice (l.map XF.cells) (.own 1)]::.front (l.length+1) 8::u):=by
     intro u
     have hb1:(l.length+1) * 104≤140737488355328:=by omega
     have hb2:l.length+1≤140737488355328:=by omega
     have hf:rY l.length 8=8∨l=[]∧rY l.length 8=0:=by
      rcases AN l.length 8 with h | h
      ·exact .inl h
      ·exact .inr ⟨List.length_eq_zero_iff.1 h.1,h.2⟩
     simp [mH,pY,hb1,hb2]
     exact fun h=>hf.resolve_left h
    simp -implicitDefEqProofs [HQ,b2,kT,htr,s1,s2,s3,hP]
 rw [hfst]
 simp only [acO]
 by_cases h0:(tk L a).kind=0
 ·right
  refine⟨_,by simp only [h0,if_true]; rfl,by simp,?_⟩
  simp only [h0,if_true]
 ·simp only [h0,if_false]
  cases q:wJ L a 0 with
  | bad e p a1 d1=>exact .inr ⟨_,rfl,by simp,l,rfl⟩
  | ok x a1 d1 =>
   obtain⟨g1,g2,g3⟩:=(MX hK) _ _ _ _ _ q ha
   have g3:d1=0:=g3
   subst g3
   exact .inl ⟨(l++[x],a1,m),by simp [rH],⟨g2,by simp; omega,by simp; omega⟩,by simp,fun r hr=>hr⟩
omit hL hK in
theorem acC {e0 p0:Nat}{l:List XF}{n sz a d:Nat}{L:List Token}:WZ KK [.ptr 0 0,.ptr 2 0] none (hP e0 p0 l n sz L a d [])=some (hP e0 p0 l n sz L a d []):=by
 simp [WZ,Za,hP,PB,l_,oB,mM]
omit hL hK in
theorem acD {e0 p0:Nat}{l:List XF}{a d e p:Nat}{L:List Token} :
  ∃t:Tok,(t=.nil∨t=.own 1)∧WZ KK [.ptr 0 0,.ptr 2 0] (some (p9 e p)) (hP e0 p0 l l.length (rY l.length 8) L a d [])=some (.cells [.slice [] t]::.front l.length (rY l.length 8)::.cells [.int .i64 (e:Int),.int .i64 (p:Int)]::PB L a d::[]):=by
 cases l with
 | nil =>
  refine⟨.own 1,.inr rfl,?_⟩
  simp [WZ,Za,hP,PB,l_,rY,oB,mM]
 | cons x l =>
  refine⟨.nil,.inl rfl,?_⟩
  have hk:∀h r rs id,yU h (.slice (r::rs) (.own id)) (.slice [] .nil)=.slice [] .nil:=fun _ _ _ _=>(rfl)
  simp [WZ,Za,hP,PB,l_,hk,oB,mM]
end
theorem CT {s:List UInt8}(h:(oI s).2.1=0):∃l:List Token,oI s=(l++[⟨0,s.length,0,[]⟩],0,0)∧(∀x∈l,Fact s x)∧l.Pairwise (fun x y=>x.pos < y.pos):=by
 unfold oI at h ⊢
 split at h
 ·cases h
 ·rename_i hs
  rw [if_neg hs]
  rcases De s 0 [] with ⟨p,hp⟩ | ⟨l,hl,h1,h2⟩
  ·rw [hp] at h; cases h
  ·exact⟨l,by simpa using hl,fun x hx=>(h1 x hx).2,h2⟩
theorem DN {l:List Token}{n:Nat}:rF (l++[⟨0,n,0,[]⟩]):=by
 intro i t hi hk
 by_cases h:i < l.length
 ·simp; omega
 ·rw [ac3 (by omega)] at hi
  obtain⟨h1,h2⟩:=ab0.1 hi
  simp at h1
  have:i - l.length=0:=by omega
  rw [←h2] at hk
  simp [this] at hk
theorem c25 (s:List UInt8) (h:kP):KK 25 [.str s] h=some (.ret (.tuple [.agg [.slice ((mW s).1.map XF.cells) .no],.agg [.int .i64 ((mW s).2.1:Int),.int .i64 ((mW s).2.2:Int)]]),h):=by
 refine lD rfl rfl (lA (aAA _ _ _) ?_)
 have h20:=c49 s
 unfold mW
 by_cases he:(oI s).2.1=0
 ·have he':(((oI s).2.1:Nat):Int)=0:=by omega
  obtain⟨l0,hl0,_,_⟩:=CT he
  have hlen:=Nj s
  have hL:(oI s).1.length≤131072:=by omega
  have hK:rF (oI s).1:=by rw [hl0]; exact DN
  have h0:0 < (oI s).1.length:=by rw [hl0]; simp
  rw [if_pos he]
  obtain⟨r,h1,h2⟩:=af2 hL hK 0 (oI s).2.2 131073 [] 0 h0 (by omega) (ah8 _)
  simp only [hP,al1,ac6,rB,PB,ab9] at h1
  simp -implicitDefEqProofs [m25,h20,he,h1]
  cases q:o7 (oI s).1 131073 [] 0 0 with
  | ok l a d =>
   rw [q] at h2
   subst h2
   have h3:=acC (e0:=0) (p0:=0) (l:=l) (n:=l.length) (sz:=rY l.length 8) (a:=a) (d:=d) (L:=(oI s).1)
   simp only [hP,PB,ab9] at h3
   simp -implicitDefEqProofs [hP,PB,h3,kN]
  | bad e p a d =>
   rw [q] at h2
   obtain⟨l,rfl⟩:=h2
   obtain⟨t,ht,h3⟩:=acD (e0:=0) (p0:=(oI s).2.2) (l:=l) (a:=a) (d:=d) (e:=e) (p:=p) (L:=(oI s).1)
   simp only [hP,PB,ab9,p9] at h3
   rcases ht with rfl | rfl <;> simp -implicitDefEqProofs [hP,PB,h3,kN]
 ·have he':¬(((oI s).2.1:Nat):Int)=0:=by omega
  rw [if_neg he]
  simp -implicitDefEqProofs [m25,h20,he,he',kN]
end
section
open Go Hk
def Out.idx {α:Type}:Out α→Nat
 | .ok _ a _=>a
 | .bad _ _ a _=>a
structure Loc {α:Type}(x:List Token→PM α):Prop where
 mono:∀L a d,a≤(x L a d).idx
 loc:∀L L' a d,(∀i,i≤(x L a d).idx→tk L' i=tk L i)→x L' a d=x L a d
 place:∀L a d e p a' d',x L a d=.bad e p a' d'→p=(tk L a').pos∧e≠0
theorem Loc.bind {α β:Type}{x:List Token→PM α}{f:List Token→α→PM β}(hx:Loc x) (hf:∀v,Loc fun L=>f L v):Loc fun L=>x L >>= f L where
 mono:=fun L a d=>by
  have h1:=hx.mono L a d
  simp only [mL,PM.bind]
  cases h:x L a d with
  | ok v a' d'=>rw [h] at h1; exact Nat.le_trans h1 ((hf v).mono L a' d')
  | bad e p a' d'=>rw [h] at h1; exact h1
 loc:=fun L L' a d hh=>by
  have h1:=hx.mono L a d
  have h2:=hx.loc L L' a d
  simp only [mL,PM.bind] at hh ⊢
  cases h:x L a d with
  | ok v a' d' =>
   rw [h] at hh h1 h2
   simp only [] at hh
   have h3:=(hf v).mono L a' d'
   rw [h2 fun i hi=>hh i (Nat.le_trans hi h3)]
   exact(hf v).loc L L' a' d' hh
  | bad e p a' d' =>
   rw [h] at hh h2
   rw [h2 hh]
 place:=fun L a d e p a' d' hb=>by
  simp only [mL,PM.bind] at hb
  cases h:x L a d with
  | ok v a1 d1=>rw [h] at hb; exact(hf v).place L a1 d1 e p a' d' hb
  | bad e1 p1 a1 d1=>rw [h] at hb; cases hb; exact hx.place L a d _ _ _ _ h
theorem Loc.pure {α:Type}{v:α}:Loc fun _=>(Pure.pure v:PM α) :=
 ⟨fun _ _ _=>ab6 _,fun _ _ _ _ _=>rfl,fun _ _ _ _ _ _ _ h=>by cases h⟩
theorem Loc.ite {α:Type}{c:Prop} [Decidable c] {x y:List Token→PM α}(hx:Loc x) (hy:Loc y):Loc fun L=>if c then x L else y L:=by
 by_cases h:c
 ·simp only [h,if_true]; exact hx
 ·simp only [h,if_false]; exact hy
theorem Loc.opt {α:Type}{o:Option Nat}{x:List Token→PM α}{f:List Token→Nat→PM α}(hx:Loc x) (hf:∀k,Loc fun L=>f L k):Loc fun L=>(match o with | none=>x L | some k=>f L k):=by
 cases o with
 | none=>exact hx
 | some k=>exact hf k
theorem Gz {α:Type}{e:Nat}(he:e≠0:=by decide):Loc fun L=>(w8 L e:PM α) :=
 ⟨fun _ _ _=>ab6 _,fun L L' a d h=>by simp only [w8]; rw [h a (ab6 _)],fun L a d e p a' d' h=>by cases h; exact⟨rfl,he⟩⟩
theorem D5:Loc fun L=>oQ L :=
 ⟨fun _ _ _=>ab6 _,fun L L' a d h=>by simp only [oQ]; rw [h a (ab6 _)],fun _ _ _ _ _ _ _ h=>by cases h⟩
theorem RU:Loc fun _=>xS:=⟨fun _ _ _=>Nat.le_succ _,fun _ _ _ _ _=>rfl,fun _ _ _ _ _ _ _ h=>by cases h⟩
theorem aJT:Loc fun _=>pUp:=⟨fun _ _ _=>ab6 _,fun _ _ _ _ _=>rfl,fun _ _ _ _ _ _ _ h=>by cases h⟩
theorem WI {w:List UInt8}:Loc fun L=>GV L w :=
 ⟨fun _ _ _=>ab6 _,fun L L' a d h=>by simp only [GV]; rw [h a (ab6 _)],fun _ _ _ _ _ _ _ h=>by cases h⟩
theorem An {w:List UInt8}:Loc fun L=>pM L w :=
 ⟨fun L a d=>by simp only [pM,Out.idx]; split <;> omega,fun L L' a d h=>by
  have:a≤(pM L w a d).idx:=by simp only [pM,Out.idx]; split <;> omega
  simp only [pM]; rw [h a this],fun _ _ _ _ _ _ _ h=>by cases h⟩
theorem Loc.one {α:Type}{x:List Token→PM α}(f:Token→Nat→Nat→Option (α×Nat×Nat)) (g:Token→Nat→Nat→Nat) (hg:∀t a d,g t a d≠0) (hf:∀t a d v a' d',f t a d=some (v,a',d')→a≤a')
  (hx:∀L a d,x L a d=match f (tk L a) a d with | some (v,a',d')=>.ok v a' d' | none=>.bad (g (tk L a) a d) (tk L a).pos a d):Loc x:=by
 have hm:∀L a d,a≤(x L a d).idx:=fun L a d=>by
  rw [hx]
  cases h:f (tk L a) a d with
  | none=>exact ab6 _
  | some y=>obtain⟨v,a',d'⟩:=y; exact hf _ _ _ _ _ _ h
 refine⟨hm,fun L L' a d h=>?_,fun L a d e p a' d' h=>?_⟩
 ·rw [hx,hx,h a (hm L a d)]
 ·rw [hx] at h
  split at h
  ·cases h
  ·cases h; exact⟨rfl,hg _ _ _⟩
theorem vU {w:List UInt8}:Loc fun L=>oR L w :=
 Loc.one (fun t a d=>if isS t w then some ((),a+1,d) else none) (fun _ _ _=>10) (fun _ _ _=>by decide) (fun t a d v a' d' h=>by split at h <;> simp at h; omega) fun L a d=>by
  simp only [oR]; cases isS (tk L a) w <;> rfl
theorem Bq {k:Nat}:Loc fun L=>qM L k :=
 Loc.one (fun t a d=>if t.kind=k then some (t,a+1,d) else none) (fun _ _ _=>10) (fun _ _ _=>by decide) (fun t a d v a' d' h=>by split at h <;> simp at h; omega) fun L a d=>by
  simp only [qM]; by_cases h:(tk L a).kind=k <;> simp [h]
theorem GA {w:List UInt8}:Loc fun L=>uI L w :=
 Loc.one (fun t a d=>if isS t w then(if d=64 then none else some ((),a+1,d+1)) else none) (fun t _ d=>if isS t w then 11 else 10) (fun t _ d=>by split <;> decide) (fun t a d v a' d' h=>by
  split at h
  ·split at h <;> simp at h; omega
  ·cases h) fun L a d=>by
  simp only [uI]; cases isS (tk L a) w <;> by_cases h:d=64 <;> simp [h]
theorem I_ {w:List UInt8}:Loc fun L=>uJ L w :=
 Loc.one (fun t a d=>if isS t w then some ((),a+1,d - 1) else none) (fun _ _ _=>10) (fun _ _ _=>by decide) (fun t a d v a' d' h=>by split at h <;> simp at h; omega) fun L a d=>by
  simp only [uJ]; cases isS (tk L a) w <;> rfl
theorem Lm:Loc fun L=>sP L :=
 Loc.one (fun t a d=>if isS t Jw then some (1,a+1,d) else if isS t Po then some (0,a+1,d) else none) (fun _ _ _=>10) (fun _ _ _=>by decide) (fun t a d v a' d' h=>by
  split at h
  ·simp at h; omega
  ·split at h <;> simp at h; omega) fun L a d=>by
  simp only [sP]; cases isS (tk L a) Jw <;> cases isS (tk L a) Po <;> rfl
theorem Nc {l:Nat}:Loc fun L=>qO L l :=
 Loc.one (fun t a d=>if isS t zP then some (⟨1,0,l⟩,a+1,d) else if isS t J0 then some (⟨0,0,l⟩,a+1,d) else none) (fun _ _ _=>10) (fun _ _ _=>by decide) (fun t a d v a' d' h=>by
  split at h
  ·simp at h; omega
  ·split at h <;> simp at h; omega) fun L a d=>by
  simp only [qO]; cases isS (tk L a) zP <;> cases isS (tk L a) J0 <;> rfl
theorem ahG:Loc fun L=>yK L :=
 vU.bind fun _=>D5.bind fun t=>Loc.ite Gz (Bq.bind fun _=>vU.bind fun _=>Loc.pure)
theorem YM {l:Nat}:Loc fun L=>vI L l :=
 An.bind fun _=>Loc.ite (ahG.bind fun _=>Loc.pure) (Nc.bind fun t=>Loc.ite (WI.bind fun _=>Loc.ite (ahG.bind fun _=>Loc.pure) Loc.pure) Loc.pure)
theorem YN:Loc fun L=>uZ L :=
 An.bind fun _=>Lm.bind fun _=>Bq.bind fun _=>vU.bind fun _=>YM.bind fun _=>Loc.pure
theorem ahH {α:Type}{one:List Token→PM α}(h:Loc one):∀(n:Nat) (l:List α),Loc fun L=>xR L (one L) n l
 | 0,_=>Gz
 | n+1,l=>h.bind fun x=>An.bind fun _=>Loc.ite (ahH h n _) Loc.pure
theorem WK {α:Type}{one:List Token→PM α}{w:List UInt8}(h:Loc one):Loc fun L=>yW L w (one L) :=
 WI.bind fun _=>Loc.ite Loc.pure (ahH h _ _)
section
variable {ex un:List Token→PM XE}(he:Loc ex) (hu:Loc un)
include he
theorem YL:Loc fun L=>uT L (ex L):=GA.bind fun _=>he.bind fun _=>I_.bind fun _=>Loc.pure
theorem ahD {t:Token}:Loc fun L=>zQ L (ex L) t:=GA.bind fun _=>(WK he).bind fun _=>I_.bind fun _=>Loc.pure
theorem ahC:∀(n:Nat) (b:Bool) (l:List XE),Loc fun L=>tN L (ex L) n b l
 | 0,_,_=>Loc.pure
 | n+1,b,l=>by
  have h1:∀_:Unit,Loc fun L=>(do let x ←ex L; tN L (ex L) n false (l++[x]):PM (List XE)):=fun _=>he.bind fun _=>ahC n _ _
  cases b
  ·exact vU.bind fun u=>h1 u
  ·exact Loc.bind (x:=fun _=>(Pure.pure PUnit.unit:PM PUnit)) Loc.pure fun u=>h1 u
theorem Nb {kind many:Nat}{number:Bool}:Loc fun L=>vW L (ex L) kind many number :=
 D5.bind fun _=>RU.bind fun _=>GA.bind fun _=>(ahC he _ _ _).bind fun _ =>
  Loc.ite (vU.bind fun _=>Bq.bind fun _=>I_.bind fun _=>Loc.pure) (I_.bind fun _=>Loc.pure)
theorem abL:Loc fun L=>qD L (ex L) :=
 D5.bind fun _=>Loc.ite (RU.bind fun _=>Loc.pure) (Loc.ite (GA.bind fun _=>he.bind fun _=>I_.bind fun _=>Loc.pure) (Loc.ite (Nb he) (Loc.ite (Nb he) (Loc.ite (Nb he) (Loc.ite (Nb he) (Loc.ite (Nb he)
  (Bq.bind fun _=>WI.bind fun _=>Loc.ite (ahD he) (WI.bind fun _=>Loc.ite ((YL he).bind fun _=>Loc.pure) Loc.pure))))))))
include hu
theorem apH:Loc fun L=>x_ L (ex L) (un L):=by
 have hs:∀kind,Loc fun L=>AH L (un L) kind:=fun kind=>D5.bind fun _=>GA.bind fun _=>hu.bind fun _=>aJT.bind fun _=>Loc.pure
 exact D5.bind fun _=>Loc.ite (hs _) (Loc.ite (hs _) (Loc.ite (hs _) (abL he)))
end
theorem WJ {next:List Token→PM XE}(hn:Loc next) (k:Nat):∀(n:Nat) (x:XE),Loc fun L=>tO L (next L) k n x
 | 0,_=>Gz
 | n+1,x=>D5.bind fun t=>Loc.opt (o:=pO t k) Loc.pure fun kind=>RU.bind fun _=>Loc.ite (Bq.bind fun _=>WJ hn k n _) (hn.bind fun _=>WJ hn k n _)
theorem Lk {un:List Token→PM XE}(hu:Loc un):∀j,Loc fun L=>pD L (un L) j
 | 0=>hu
 | j+1=>(Lk hu j).bind fun _=>WJ (Lk hu j) _ _ _
theorem ahF {un:List Token→PM XE}(hu:Loc un):Loc fun L=>Bg L (un L) :=
 (Lk hu 6).bind fun _=>D5.bind fun t=>Loc.opt (o:=pO t 0) Loc.pure fun _=>RU.bind fun _=>(Lk hu 6).bind fun _=>Loc.pure
theorem az0:∀n,Loc fun L=>Ew L n
 | 0=>Gz
 | n+1=>apH (ahF (az0 n)) (az0 n)
theorem ahE (n:Nat):Loc fun L=>BX L n:=ahF (az0 n)
theorem YK (n:Nat):Loc fun L=>Br L n:=(ahE n).bind fun _=>vU.bind fun _=>Loc.pure
theorem apG (n pos:Nat):Loc fun L=>pN L n pos :=
 Bq.bind fun _=>WI.bind fun _=>Loc.ite ((ahD (ahE _)).bind fun _=>vU.bind fun _=>Loc.pure)
  (WI.bind fun _=>Loc.ite ((YL (ahE _)).bind fun _=>vU.bind fun _=>(YK _).bind fun _=>Loc.pure) (vU.bind fun _=>(YK _).bind fun _=>Loc.pure))
theorem ahI {block:List Token→PM (List XS)}(hb:Loc block) (n:Nat):Loc fun L=>uK L (block L) n :=
 D5.bind fun _=>An.bind fun _=>Loc.ite (Bq.bind fun _=>vU.bind fun _=>(YK _).bind fun _=>Loc.pure)
  (An.bind fun _=>Loc.ite (Lm.bind fun _=>Bq.bind fun _=>vU.bind fun _=>YM.bind fun _=>vU.bind fun _=>Loc.pure)
  (An.bind fun _=>Loc.ite ((ahE n).bind fun _=>hb.bind fun _=>An.bind fun _=>Loc.ite (hb.bind fun _=>Loc.pure) Loc.pure)
  (An.bind fun _=>Loc.ite (Bq.bind fun _=>vU.bind fun _=>(ahE n).bind fun _=>vU.bind fun _=>Bq.bind fun _=>hb.bind fun _=>Loc.pure)
  (An.bind fun _=>Loc.ite ((YK n).bind fun _=>Loc.pure) (apG _ _)))))
theorem RV {stmt:List Token→PM XS}(hs:Loc stmt):∀(m:Nat) (l:List XS),Loc fun L=>vX L (stmt L) m l
 | 0,_=>Gz
 | m+1,l=>WI.bind fun _=>Loc.ite Loc.pure (hs.bind fun _=>RV hs m _)
theorem Lj:∀n,Loc fun L=>sB L n
 | 0=>Gz
 | n+1=>GA.bind fun _=>(RV (ahI (Lj n) n) _ _).bind fun _=>I_.bind fun _=>Loc.pure
theorem azZ:Loc fun L=>wJ L :=
 vU.bind fun _=>Bq.bind fun _=>vU.bind fun _=>(WK YN).bind fun _=>vU.bind fun _=>An.bind fun _ =>
  Loc.ite (Lm.bind fun _=>Nc.bind fun _=>(Lj _).bind fun _=>Loc.pure) ((Lj _).bind fun _=>Loc.pure)
theorem Ll:∀(m:Nat) (l:List XF),Loc fun L=>o7 L m l
 | 0,_=>Gz
 | m+1,l=>D5.bind fun _=>Loc.ite Loc.pure (azZ.bind fun _=>Ll m _)
end
section
open Go Hk
section
variable {c:UInt8}(hc:c=10∨c=32)
include hc
end
end
section
open Go Hk

end
section
open Go Hk
def Ba (L:List Token) {α:Type}(x:PM α) (a:Nat):Prop:=∀d,(x a d).idx < L.length
def rN (L:List Token) {α:Type}(x:PM α):Prop:=∀a,a < L.length→Ba L x a
section
variable {L:List Token}{α β:Type}
theorem rN.bind {x:PM α}{f:α→PM β}(hx:rN L x) (hf:∀v,rN L (f v)):rN L (x >>= f):=by
 intro a ha d
 have h1:=hx a ha d
 simp only [mL,PM.bind]
 cases h:x a d with
 | ok v a' d'=>rw [h] at h1; exact hf v a' h1 d'
 | bad e p a' d'=>rw [h] at h1; exact h1
theorem rN.pure {v:α}:rN L (Pure.pure v:PM α):=fun _ ha _=>ha
theorem rN.fail {e:Nat}:rN L (w8 L e:PM α):=fun _ ha _=>ha
theorem rN.ite {c:Prop} [Decidable c] {x y:PM α}(hx:rN L x) (hy:rN L y):rN L (if c then x else y):=by
 split
 ·exact hx
 ·exact hy
theorem Ba.ite {c:Prop} [Decidable c] {x y:PM α}{a:Nat}(hx:c→Ba L x a) (hy:¬c→Ba L y a):Ba L (if c then x else y) a:=by
 split
 ·rename_i h; exact hx h
 ·rename_i h; exact hy h
theorem Ba.here {f:Token→PM α}{a:Nat}(h:Ba L (f (tk L a)) a):Ba L (oQ L >>= f) a:=fun d=>h d
theorem Ba.next {f:Unit→PM α}{a:Nat}(ha:a+1 < L.length) (h:rN L (f ())):Ba L (xS >>= f) a:=fun d=>h (a+1) ha d
theorem M5:rN L (oQ L):=fun _ ha _=>ha
theorem Wy {w:List UInt8}:rN L (GV L w):=fun _ ha _=>ha
theorem aJJ:rN L pUp:=fun _ ha _=>ha
variable (hL:rF L)
include hL
theorem A6 {w:List UInt8}:rN L (pM L w):=by
 intro a ha d
 simp only [pM,Out.idx]
 split
 ·rename_i h; exact mS hL ha h
 ·exact ha
theorem xZ {w:List UInt8}:rN L (oR L w):=by
 intro a ha d
 simp only [oR]
 split
 ·rename_i h; exact mS hL ha h
 ·exact ha
theorem Ci {k:Nat}(hk:k≠0):rN L (qM L k):=by
 intro a ha d
 simp only [qM]
 split
 ·rename_i h; exact p8 hL ha hk h
 ·exact ha
theorem I7 {w:List UInt8}:rN L (uI L w):=by
 intro a ha d
 simp only [uI]
 split
 ·rename_i h
  split
  ·exact ha
  ·exact mS hL ha h
 ·exact ha
theorem I8 {w:List UInt8}:rN L (uJ L w):=by
 intro a ha d
 simp only [uJ]
 split
 ·rename_i h; exact mS hL ha h
 ·exact ha
theorem RN:rN L (sP L):=by
 intro a ha d
 simp only [sP]
 split
 ·rename_i h; exact mS hL ha h
 ·split
  ·rename_i h; exact mS hL ha h
  ·exact ha
theorem Uo {l:Nat}:rN L (qO L l):=by
 intro a ha d
 simp only [qO]
 split
 ·rename_i h; exact mS hL ha h
 ·split
  ·rename_i h; exact mS hL ha h
  ·exact ha
theorem ag7:rN L (yK L):=(xZ hL).bind fun _=>M5.bind fun _=>rN.ite rN.fail ((Ci hL (by decide)).bind fun _=>(xZ hL).bind fun _=>rN.pure)
theorem YI {l:Nat}:rN L (vI L l) :=
 (A6 hL).bind fun _=>rN.ite ((ag7 hL).bind fun _=>rN.pure) ((Uo hL).bind fun _=>rN.ite (Wy.bind fun _=>rN.ite ((ag7 hL).bind fun _=>rN.pure) rN.pure) rN.pure)
theorem ao3:rN L (uZ L) :=
 (A6 hL).bind fun _=>(RN hL).bind fun _=>(Ci hL (by decide)).bind fun _=>(xZ hL).bind fun _=>(YI hL).bind fun _=>rN.pure
theorem ag8 {one:PM α}(h:rN L one):∀(n:Nat) (l:List α),rN L (xR L one n l)
 | 0,_=>rN.fail
 | n+1,l=>h.bind fun x=>(A6 hL).bind fun _=>rN.ite (ag8 h n _) rN.pure
theorem ag6 {one:PM α}{w:List UInt8}(h:rN L one):rN L (yW L w one):=Wy.bind fun _=>rN.ite rN.pure (ag8 hL h _ _)
section
variable {ex un:PM XE}(he:rN L ex) (hu:rN L un)
include he
theorem YH:rN L (uT L ex):=(I7 hL).bind fun _=>he.bind fun _=>(I8 hL).bind fun _=>rN.pure
theorem ag3 {t:Token}:rN L (zQ L ex t):=(I7 hL).bind fun _=>(ag6 hL he).bind fun _=>(I8 hL).bind fun _=>rN.pure
theorem ag2:∀(n:Nat) (b:Bool) (l:List XE),rN L (tN L ex n b l)
 | 0,_,_=>rN.pure
 | n+1,b,l=>by
  have h1:∀_:Unit,rN L (do let x ←ex; tN L ex n false (l++[x]):PM (List XE)):=fun _=>he.bind fun _=>ag2 n _ _
  cases b
  ·exact(xZ hL).bind fun u=>h1 u
  ·exact rN.bind (x:=(Pure.pure PUnit.unit:PM PUnit)) rN.pure fun u=>h1 u
theorem M6 {kind many a:Nat}{number:Bool}(ha:a+1 < L.length):Ba L (vW L ex kind many number) a :=
 Ba.here (Ba.next ha ((I7 hL).bind fun _=>(ag2 hL he _ _ _).bind fun _ =>
  rN.ite ((xZ hL).bind fun _=>(Ci hL (by decide)).bind fun _=>(I8 hL).bind fun _=>rN.pure) ((I8 hL).bind fun _=>rN.pure)))
theorem abC:rN L (qD L ex):=fun a ha=>Ba.here (Ba.ite (fun h=>Ba.next (p8 (k:=2) hL ha (by decide) h) rN.pure) fun _ =>
 Ba.ite (fun _=>((I7 hL).bind fun _=>he.bind fun _=>(I8 hL).bind fun _=>rN.pure) a ha) fun _ =>
 Ba.ite (fun h=>M6 hL he (mS hL ha h)) fun _=>Ba.ite (fun h=>M6 hL he (mS hL ha h)) fun _=>Ba.ite (fun h=>M6 hL he (mS hL ha h)) fun _ =>
 Ba.ite (fun h=>M6 hL he (mS hL ha h)) fun _=>Ba.ite (fun h=>M6 hL he (mS hL ha h)) fun _ =>
 ((Ci hL (by decide)).bind fun _=>Wy.bind fun _=>rN.ite (ag3 hL he) (Wy.bind fun _=>rN.ite ((YH hL he).bind fun _=>rN.pure) rN.pure)) a ha)
include hu
theorem ao4:rN L (x_ L ex un):=by
 have hs:∀kind,rN L (AH L un kind):=fun kind=>M5.bind fun _=>(I7 hL).bind fun _=>hu.bind fun _=>aJJ.bind fun _=>rN.pure
 exact M5.bind fun _=>rN.ite (hs _) (rN.ite (hs _) (rN.ite (hs _) (abC hL he)))
end
theorem Wz {next:PM XE}(hn:rN L next) (k:Nat):∀(n:Nat) (x:XE),rN L (tO L next k n x)
 | 0,_=>rN.fail
 | n+1,x=>fun a ha=>Ba.here (by
  cases hs:pO (tk L a) k with
  | none=>exact rN.pure a ha
  | some kind=>exact Ba.next (p8 (k:=4) hL ha (by decide) (sN hs)) (rN.ite ((Ci hL (by decide)).bind fun _=>Wz hn k n _) (hn.bind fun _=>Wz hn k n _)))
theorem Lh {un:PM XE}(hu:rN L un):∀j,rN L (pD L un j)
 | 0=>hu
 | j+1=>(Lh hu j).bind fun _=>Wz hL (Lh hu j) _ _ _
theorem ag5 {un:PM XE}(hu:rN L un):rN L (Bg L un) :=
 (Lh hL hu 6).bind fun _=>fun a ha=>Ba.here (by
  cases hs:pO (tk L a) 0 with
  | none=>exact rN.pure a ha
  | some kind=>exact Ba.next (p8 (k:=4) hL ha (by decide) (sN hs)) ((Lh hL hu 6).bind fun _=>rN.pure))
theorem azL:∀n,rN L (Ew L n)
 | 0=>rN.fail
 | n+1=>ao4 hL (ag5 hL (azL n)) (azL n)
theorem ag4 (n:Nat):rN L (BX L n):=ag5 hL (azL hL n)
theorem YG (n:Nat):rN L (Br L n):=(ag4 hL n).bind fun _=>(xZ hL).bind fun _=>rN.pure
theorem ao2 (n pos:Nat):rN L (pN L n pos) :=
 (Ci hL (by decide)).bind fun _=>Wy.bind fun _=>rN.ite ((ag3 hL (ag4 hL _)).bind fun _=>(xZ hL).bind fun _=>rN.pure)
  (Wy.bind fun _=>rN.ite ((YH hL (ag4 hL _)).bind fun _=>(xZ hL).bind fun _=>(YG hL _).bind fun _=>rN.pure) ((xZ hL).bind fun _=>(YG hL _).bind fun _=>rN.pure))
theorem azK {block:PM (List XS)}(hb:rN L block) (n:Nat):rN L (uK L block n) :=
 M5.bind fun _=>(A6 hL).bind fun _=>rN.ite ((Ci hL (by decide)).bind fun _=>(xZ hL).bind fun _=>(YG hL _).bind fun _=>rN.pure)
  ((A6 hL).bind fun _=>rN.ite ((RN hL).bind fun _=>(Ci hL (by decide)).bind fun _=>(xZ hL).bind fun _=>(YI hL).bind fun _=>(xZ hL).bind fun _=>rN.pure)
  ((A6 hL).bind fun _=>rN.ite ((ag4 hL n).bind fun _=>hb.bind fun _=>(A6 hL).bind fun _=>rN.ite (hb.bind fun _=>rN.pure) rN.pure)
  ((A6 hL).bind fun _=>rN.ite ((Ci hL (by decide)).bind fun _=>(xZ hL).bind fun _=>(ag4 hL n).bind fun _=>(xZ hL).bind fun _=>(Ci hL (by decide)).bind fun _=>hb.bind fun _=>rN.pure)
  ((A6 hL).bind fun _=>rN.ite ((YG hL n).bind fun _=>rN.pure) (ao2 hL _ _)))))
omit hL in
theorem YJ {stmt:PM XS}(hs:rN L stmt):∀(m:Nat) (l:List XS),rN L (vX L stmt m l)
 | 0,_=>rN.fail
 | m+1,l=>Wy.bind fun _=>rN.ite rN.pure (hs.bind fun _=>YJ hs m _)
theorem RL:∀n,rN L (sB L n)
 | 0=>rN.fail
 | n+1=>(I7 hL).bind fun _=>(YJ (azK hL (RL n) n) _ _).bind fun _=>(I8 hL).bind fun _=>rN.pure
theorem azJ:rN L (wJ L) :=
 (xZ hL).bind fun _=>(Ci hL (by decide)).bind fun _=>(xZ hL).bind fun _=>(ag6 hL (ao3 hL)).bind fun _=>(xZ hL).bind fun _=>(A6 hL).bind fun _ =>
  rN.ite ((RN hL).bind fun _=>(Uo hL).bind fun _=>(RL hL _).bind fun _=>rN.pure) ((RL hL _).bind fun _=>rN.pure)
theorem RM:∀(m:Nat) (l:List XF),rN L (o7 L m l)
 | 0,_=>rN.fail
 | m+1,l=>M5.bind fun _=>rN.ite rN.pure ((azJ hL).bind fun _=>RM m _)
end
end
section
open Go Hk
theorem acS (s:List UInt8):(mW s).2.1≠0→(mW s).1=[]:=by
 unfold mW
 by_cases h0:(oI s).2.1=0
 ·rw [if_pos h0]
  cases o7 (oI s).1 131073 [] 0 0 with
  | ok l a d=>intro h; exact absurd rfl h
  | bad e p j d=>intro _; rfl
 ·rw [if_neg h0]; intro _; rfl
end
section
open Go Hk

end
section
open Go Hk

end
section
open Go Hk
section
variable (L L':List Token) (k far:Nat) {α β:Type}
end
section
variable {L L':List Token}{k far:Nat}{α β:Type}
section
variable {ex' ex un' un:PM XE}
end
section
variable {ex' ex un' un:PM XE}
end
end
end
section
open Go Hk
section
variable {L L':List Token}{k far:Nat}
end
end
section
open Go Hk
section
variable {L L':List Token}{k far:Nat}
end
end
section
open Go Hk
theorem UW {s:List UInt8}{F:List XF}{p:Nat}(h:mW s=(F,0,p)) :
  ∃l,oI s=(l++[⟨0,s.length,0,[]⟩],0,0)∧(∀x∈l,x.kind≠0)∧∃a d,o7 (l++[⟨0,s.length,0,[]⟩]) 131073 [] 0 0=.ok F a d:=by
 unfold mW at h
 by_cases h0:(oI s).2.1=0
 ·rw [if_pos h0] at h
  obtain⟨l,h1,h2,_⟩:=CT h0
  refine⟨l,h1,fun x hx=>(h2 x hx).2.1.1,?_⟩
  rw [h1] at h
  simp only [] at h
  cases h3:o7 (l++[⟨0,s.length,0,[]⟩]) 131073 [] 0 0 with
  | ok v a d=>rw [h3] at h; cases h; exact⟨a,d,rfl⟩
  | bad e q a d =>
   rw [h3] at h
   have:=((Ll 131073 []).place _ _ _ _ _ _ _ h3).2
   exact absurd (congrArg (fun x=>x.2.1) h) this
 ·rw [if_neg h0] at h
  exact absurd (congrArg (fun x=>x.2.1) h) h0
end
end Go.Proofs.YtlddmnojanpdoaaGreatDoor
