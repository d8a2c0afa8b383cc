/-
  The texts SG.H, SG.I, SG.J, SG.K, SG.N, SG.O, SG.Q, SG.R, SG.S, SG.T, SG.U, SG.V, SG.W, SG.X, SG.X1, SG.X2, SG.X3, SG.X5, SG.X4, SG.Y1, SG.Y2, SG.Y3, SG.Y4, SG.Y5, SG.Y6, SG.Y7, one behind another. No conditions.
-/
import Derived.Test.YtlddmnojanpdoaaGreatDoorPSga1
import Derived.Test.YtlddmnojanpdoaaGreatDoorPLg1
set_option linter.unusedVariables false
set_option linter.unusedSimpArgs false
set_option linter.all false
open Bool renaming false_eq_true → ak4
open Int renaming cast_ofNat_Int → ae8, natCast_add → ag9
open List renaming append_assoc → al2, append_nil → al6, cons_append → af5, getElem?_append_right → ae9, getElem?_eq_getElem → ac1, getElem?_eq_some_iff → ab2, length_append → ac6, length_cons → am1, length_map → ak1, length_nil → am3, length_take → aj9, map_cons → ak9, mem_of_getElem? → am4, nil_append → an4
open Nat renaming le_refl → ac9, zero_le → ak5
open Option renaming bind_eq_some_iff → ab0, bind_some → an3, map_eq_some_iff → ac5
open Option.some renaming injEq → ab3
namespace Go.Proofs.YtlddmnojanpdoaaGreatDoor
section
open Go Hk
def HG (n:Nat) (C:List lR):Prop:=∀m h,n≤m→nX m h C=some C
def CL (n:Nat) (cs:List kP):Prop:=∀m h,n≤m→nK m h cs=some cs
section
variable {n:Nat}
theorem HG.mono {k:Nat}{C:List lR}(h:HG n C) (hk:n≤k):HG k C:=fun m x hm=>h m x (Nat.le_trans hk hm)
theorem CF {m:Nat}{h:kT}:∀{B C:List lR},nX m h B=some B→nX m h C=some C→nX m h (B++C)=some (B++C)
 | [],_,_,h2=>h2
 | b::r,C,h1,h2=>by
  simp only [nX] at h1
  split at h1
  ·rename_i b' r' e1 e2
   simp only [ab3,List.cons.injEq] at h1
   obtain⟨rfl,rfl⟩:=h1
   simp only [af5,nX,e1,CF e2 h2]
  ·cases h1
theorem agE {B C:List lR}(h1:HG n B) (h2:HG n C):HG n (B++C):=fun m h hm=>CF (h1 m h hm) (h2 m h hm)
theorem agF:HG n []:=fun _ _ _=>rfl
theorem WB {i j:Nat}{C:List lR}(h:HG n C):HG n (.front i j::C):=fun m x hm=>by simp [h m x hm]
theorem Wz {cs:List kP}{C:List lR}(h1:CL n cs) (h:HG n C):HG n (.cells cs::C):=fun m x hm=>by simp [h m x hm,h1 m x hm]
theorem UX:CL n []:=fun _ _ _=>rfl
end
section
variable {n:Nat}
theorem MX {i j:Nat}{C:List lR}:HG n (.front i j::C)↔HG n C:=⟨fun h m x hm=>by
 have:=h m x hm
 simp only [oV,Qq,an3,ac5] at this
 obtain⟨r,h1,h2⟩:=this
 cases h2; exact h1,WB⟩
theorem OR {C:List lR}:HG n (.gone::C)↔HG n C:=⟨fun h m x hm=>by
 have:=h m x hm
 have e:qB m x .gone=some .gone:=rfl
 simp only [oV,e,an3,ac5] at this
 obtain⟨r,h1,h2⟩:=this
 cases h2; exact h1,fun h m x hm=>by
 have e:qB m x .gone=some .gone:=rfl
 simp only [oV,e,an3,h m x hm,Option.map_some]⟩
theorem MW {cs:List kP}{C:List lR}:HG n (.cells cs::C)↔CL n cs∧HG n C:=⟨fun h=>by
 have key:∀m x,n≤m→nK m x cs=some cs∧nX m x C=some C:=fun m x hm=>by
  have:=h m x hm
  simp only [oV,Ht,ab0,ac5] at this
  obtain⟨b,⟨c,h1,h2⟩,r,h3,h4⟩:=this
  cases h2; cases h4; exact⟨h1,h3⟩
 exact⟨fun m x hm=>(key m x hm).1,fun m x hm=>(key m x hm).2⟩,fun h=>Wz h.1 h.2⟩
theorem EY {v:kP}{cs:List kP}(hv:∀m x,n≤m→v.m_ m x=v) (hc:v.mH=true):CL n (v::cs)↔CL n cs:=by
 constructor
 ·intro h m x hm
  have:=h m x hm
  simp only [tK,hv m x hm,hc,cond_true,ac5] at this
  obtain⟨r,h1,h2⟩:=this
  cases h2; exact h1
 ·intro h m x hm
  simp only [tK,hv m x hm,hc,cond_true,h m x hm,Option.map_some]
theorem QL {k:IntKind}{z:Int}{cs:List kP}:CL n (.int k z::cs)↔CL n cs:=EY (fun _ _ _=>rfl) rfl
theorem QO {z:List UInt8}{cs:List kP}:CL n (.str z::cs)↔CL n cs:=EY (fun _ _ _=>rfl) rfl
theorem OP {z:Bool}{cs:List kP}:CL n (.bool z::cs)↔CL n cs:=EY (fun _ _ _=>rfl) rfl
theorem MU {rows:List (List kP)}{cs:List kP}:CL n (.slice rows .no::cs)↔CL n cs:=EY (fun _ _ _=>rfl) rfl
theorem QM {rows:List (List kP)}{id:Nat}{cs:List kP}:CL n (.slice rows (.own id)::cs)↔id < n∧CL n cs:=by
 have key:∀hi:id < n,CL n (.slice rows (.own id)::cs)↔CL n cs:=fun hi=>EY (fun m x hm=>by
  have:id < m:=by omega
  simp [this]) rfl
 constructor
 ·intro h
  have hi:id < n:=by
   have:=h n [] (ac9 _)
   by_cases hi:id < n
   ·exact hi
   ·exfalso
    simp only [tK,SD,decide_eq_false hi,cond_false,Pb,cond_true,ac5] at this
    obtain⟨r,h1,h2⟩:=this
    cases h2
  exact⟨hi,(key hi).1 h⟩
 ·rintro⟨hi,h⟩
  exact(key hi).2 h
theorem QN {id o:Nat}{cs:List kP}:CL n (.ptr id o::cs)↔id < n∧CL n cs:=by
 have key:∀hi:id < n,CL n (.ptr id o::cs)↔CL n cs:=fun hi=>EY (fun m x hm=>by
  have:id < m:=by omega
  simp [lN this]) rfl
 constructor
 ·intro h
  have hi:id < n:=by
   have:=h n [] (ac9 _)
   by_cases hi:id < n
   ·exact hi
   ·exfalso
    have e:(kP.ptr id o).m_ n []=.junk:=by simp [kP.m_,hi]
    simp [tK,e,kP.mH] at this
  exact⟨hi,(key hi).1 h⟩
 ·rintro⟨hi,h⟩
  exact(key hi).2 h
end
def HQ (A:List lR) (L:List Token) (a d:Nat) (B:List lR):kT:=A++PB L a d::B
def HN (A B:List lR):Nat:=A.length+1+B.length
structure KB (A B:List lR):Prop where
 a:∀n,HN A B≤n→HG n A
 b:∀n,HN A B≤n→HG n B
section
variable {A B C:List lR}{L:List Token}{a d k:Nat}
theorem CM:HN A (B++C)=HN A B+C.length:=by simp [HN]; omega
theorem KB.app (h:KB A B) (hC:HG (HN A B+C.length) C):KB A (B++C):=by
 refine⟨fun n hn=>?_,fun n hn=>?_⟩
 ·rw [CM] at hn
  exact(h.a (HN A B) (ac9 _)).mono (by omega)
 ·rw [CM] at hn
  exact agE ((h.b (HN A B) (ac9 _)).mono (by omega)) (hC.mono hn)
theorem Ki:HQ A L a d B++C=HQ A L a d (B++C):=by simp [HQ]
theorem HJ:(HQ A L a d B).length=HN A B:=by simp [HQ,HN]; omega
theorem aC8:oM (HQ A L a d B) A.length=some [.slice (L.map Token.cells) .no,.int .i64 (a:Int),.int .i64 (d:Int)]:=by simp [HQ,oM,PB]
theorem YY:oM (HQ A L a d (B++C)) (HN A B+k)=oM C k:=by
 unfold oM HQ HN
 rw [ae9 (by omega),show A.length+1+B.length+k - A.length=B.length+k+1 by omega,List.getElem?_cons_succ,ae9 (by omega),show B.length+k - B.length=k by omega]
theorem agA:oM (HQ A L a d (B++C)) (HN A B)=oM C 0:=YY (k:=0)
theorem Kj:(HQ A L a d (B++C))[HN A B+k]?=C[k]?:=by
 unfold HQ HN
 rw [ae9 (by omega),show A.length+1+B.length+k - A.length=B.length+k+1 by omega,List.getElem?_cons_succ,ae9 (by omega),show B.length+k - B.length=k by omega]
theorem QR:uI (HQ A L a d (B++C)) (HN A B+k)=uI C k:=by unfold uI; rw [Kj]
theorem Kk {x:lR}:List.set (HQ A L a d (B++C)) (HN A B+k) x=HQ A L a d (B++C.set k x):=by
 unfold HQ HN
 rw [List.set_append_right _ _ (by omega),show A.length+1+B.length+k - A.length=B.length+k+1 by omega,List.set_cons_succ,List.set_append_right _ _ (by omega),show B.length+k - B.length=k by omega]
theorem agB {x:lR}:List.set (HQ A L a d (B++C)) (HN A B) x=HQ A L a d (B++C.set 0 x):=Kk (k:=0)
theorem UZ:List.set (HQ A L a d B) A.length (.cells [.slice (L.map Token.cells) .no,.int .i64 ((a:Int)+1),.int .i64 (d:Int)])=HQ A L (a+1) d B:=by
 unfold HQ; rw [List.set_append_right _ _ (ac9 _),Nat.sub_self]; rfl
theorem OQ {d':Nat}:List.set (HQ A L a d B) A.length (.cells [.slice (L.map Token.cells) .no,.int .i64 (a:Int),.int .i64 (d':Int)])=HQ A L a d' B:=by
 unfold HQ; rw [List.set_append_right _ _ (ac9 _),Nat.sub_self]; rfl
theorem QQ:List.set (HQ A L a d B) A.length (.cells [.slice (L.map Token.cells) .no,.int .i64 (a:Int),.int .i64 ((d:Int)+1)])=HQ A L a (d+1) B:=OQ (d':=d+1)
theorem QS:qD (HQ A L a d (B++C)) (HN A B+k)=HQ A L a d (B++qD C k):=by
 unfold qD
 rw [Kj]
 cases C[k]? with
 | none=>rfl
 | some b=>cases b <;> first | rfl | exact Kk
theorem Wy:qD (HQ A L a d (B++C)) (HN A B)=HQ A L a d (B++qD C 0):=QS (k:=0)
theorem Kl {a' d':Nat}{C':List lR}:nI (HQ A L a d (B++C)) (HQ A L a' d' (B++C')) (HN A B+k)=HQ A L a' d' (B++nI C C' k):=by
 unfold nI
 rw [Kj]
 cases C[k]? with
 | none=>rfl
 | some b=>cases b <;> first | rfl | exact Kk
theorem QT {a' d':Nat}{C':List lR}:nI (HQ A L a d (B++C)) (HQ A L a' d' (B++C')) (HN A B)=HQ A L a' d' (B++nI C C' 0):=Kl (k:=0)
theorem RO {cs:List kP}{C:List lR}:qD (.cells cs::C) 0=.gone::C:=(rfl)
theorem TO {C:List lR}:qD (.gone::C) 0=.gone::C:=(rfl)
theorem TP {b:lR}{C:List lR}{k:Nat}:qD (b::C) (k+1)=b::qD C k:=by
 unfold qD
 simp only [List.getElem?_cons_succ]
 cases C[k]? with
 | none=>rfl
 | some b=>cases b <;> rfl
theorem NO {cs:List kP}{b:lR}{C C':List lR}:nI (.cells cs::C) (b::C') 0=.cells cs::C':=(rfl)
theorem Qz {b b':lR}{C C':List lR}{k:Nat}:nI (b::C) (b'::C') (k+1)=b'::nI C C' k:=by
 unfold nI
 simp only [List.getElem?_cons_succ]
 cases C[k]? with
 | none=>rfl
 | some b=>cases b <;> rfl
theorem aaT {h:kT}:nY [] h=h:=(rfl)
theorem Xn {h:kT}{i:Nat}{ids:List Nat}:nY (i::ids) h=nY ids (qD h i):=(rfl)
theorem UK {h h':kT}:lX [] h h'=h':=(rfl)
theorem S7 {h h':kT}{i:Nat}{ids:List Nat}:lX (i::ids) h h'=lX ids h (nI h h' i):=(rfl)
theorem To {i o:Nat}:pS (.ptr i o)=some i:=(rfl)
theorem Q7 {cs:List kP}:pS (.pptr cs)=none:=(rfl)
theorem YV {d':Nat}:List.set (HQ A L (a+1) d B) A.length (.cells [.slice (L.map Token.cells) .no,.int .i64 ((a:Int)+1),.int .i64 (d':Int)])=HQ A L (a+1) d' B:=OQ (a:=a+1)
theorem Ww:List.set (HQ A L (a+1) d B) A.length (.cells [.slice (L.map Token.cells) .no,.int .i64 ((a:Int)+1),.int .i64 ((d:Int)+1)])=HQ A L (a+1) (d+1) B:=QQ (a:=a+1)
theorem Gs (h:KB A B):mI (HN A B) (HQ A L a d (B++C))=some (HQ A L a d B):=by
 have e:HQ A L a d (B++C)=HQ A L a d B++C:=Ki.symm
 unfold Hk.mI
 rw [e,←HJ (L:=L) (a:=a) (d:=d),List.take_left,HJ]
 exact CF (h.a _ (ac9 _) _ _ (ac9 _)) (by
  have:qB (HN A B) (HQ A L a d B++C) (PB L a d)=some (PB L a d):=rfl
  simp only [nX,this,h.b _ (ac9 _) _ _ (ac9 _)])
theorem NQ (h:KB A B):mI (HN A B) (HQ A L a d B)=some (HQ A L a d B):=by
 have:=Gs (L:=L) (a:=a) (d:=d) (C:=[]) h
 rwa [al6] at this
theorem af9 {v:kP}(h:KB A B):mJ (HN A B) v (HQ A L a d (B++C))=some (.ret (v.xR (HN A B) (HQ A L a d (B++C))).kV,HQ A L a d B):=by simp [mJ,Gs h]
theorem af8 {v:kP}(h:KB A B):vA (HN A B) v (HQ A L a d (B++C))=some (.pan (v.xR (HN A B) (HQ A L a d (B++C))).kV,HQ A L a d B):=by simp [vA,Gs h]
theorem YX {v:kP}(h:KB A B):mJ (HN A B) v (HQ A L a d B)=some (.ret (v.xR (HN A B) (HQ A L a d B)).kV,HQ A L a d B):=by simp [mJ,NQ h]
theorem YW {v:kP}(h:KB A B):vA (HN A B) v (HQ A L a d B)=some (.pan (v.xR (HN A B) (HQ A L a d B)).kV,HQ A L a d B):=by simp [vA,NQ h]
end
def Out.res {α:Type}(enc:α→kP) (A:List lR) (L:List Token) (B:List lR):Out α→n_×kT
 | .ok v a d=>(.ret (enc v),HQ A L a d B)
 | .bad e p a d=>(.pan (qG e p),HQ A L a d B)
section
variable {α:Type}{enc:α→kP}{A B:List lR}{L:List Token}{a d e p:Nat}{v:α}
theorem adV:(Out.ok v a d).res enc A L B=(.ret (enc v),HQ A L a d B):=rfl
theorem alD:(Out.bad e p a d:Out α).res enc A L B=(.pan (qG e p),HQ A L a d B):=rfl
end
def qS (L:List Token) (dk:Nat→Prop) (f:Nat) (args:List kP) {α:Type}(enc:α→kP) (x:PM α):Prop :=
 ∀A B a d,a < L.length→dk d→KB A B→KK f (.ptr A.length 0::args) (HQ A L a d B)=some ((x a d).res enc A L B)
def vF:Unit→kP:=fun _=>.tuple []
def JH:Bool→kP:=.bool
def zA:Token→kP:=fun t=>.agg t.cells
def Nv:Nat→kP:=fun n=>.int .i64 (n:Int)
section
variable {L:List Token}(hL:L.length≤131072)
attribute [simp] QS Wy Kl QT RO TO TP NO Qz aaT Xn UK S7 To Q7 lI
attribute [simp] QR CM HJ Ki YY agA Kj Kk agB aC8 UZ OQ QQ YV Ww af9 af8 YX YW adV alD
attribute [simp] KB.app agF MX OR MW UX QL QO OP MU QM QN
attribute [simp] lZ lL putCells al3 aeP al4 aa4 Qx l_ uH apart
theorem avR {L:List Token}{a:Nat}{h:a < L.length}:L[a]'h=tk L a:=by simp [tk,h]
attribute [simp] avR
theorem vR {a:Nat}(h:a≤9223372036854775806):IntKind.wrap .i64 ((a:Int)+1)=(a:Int)+1:=by rw [wrap64] <;> omega
theorem wrapN {a:Nat}(h:a≤9223372036854775807):IntKind.wrap .i64 (a:Int)=(a:Int):=by rw [wrap64] <;> omega
theorem d76:qS L (fun _=>True) 51 [] zA (o7 L):=by
 intro A B a d ha hd hB
 refine lJ (as2 _ _ _) ?_
 simp -implicitDefEqProofs [m51,ha,hB,o7,zA]
theorem d178 (w:List UInt8):qS L (fun _=>True) 150 [.str w] JH (EF L w):=by
 intro A B a d ha hd hB
 refine lJ (ajQ _ _ _ _) ?_
 have h76:=d76 (L:=L)
 unfold qS at h76
 simp -implicitDefEqProofs [az6,ha,hB,h76,o7,EF,JH,zA]
 generalize tk L a=t
 obtain⟨k,p,q,x⟩:=t
 by_cases h1:k=3
 ·subst h1
  by_cases h3:x=w <;> simp -implicitDefEqProofs [Token.cells,ha,hB,isS,h3]
 ·have h1':¬(k:Int)=3:=by omega
  by_cases h2:k=4
  ·subst h2
   by_cases h3:x=w <;> simp -implicitDefEqProofs [Token.cells,ha,hB,isS,h3]
  ·have h2':¬(k:Int)=4:=by omega
   simp -implicitDefEqProofs [Token.cells,ha,hB,isS,h1,h1',h2,h2']
include hL
theorem d143 (w:List UInt8):qS L (fun _=>True) 107 [.str w] JH (o9 L w):=by
 intro A B a d ha hd hB
 refine lJ (ai0 _ _ _ _) ?_
 have h178:=d178 (L:=L)
 unfold qS at h178
 have w1:=vR (a:=a) (by omega)
 cases hs:isS (tk L a) w <;> simp -implicitDefEqProofs [azW,ha,hB,h178,o9,EF,JH,hs,w1]
omit hL in
theorem d179 (e:Nat) {α:Type}{enc:α→kP}:qS L (fun _=>True) 151 [.int .i64 (e:Int)] enc (xY L e):=by
 intro A B a d ha hd hB
 refine lJ (ajR _ _ _ _) ?_
 have h76:=d76 (L:=L)
 unfold qS at h76
 simp -implicitDefEqProofs [az7,ha,hB,h76,o7,xY,zA,Token.cells,H6,qG,u9]
theorem d138 (w:List UInt8):qS L (fun _=>True) 102 [.str w] vF (oQ L w):=by
 intro A B a d ha hd hB
 refine lJ (aiV _ _ _ _) ?_
 have h178:=d178 (L:=L)
 have h179:=d179 (L:=L) 10 (enc:=vF)
 unfold qS at h178 h179
 have w1:=vR (a:=a) (by omega)
 simp only [ae8] at h179
 cases hs:isS (tk L a) w <;> simp -implicitDefEqProofs [azS,ha,hB,h178,h179,oQ,EF,xY,vF,JH,hs,w1,qG,u9]
theorem d139 (k:Nat):qS L (fun _=>True) 103 [.int .i64 (k:Int)] zA (qO L k):=by
 intro A B a d ha hd hB
 refine lJ (aiW _ _ _ _) ?_
 have h76:=d76 (L:=L)
 have h179:=d179 (L:=L) 10 (enc:=vF)
 unfold qS at h76 h179
 simp only [ae8] at h179
 have w1:=vR (a:=a) (by omega)
 simp -implicitDefEqProofs [azT,ha,hB,h76,o7,qO,zA]
 by_cases hk:(tk L a).kind=k
 ·simp -implicitDefEqProofs [Token.cells,ha,hB,h76,hk,zA,w1]
 ·have hk':¬((tk L a).kind:Int)=k:=by omega
  simp -implicitDefEqProofs [Token.cells,ha,hB,h76,h179,hk,hk',zA,w1,xY,qG,u9]
theorem d181 (w:List UInt8):qS L (fun d=>d≤64) 153 [.str w] vF (tS L w):=by
 intro A B a d ha hd hB
 refine lJ (ajT _ _ _ _) ?_
 have h178:=d178 (L:=L)
 have h138:=d138 hL w
 have h179:=d179 (L:=L) 11 (enc:=vF)
 unfold qS at h178 h179 h138
 simp only [ae8] at h179
 have w1:=vR (a:=d) (by omega)
 by_cases hd64:d=64
 ·subst hd64
  cases hs:isS (tk L a) w <;> simp -implicitDefEqProofs [asD,ha,hB,h178,h138,h179,oQ,EF,tS,xY,vF,JH,hs,w1,qG,u9]
 ·have hd64':¬(d:Int)=64:=by omega
  cases hs:isS (tk L a) w <;> simp -implicitDefEqProofs [asD,ha,hB,h178,h138,h179,oQ,EF,tS,xY,vF,JH,hs,w1,qG,u9,hd64,hd64']
theorem d183 (w:List UInt8):qS L (fun d=>1≤d∧d≤65) 155 [.str w] vF (tT L w):=by
 intro A B a d ha hd hB
 obtain⟨d,rfl⟩:∃e,d=e+1:=⟨d - 1,by omega⟩
 refine lJ (ajV _ _ _ _) ?_
 have h138:=d138 hL w
 unfold qS at h138
 have w1:=wrapN (a:=d) (by omega)
 cases hs:isS (tk L a) w <;> simp -implicitDefEqProofs [az9,ha,hB,h138,oQ,tT,vF,hs,w1,qG,u9]
theorem d145:qS L (fun _=>True) 109 [] Nv (rO L):=by
 intro A B a d ha hd hB
 refine lJ (ai2 _ _ _) ?_
 have h143:=d143 hL
 have h138:=d138 hL
 unfold qS at h143 h138
 cases hs:isS (tk L a) II
 ·cases hq:isS (tk L a) Nw <;> simp only [II,Nw] at hs hq <;> simp -implicitDefEqProofs [ar2,ha,hB,h143,h138,oQ,o9,rO,Nv,vF,JH,hs,hq,II,Nw,qG,u9]
 ·simp only [II] at hs
  simp -implicitDefEqProofs [ar2,ha,hB,h143,h138,oQ,o9,rO,Nv,vF,JH,hs,II,qG,u9]
def Ty.cells (t:Ty):List kP:=[.int .i64 (t.elem:Int),.int .i64 (t.len:Int),.int .i64 (t.label:Int)]
def Ba (t:Ty):kP:=.agg t.cells
theorem d144 (l:Nat):qS L (fun _=>True) 108 [.int .i64 (l:Int)] Ba (pR L l):=by
 intro A B a d ha hd hB
 refine lJ (ai1 _ _ _ _) ?_
 have h143:=d143 hL
 have h138:=d138 hL
 unfold qS at h143 h138
 cases hs:isS (tk L a) zK
 ·cases hq:isS (tk L a) IS <;> simp only [zK,IS] at hs hq <;> simp -implicitDefEqProofs [ar1,ha,hB,h143,h138,oQ,o9,pR,Ba,Ty.cells,vF,JH,hs,hq,zK,IS,qG,u9,Ob]
 ·simp only [zK] at hs
  simp -implicitDefEqProofs [ar1,ha,hB,h143,h138,oQ,o9,pR,Ba,Ty.cells,vF,JH,hs,zK,qG,u9,Ob]
end
end
section
open Go Hk
attribute [simp] mO PM.bind yI EF o7 o9 oQ qO xY tS tT w_ pUp zA vF Nv JH Ba Ty.cells Token.cells qG u9
section
variable {L:List Token}(hL:L.length≤131072) (hK:rE L)
include hL hK
theorem d228:qS L (fun _=>True) 180 [] Nv (xZ L):=by
 intro A B a d ha hd hB
 refine lJ (aj4 _ _ _) ?_
 have h138:=d138 hL
 have h139:=d139 hL 2
 have h76:=d76 (L:=L)
 have h179:=d179 (L:=L) 10 (enc:=vF)
 unfold qS at h138 h139 h76 h179
 simp only [ae8] at h179 h139
 cases hs:isS (tk L a) [91]
 ·simp -implicitDefEqProofs [abT,ha,hB,h138,xZ,hs]
 ·have ha1:=mS hK ha hs
  by_cases h2:(tk L (a+1)).kind=2
  ·have ha2:=qF (k:=2) hK ha1 (by decide) h2
   by_cases h3:(tk L (a+1)).num=0
   ·simp -implicitDefEqProofs [abT,ha,ha1,hB,h138,h76,h179,h139,xZ,hs,h2,h3]
   ·have h3':¬((tk L (a+1)).num:Int)=0:=by omega
    cases hs2:isS (tk L (a+1+1)) [93] <;>
     simp -implicitDefEqProofs [abT,ha,ha1,ha2,hB,h138,h76,h179,h139,xZ,hs,hs2,h2,h3,h3']
  ·have h2':¬((tk L (a+1)).kind:Int)=2:=by omega
   simp -implicitDefEqProofs [abT,ha,ha1,hB,h138,h76,h179,h139,xZ,hs,h2,h2']
theorem d180 (l:Nat):qS L (fun _=>True) 152 [.int .i64 (l:Int)] Ba (uL L l):=by
 intro A B a d ha hd hB
 refine lJ (ajS _ _ _ _) ?_
 have h143:=d143 hL
 have h144:=d144 hL l
 have h228:=d228 hL hK
 have h178:=d178 (L:=L)
 unfold qS at h143 h144 h228 h178
 cases hs:isS (tk L a) [117,56]
 ·simp -implicitDefEqProofs [asC,ha,hB,h143,h144,uL,hs]
  cases h1:pR L l a d with
  | bad e p a1 d1=>simp -implicitDefEqProofs [hB]
  | ok t a1 d1 =>
   obtain⟨g1,g2,g3⟩:=Er hK a d _ _ _ h1 ha
   by_cases h2:t.elem=0
   ·simp -implicitDefEqProofs [ha,hB,g2,h178,h228,h2]
    cases h3:isS (tk L a1) [91]
    ·simp -implicitDefEqProofs [hB,h2]
    ·simp -implicitDefEqProofs [hB,g2,h228]
     cases h4:xZ L a1 d1 with
     | bad e p a2 d2=>simp -implicitDefEqProofs [hB]
     | ok n a2 d2=>simp -implicitDefEqProofs [hB,h2]
   ·have h2':¬(t.elem:Int)=0:=by omega
    simp -implicitDefEqProofs [ha,hB,g2,h178,h228,h2,h2']
 ·have ha1:=mS hK ha hs
  simp -implicitDefEqProofs [asC,ha,ha1,hB,h143,h228,uL,hs]
  cases h4:xZ L (a+1) d with
  | bad e p a2 d2=>simp -implicitDefEqProofs [hB]
  | ok n a2 d2=>simp -implicitDefEqProofs [hB]
theorem d142:qS L (fun _=>True) 106 [] (fun x:XP=>.agg ([.int .i64 (x.pos:Int),.str x.name]++x.ty.cells++[.bool x.out])) (sM L):=by
 intro A B a d ha hd hB
 refine lJ (aiZ _ _ _) ?_
 have h143:=d143 hL
 have h145:=d145 hL
 have h139:=d139 hL 1
 have h138:=d138 hL
 have h180:=d180 hL hK
 unfold qS at h143 h145 h139 h138 h180
 simp only [ae8] at h139
 simp -implicitDefEqProofs [azV,ha,hB,h143,sM]
 obtain⟨a1,d1,e1⟩:∃a1 d1,a1=(if isS (tk L a) [111,117,116]=true then a+1 else a)∧d1=d:=⟨_,_,rfl,rfl⟩
 obtain⟨e1,rfl⟩:=e1
 have ha1:a1 < L.length:=by
  subst e1; split
  ·rename_i h; exact mS hK ha h
  ·exact ha
 rw [←e1]
 simp -implicitDefEqProofs [ha1,hB,h145]
 cases h1:rO L a1 d1 with
 | bad e p a2 d2=>simp -implicitDefEqProofs [hB]
 | ok l a2 d2 =>
  obtain⟨g1,ha2,rfl⟩:=Bv hK a1 d1 _ _ _ h1 ha1
  simp -implicitDefEqProofs [ha2,hB,h139]
  by_cases h2:(tk L a2).kind=1
  ·have ha3:=qF (k:=1) hK ha2 (by decide) h2
   simp -implicitDefEqProofs [ha3,hB,h2,h138]
   cases h3:isS (tk L (a2+1)) [58]
   ·simp -implicitDefEqProofs [hB]
   ·have ha4:=mS hK ha3 h3
    simp -implicitDefEqProofs [ha4,hB,h180]
    cases h4:uL L l (a2+1+1) d2 with
    | bad e p a5 d5=>simp -implicitDefEqProofs [hB]
    | ok ty a5 d5=>simp -implicitDefEqProofs [hB]
  ·simp -implicitDefEqProofs [hB,h2]
end
end
section
open Go Hk
theorem Df {F:List kP×kT→Option R}{σ:Type}(enc:σ→List kP×kT) (inv:σ→Prop) (μ:σ→Nat) (Post:σ→R→Prop)
  (h:∀s,inv s→(∃s',F (enc s)=some (.normal,enc s')∧inv s'∧μ s' < μ s∧∀r,Post s' r→Post s r)∨(∃r,F (enc s)=some r∧r.1≠.normal∧Post s r)) :
  ∀s,inv s→∃r,mQ F (enc s)=some r∧Post s r:=by
 have key:∀n s,μ s=n→inv s→∃r,mQ F (enc s)=some r∧Post s r:=by
  intro n
  induction n using Nat.strongRecOn with
  | _ n ih =>
   intro s hn hi
   rw [nA]
   rcases h s hi with ⟨s',e1,e2,e3,e4⟩ | ⟨r,e1,e2,e3⟩
   ·obtain⟨r,h1,h2⟩:=ih (μ s') (by omega) s' rfl e2
    refine⟨r,?_,e4 r h2⟩
    rw [e1]
    simp only [an3,oD]
    exact h1
   ·refine⟨r,?_,e3⟩
    rw [e1]
    obtain⟨e,l⟩:=r
    cases e <;> first | exact absurd rfl e2 | rfl
 exact fun s hi=>key (μ s) s rfl hi
@[simp] theorem ax0 {m:Nat}{h:kT}{e p:Int}:kP.xR m h (.iface 102 (.agg [.int .i64 e,.int .i64 p]))=.iface 102 (.agg [.int .i64 e,.int .i64 p]):=(rfl)
@[simp] theorem ao6 {e p:Int}:kP.kV (.iface 102 (.agg [.int .i64 e,.int .i64 p]))=.iface 102 (.agg [.int .i64 e,.int .i64 p]):=(rfl)
@[simp] theorem awS {i o:Nat}:kP.cells (.ptr i o)=[.ptr i o]:=(rfl)
@[simp] theorem aqM {i o:Nat}:kP.mH (.ptr i o)=true:=(rfl)
@[simp] theorem avY {f:Nat}{x y:List kP}:kP.kV (.func f x y)=.func f x y:=(rfl)
@[simp] theorem af6 {A B:List lR}{j k:Nat}:HN A B+j+k=HN A B+(j+k):=Nat.add_assoc _ _ _
@[simp] theorem dec_lt {n k:Nat}:decide (n+k < n)=false:=by simp
theorem Sk {L:List Token}{α:Type}{one:PM α}{n:Nat}{l:List α}{a d:Nat}:vD L one (n+1) l a d=match one a d with
  | .bad e p a1 d1=>.bad e p a1 d1
  | .ok x a1 d1=>if isS (tk L a1) [44]=true then vD L one n (l++[x]) (a1+1) d1 else .ok (l++[x]) a1 d1:=by
 rw [vD]
 simp only [mO,PM.bind,o9]
 cases one a d with
 | bad=>rfl
 | ok x a1 d1=>cases h:isS (tk L a1) [44] <;> simp [h,yI]
structure U1 {α:Type}(enc:α→List kP) (sz:Nat):Prop where
 len:∀x,(enc x).length=sz
 pure:∀x,oC (enc x)=some (enc x)
 ok:∀x,(enc x).all kP.mH=true
theorem wU {cs zero:List kP}{sz:Nat}{h:kT}(hl:cs.length=sz) (hz:zero.length=sz) (hp:oC cs=some cs) (ho:cs.all kP.mH=true) :
  lB 1 sz zero [(0,.agg cs)] h=some (.slice [cs] (.own h.length),h++[.front 1 sz]):=by
 have e1:l_ (List.replicate 1 zero).flatten ((List.range 1).map fun i=>(i * sz,sz)) [(0,.agg cs)]=some (.agg cs):=by
  simp [l_,hl,hz,putCells,kP.pN,List.range_succ]
 simp only [lB,tQ,e1,hp,hz,ho,and_self,if_true,rowsOf]
 rw [←hl,List.take_length]
section
variable {A B C:List lR}{L:List Token}{a d k:Nat}
theorem Dr {rows new:List (List kP)}{sz by_ sz':Nat}{t:Tok}(hc:C[k]?=some (.front rows.length sz')) (hs:sz'=sz∨rows.length=0∧sz'=0) (hr:∀r∈new,r.length=sz) (hn:new≠[])
  (hb:(rows.length+new.length) * by_≤140737488355328) (hb2:rows.length+new.length≤140737488355328) :
  mN sz by_ (HQ A L a d (B++C)) (.slice rows (.own (HN A B+k))) (.slice new t) =
   some (.slice (rows++new) (.own (HN A B+k)),HQ A L a d (B++C.set k (.front (rows.length+new.length) sz))):=by
 have h1:(new.all fun r=>r.length == sz)=true:=by simpa using hr
 have h2:¬new.length=0:=by simpa using hn
 simp only [mN,qU,h1,if_true,Kj,hc]
 rw [if_pos ⟨trivial,hs,hb,hb2⟩,if_neg h2,Kk]
theorem zC (h:KB A (B++C.take k)) (hk:k≤C.length):mI (HN A B+k) (HQ A L a d (B++C))=some (HQ A L a d (B++C.take k)):=by
 have:=Gs (L:=L) (a:=a) (d:=d) (C:=C.drop k) h
 rw [CM,al2,List.take_append_drop,aj9,Nat.min_eq_left hk] at this
 exact this
theorem CK:A.length < HN A B+k:=by simp [HN]; omega
theorem Fu:A.length < HN A B:=CK (k:=0)
def Has (A B:List lR) (i:Nat):Prop:=∃j,i=A.length+1+j∧B[j]?=some (.cells [.ptr A.length 0])
theorem Has.app {i:Nat}(h:Has A B i):Has A (B++C) i:=by
 obtain⟨j,h1,h2⟩:=h
 have:=(ab2.1 h2).1
 exact⟨j,h1,by rw [List.getElem?_append_left this]; exact h2⟩
theorem Has.new:Has A (B++.cells [.ptr A.length 0]::C) (HN A B):=⟨B.length,rfl,by simp⟩
theorem Has.get {i:Nat}(h:Has A B i):oM (HQ A L a d B) i=some [.ptr A.length 0]:=by
 obtain⟨j,rfl,h2⟩:=h
 unfold oM HQ
 rw [ae9 (by omega),show A.length+1+j - A.length=j+1 by omega,List.getElem?_cons_succ,h2]
theorem Has.lt {i:Nat}(h:Has A B i):i < HN A B+k:=by
 obtain⟨j,rfl,h2⟩:=h
 have:=(ab2.1 h2).1
 simp [HN]; omega
theorem OE {m f i:Nat}{h:kT}(hi:i < m):kP.xR m h (.func f [] [.ptr i 0])=.func f [] [.ptr i 0]:=by
 have:kP.xR m h (.func f [] [.ptr i 0])=bif (kP.func f [] [.ptr i 0]).oZ m then .func f [] [.ptr i 0] else .junk:=rfl
 rw [this]
 simp [kP.oZ,kP.rL,sV,hi]
end
end
section
open Go Hk
def XP.cells (x:XP):List kP:=[.int .i64 (x.pos:Int),.str x.name,.int .i64 (x.ty.elem:Int),.int .i64 (x.ty.len:Int),.int .i64 (x.ty.label:Int),.bool x.out]
def uG (n sz:Nat):Nat:=if n=0 then 0 else sz
theorem sP {sz:Nat}:uG 0 sz=0:=(rfl)
theorem sO {n sz:Nat}:uG (n+1) sz=sz:=by simp [uG]
theorem CO (n sz:Nat):uG n sz=sz∨n=0∧uG n sz=0:=by by_cases h:n=0 <;> simp [uG,h]
theorem XP.row:U1 XP.cells 6:=⟨fun _=>rfl,fun _=>rfl,fun _=>rfl⟩
mutual
def XE.cells:XE→List kP
 | .mk k p n name args=>[.int .i64 (k:Int),.int .i64 (p:Int),.int .i64 (n:Int),.str name,.slice (XE.rows args) .no]
def XE.rows:List XE→List (List kP)
 | []=>[]
 | x::r=>x.cells::XE.rows r
end
theorem XE.pM:∀l:List XE,XE.rows l=l.map XE.cells
 | []=>rfl
 | x::r=>by simp [XE.rows,XE.pM r]
theorem XE.row:U1 XE.cells 5:=⟨fun x=>by cases x; simp [XE.cells],fun x=>by cases x; simp [XE.cells,oC,kP.CD],fun x=>by cases x; simp [XE.cells]⟩
section
variable {L:List Token}(hL:L.length≤131072) (hK:rE L)
include hL hK
theorem W9 {one:PM XP}(hg:mE L 1 (fun d=>d) one) {A B:List lR}{i d:Nat}(hB:KB A B) (hi:Has A B i)
  (hone:∀(C:List lR) (a:Nat),a < L.length→KB A (B++C)→KK 105 [.ptr i 0] (HQ A L a d (B++C))=some ((one a d).res (fun x=>.agg (XP.cells x)) A L (B++C))) (n:Nat) (l:List XP) (a:Nat) (ha:a < L.length) (hn:L.length < a+n) (hl:l.length≤a) :
  ∃r,mQ (JU KK (HN A B+2)) ([.ptr A.length 0,.func 105 [] [.ptr i 0],.slice [] (.own (HN A B)),.slice (l.map XP.cells) (.own (HN A B+1))],HQ A L a d (B++[.front 0 0,.front l.length (uG l.length 6)]))=some r ∧
   match vD L one n l a d with
   | .ok l' a' d'=>r=(.ret,[.ptr A.length 0,.func 105 [] [.ptr i 0],.slice (l'.map XP.cells) (.own (HN A B+1)),.slice (l'.map XP.cells) (.own (HN A B+1))],HQ A L a' d' (B++[.front 0 0,.front l'.length 6]))
   | .bad e p a' d'=>∃vs C,r=(.pan (qG e p),vs,HQ A L a' d' (B++C)):=by
 have h143:=d143 hL
 unfold qS at h143
 refine Df (σ:=List XP×Nat×Nat) (fun s=>([.ptr A.length 0,.func 105 [] [.ptr i 0],.slice [] (.own (HN A B)),.slice (s.1.map XP.cells) (.own (HN A B+1))],HQ A L s.2.1 d (B++[.front 0 0,.front s.1.length (uG s.1.length 6)])))
  (fun s=>s.2.1 < L.length∧L.length < s.2.1+s.2.2∧s.1.length≤s.2.1) (fun s=>s.2.2)
  (fun s r=>match vD L one s.2.2 s.1 s.2.1 d with
   | .ok l' a' d'=>r=(.ret,[.ptr A.length 0,.func 105 [] [.ptr i 0],.slice (l'.map XP.cells) (.own (HN A B+1)),.slice (l'.map XP.cells) (.own (HN A B+1))],HQ A L a' d' (B++[.front 0 0,.front l'.length 6]))
   | .bad e p a' d'=>∃vs C,r=(.pan (qG e p),vs,HQ A L a' d' (B++C))) ?_ (l,a,n) ⟨ha,hn,hl⟩
 rintro⟨l,a,n⟩ ⟨ha,hn,hl⟩
 simp only at ha hn hl
 have hi':i < HN A B+2:=hi.lt
 have hsf:∀h,kP.xR (HN A B+2) h (.func 105 [] [.ptr i 0])=.func 105 [] [.ptr i 0]:=fun h=>OE hi'
 have hsp:∀h,kP.xR (HN A B+2) h (.ptr A.length 0)=.ptr A.length 0:=fun h=>uA CK
 have hKB:∀x y,KB A (B++[.front 0 0,.front x y]):=fun x y=>hB.app (by simp)
 have htr:∀a x y C,mI (HN A B+2) (HQ A L a d (B++(.front 0 0::.front x y::C)))=some (HQ A L a d (B++[.front 0 0,.front x y])):=fun a x y C=>by
  have:=zC (L:=L) (a:=a) (d:=d) (A:=A) (B:=B) (C:=.front 0 0::.front x y::C) (k:=2) (by simpa using hKB x y) (by simp)
  simpa using this
 have htr0:∀a d x y,mI (HN A B+2) (HQ A L a d (B++[.front 0 0,.front x y]))=some (HQ A L a d (B++[.front 0 0,.front x y])):=fun a d x y=>by
  have:=zC (L:=L) (a:=a) (d:=d) (A:=A) (B:=B) (C:=[.front 0 0,.front x y]) (k:=2) (by simpa using hKB x y) (by simp)
  simpa using this
 obtain⟨n,rfl⟩:∃k,n=k+1:=⟨n - 1,by omega⟩
 have hfst:JU KK (HN A B+2) ([.ptr A.length 0,.func 105 [] [.ptr i 0],.slice [] (.own (HN A B)),.slice (l.map XP.cells) (.own (HN A B+1))],HQ A L a d (B++[.front 0 0,.front l.length (uG l.length 6)])) =
   match one a d with
   | .bad e p a1 d1=>(mI (HN A B+2) (HQ A L a1 d1 (B++[.front 0 0,.front l.length (uG l.length 6)]))).map fun h=>(.pan (qG e p),[.ptr A.length 0,.func 105 [] [.ptr i 0],.slice [] (.own (HN A B)),.slice (l.map XP.cells) (.own (HN A B+1))],h)
   | .ok x a1 d1=>if isS (tk L a1) [44]=true then some (.normal,[.ptr A.length 0,.func 105 [] [.ptr i 0],.slice [] (.own (HN A B)),.slice ((l++[x]).map XP.cells) (.own (HN A B+1))],HQ A L (a1+1) d (B++[.front 0 0,.front (l++[x]).length 6]))
    else some (.ret,[.ptr A.length 0,.func 105 [] [.ptr i 0],.slice ((l++[x]).map XP.cells) (.own (HN A B+1)),.slice ((l++[x]).map XP.cells) (.own (HN A B+1))],HQ A L a1 d (B++[.front 0 0,.front (l++[x]).length 6])):=by
  have e1:=hone [.front 0 0,.front l.length (uG l.length 6)] a ha (hKB _ _)
  have ce:Cn mV KK 105 (AP mV 105 [.ptr i 0]) (HQ A L a d (B++[.front 0 0,.front l.length (uG l.length 6)]))=some ((one a d).res (fun x=>.agg (XP.cells x)) A L (B++[.front 0 0,.front l.length (uG l.length 6)])):=e1
  simp -implicitDefEqProofs only [JU,List.getD_cons_zero,List.getD_cons_succ,Bn,an3,an4,al6,ce]
  cases h1:one a d with
  | bad e p a1 d1 =>
   simp -implicitDefEqProofs [htr0,lA,hsf,hsp]
  | ok x a1 d1 =>
   obtain⟨g1,g2,g3⟩:=hg a d _ _ _ h1 ha
   have g3:d=d1:=g3.symm
   subst g3
   have b1:=wU (zero:=[.int .i64 0,.str [],.int .i64 0,.int .i64 0,.int .i64 0,.bool false]) (h:=HQ A L a1 d (B++[.front 0 0,.front l.length (uG l.length 6)])) (XP.row.len x) rfl (XP.row.pure x) (XP.row.ok x)
   have b2:=Dr (A:=A) (B:=B) (L:=L) (a:=a1) (d:=d) (C:=[.front 0 0,.front l.length (uG l.length 6),.front 1 6]) (k:=1) (rows:=l.map XP.cells) (new:=[XP.cells x]) (sz:=6) (by_:=56) (sz':=uG l.length 6) (t:=.own (HN A B+2)) (by simp) (by rw [ak1]; exact CO _ _) (by simpa using XP.row.len x) (by simp) (by simp; omega) (by simp; omega)
   simp only [ak1,List.length_singleton,List.set_cons_succ,List.set_cons_zero] at b2
   simp -implicitDefEqProofs [b1,b2]
   rw [h143 [44] _ _ _ _ g2 trivial (hB.app (by simp))]
   simp -implicitDefEqProofs only [o9]
   cases h2:isS (tk L a1) [44] <;> simp -implicitDefEqProofs [htr,lA,hsf,hsp]
 rw [hfst]
 simp only [Sk]
 cases h1:one a d with
 | bad e p a1 d1 =>
  right
  exact⟨_,(by simp only [htr0,Option.map_some]; rfl),by simp,_,_,rfl⟩
 | ok x a1 d1 =>
  obtain⟨g1,g2,g3⟩:=hg a d _ _ _ h1 ha
  have g3:d=d1:=g3.symm
  subst g3
  cases h2:isS (tk L a1) [44] with
  | true =>
   left
   refine⟨(l++[x],a1+1,n),?_,⟨mS hK g2 h2,by simp; omega,by simp; omega⟩,by simp,?_⟩
   ·simp [h2,sO]
   ·intro r hr
    simpa [h2] using hr
  | false =>
   right
   exact⟨_,by simp only [h2]; rfl,by simp,by simp [h2]⟩
theorem d140 {one:PM XP}(w:List UInt8) (hg:mE L 1 (fun d=>d) one) {A B:List lR}{i a d:Nat}(ha:a < L.length) (hB:KB A B) (hi:Has A B i)
  (hone:∀(C:List lR) (a:Nat),a < L.length→KB A (B++C)→KK 105 [.ptr i 0] (HQ A L a d (B++C))=some ((one a d).res (fun x=>.agg (XP.cells x)) A L (B++C))) :
  KK 104 [.ptr A.length 0,.str w,.func 105 [] [.ptr i 0]] (HQ A L a d B)=some ((vW L w one a d).res (fun l=>.slice (l.map XP.cells) .no) A L B):=by
 refine lJ (aiX _ _ _ _ _) ?_
 have h178:=d178 (L:=L)
 unfold qS at h178
 unfold vW
 cases hs:isS (tk L a) w
 ·obtain⟨r,h1,h2⟩:=W9 hL hK hg hB hi hone 131073 [] a ha (by omega) (ak5 _)
  simp only [List.map_nil,am3,sP] at h1
  simp -implicitDefEqProofs [ar0,ha,hB,h178,hs,h1]
  cases h3:vD L one 131073 [] a d with
  | bad e p a' d' =>
   rw [h3] at h2
   obtain⟨vs,C,rfl⟩:=h2
   simp -implicitDefEqProofs [hB]
  | ok l' a' d' =>
   rw [h3] at h2
   subst h2
   simp -implicitDefEqProofs [hB]
 ·simp -implicitDefEqProofs [ar0,ha,hB,h178,hs]
theorem Xb {one:PM XE}(hg:mE L 1 (fun d=>d) one) {A B:List lR}{i d:Nat}(hB:KB A B) (hi:Has A B i)
  (hone:∀(C:List lR) (a:Nat),a < L.length→KB A (B++C)→KK 223 [.ptr i 0] (HQ A L a d (B++C))=some ((one a d).res (fun x=>.agg (XE.cells x)) A L (B++C))) (n:Nat) (l:List XE) (a:Nat) (ha:a < L.length) (hn:L.length < a+n) (hl:l.length≤a) :
  ∃r,mQ (JZ KK (HN A B+2)) ([.ptr A.length 0,.func 223 [] [.ptr i 0],.slice [] (.own (HN A B)),.slice (l.map XE.cells) (.own (HN A B+1))],HQ A L a d (B++[.front 0 0,.front l.length (uG l.length 5)]))=some r ∧
   match vD L one n l a d with
   | .ok l' a' d'=>r=(.ret,[.ptr A.length 0,.func 223 [] [.ptr i 0],.slice (l'.map XE.cells) (.own (HN A B+1)),.slice (l'.map XE.cells) (.own (HN A B+1))],HQ A L a' d' (B++[.front 0 0,.front l'.length 5]))
   | .bad e p a' d'=>∃vs C,r=(.pan (qG e p),vs,HQ A L a' d' (B++C)):=by
 have h143:=d143 hL
 unfold qS at h143
 refine Df (σ:=List XE×Nat×Nat) (fun s=>([.ptr A.length 0,.func 223 [] [.ptr i 0],.slice [] (.own (HN A B)),.slice (s.1.map XE.cells) (.own (HN A B+1))],HQ A L s.2.1 d (B++[.front 0 0,.front s.1.length (uG s.1.length 5)])))
  (fun s=>s.2.1 < L.length∧L.length < s.2.1+s.2.2∧s.1.length≤s.2.1) (fun s=>s.2.2)
  (fun s r=>match vD L one s.2.2 s.1 s.2.1 d with
   | .ok l' a' d'=>r=(.ret,[.ptr A.length 0,.func 223 [] [.ptr i 0],.slice (l'.map XE.cells) (.own (HN A B+1)),.slice (l'.map XE.cells) (.own (HN A B+1))],HQ A L a' d' (B++[.front 0 0,.front l'.length 5]))
   | .bad e p a' d'=>∃vs C,r=(.pan (qG e p),vs,HQ A L a' d' (B++C))) ?_ (l,a,n) ⟨ha,hn,hl⟩
 rintro⟨l,a,n⟩ ⟨ha,hn,hl⟩
 simp only at ha hn hl
 have hi':i < HN A B+2:=hi.lt
 have hsf:∀h,kP.xR (HN A B+2) h (.func 223 [] [.ptr i 0])=.func 223 [] [.ptr i 0]:=fun h=>OE hi'
 have hsp:∀h,kP.xR (HN A B+2) h (.ptr A.length 0)=.ptr A.length 0:=fun h=>uA CK
 have hKB:∀x y,KB A (B++[.front 0 0,.front x y]):=fun x y=>hB.app (by simp)
 have htr:∀a x y C,mI (HN A B+2) (HQ A L a d (B++(.front 0 0::.front x y::C)))=some (HQ A L a d (B++[.front 0 0,.front x y])):=fun a x y C=>by
  have:=zC (L:=L) (a:=a) (d:=d) (A:=A) (B:=B) (C:=.front 0 0::.front x y::C) (k:=2) (by simpa using hKB x y) (by simp)
  simpa using this
 have htr0:∀a d x y,mI (HN A B+2) (HQ A L a d (B++[.front 0 0,.front x y]))=some (HQ A L a d (B++[.front 0 0,.front x y])):=fun a d x y=>by
  have:=zC (L:=L) (a:=a) (d:=d) (A:=A) (B:=B) (C:=[.front 0 0,.front x y]) (k:=2) (by simpa using hKB x y) (by simp)
  simpa using this
 obtain⟨n,rfl⟩:∃k,n=k+1:=⟨n - 1,by omega⟩
 have hfst:JZ KK (HN A B+2) ([.ptr A.length 0,.func 223 [] [.ptr i 0],.slice [] (.own (HN A B)),.slice (l.map XE.cells) (.own (HN A B+1))],HQ A L a d (B++[.front 0 0,.front l.length (uG l.length 5)])) =
   match one a d with
   | .bad e p a1 d1=>(mI (HN A B+2) (HQ A L a1 d1 (B++[.front 0 0,.front l.length (uG l.length 5)]))).map fun h=>(.pan (qG e p),[.ptr A.length 0,.func 223 [] [.ptr i 0],.slice [] (.own (HN A B)),.slice (l.map XE.cells) (.own (HN A B+1))],h)
   | .ok x a1 d1=>if isS (tk L a1) [44]=true then some (.normal,[.ptr A.length 0,.func 223 [] [.ptr i 0],.slice [] (.own (HN A B)),.slice ((l++[x]).map XE.cells) (.own (HN A B+1))],HQ A L (a1+1) d (B++[.front 0 0,.front (l++[x]).length 5]))
    else some (.ret,[.ptr A.length 0,.func 223 [] [.ptr i 0],.slice ((l++[x]).map XE.cells) (.own (HN A B+1)),.slice ((l++[x]).map XE.cells) (.own (HN A B+1))],HQ A L a1 d (B++[.front 0 0,.front (l++[x]).length 5])):=by
  have e1:=hone [.front 0 0,.front l.length (uG l.length 5)] a ha (hKB _ _)
  have ce:Cn mV KK 223 (AP mV 223 [.ptr i 0]) (HQ A L a d (B++[.front 0 0,.front l.length (uG l.length 5)]))=some ((one a d).res (fun x=>.agg (XE.cells x)) A L (B++[.front 0 0,.front l.length (uG l.length 5)])):=e1
  simp -implicitDefEqProofs only [JZ,List.getD_cons_zero,List.getD_cons_succ,Bn,an3,an4,al6,ce]
  cases h1:one a d with
  | bad e p a1 d1 =>
   simp -implicitDefEqProofs [htr0,lA,hsf,hsp]
  | ok x a1 d1 =>
   obtain⟨g1,g2,g3⟩:=hg a d _ _ _ h1 ha
   have g3:d=d1:=g3.symm
   subst g3
   have b1:=wU (zero:=[.int .i64 0,.int .i64 0,.int .i64 0,.str [],.slice [] .nil]) (h:=HQ A L a1 d (B++[.front 0 0,.front l.length (uG l.length 5)])) (XE.row.len x) rfl (XE.row.pure x) (XE.row.ok x)
   have b2:=Dr (A:=A) (B:=B) (L:=L) (a:=a1) (d:=d) (C:=[.front 0 0,.front l.length (uG l.length 5),.front 1 5]) (k:=1) (rows:=l.map XE.cells) (new:=[XE.cells x]) (sz:=5) (by_:=64) (sz':=uG l.length 5) (t:=.own (HN A B+2)) (by simp) (by rw [ak1]; exact CO _ _) (by simpa using XE.row.len x) (by simp) (by simp; omega) (by simp; omega)
   simp only [ak1,List.length_singleton,List.set_cons_succ,List.set_cons_zero] at b2
   simp -implicitDefEqProofs [b1,b2]
   rw [h143 [44] _ _ _ _ g2 trivial (hB.app (by simp))]
   simp -implicitDefEqProofs only [o9]
   cases h2:isS (tk L a1) [44] <;> simp -implicitDefEqProofs [htr,lA,hsf,hsp]
 rw [hfst]
 simp only [Sk]
 cases h1:one a d with
 | bad e p a1 d1 =>
  right
  exact⟨_,(by simp only [htr0,Option.map_some]; rfl),by simp,_,_,rfl⟩
 | ok x a1 d1 =>
  obtain⟨g1,g2,g3⟩:=hg a d _ _ _ h1 ha
  have g3:d=d1:=g3.symm
  subst g3
  cases h2:isS (tk L a1) [44] with
  | true =>
   left
   refine⟨(l++[x],a1+1,n),?_,⟨mS hK g2 h2,by simp; omega,by simp; omega⟩,by simp,?_⟩
   ·simp [h2,sO]
   ·intro r hr
    simpa [h2] using hr
  | false =>
   right
   exact⟨_,by simp only [h2]; rfl,by simp,by simp [h2]⟩
theorem d259 {one:PM XE}(w:List UInt8) (hg:mE L 1 (fun d=>d) one) {A B:List lR}{i a d:Nat}(ha:a < L.length) (hB:KB A B) (hi:Has A B i)
  (hone:∀(C:List lR) (a:Nat),a < L.length→KB A (B++C)→KK 223 [.ptr i 0] (HQ A L a d (B++C))=some ((one a d).res (fun x=>.agg (XE.cells x)) A L (B++C))) :
  KK 222 [.ptr A.length 0,.str w,.func 223 [] [.ptr i 0]] (HQ A L a d B)=some ((vW L w one a d).res (fun l=>.slice (l.map XE.cells) .no) A L B):=by
 refine lJ (akH _ _ _ _ _) ?_
 have h178:=d178 (L:=L)
 unfold qS at h178
 unfold vW
 cases hs:isS (tk L a) w
 ·obtain⟨r,h1,h2⟩:=Xb hL hK hg hB hi hone 131073 [] a ha (by omega) (ak5 _)
  simp only [List.map_nil,am3,sP] at h1
  simp -implicitDefEqProofs [asL,ha,hB,h178,hs,h1]
  cases h3:vD L one 131073 [] a d with
  | bad e p a' d' =>
   rw [h3] at h2
   obtain⟨vs,C,rfl⟩:=h2
   simp -implicitDefEqProofs [hB]
  | ok l' a' d' =>
   rw [h3] at h2
   subst h2
   simp -implicitDefEqProofs [hB]
 ·simp -implicitDefEqProofs [asL,ha,hB,h178,hs]
end
end
section
open Go Hk
section
variable {x:XE}{n m:Nat}{h:kT}
@[simp] theorem aFl:x.cells.length=5:=XE.row.len x
@[simp] theorem Wu:x.cells.take 5=x.cells:=List.take_of_length_le (by simp)
theorem aBQ:∀c∈x.cells,c.mH=true:=by simpa using XE.row.ok x
@[simp] theorem aFm:(∀c,c∈x.cells→c.mH=true)=True:=eq_true aBQ
@[simp] theorem aBP {os:List kP}:p9 h os x.cells=x.cells:=rC (by cases x; simp [XE.cells,kP.isNil])
@[simp] theorem aC5:x.cells.map (kP.tP∘fun c=>kP.m_ m h c)=x.cells:=by cases x; simp [XE.cells]
@[simp] theorem aFk:CL n x.cells:=by cases x; simp [XE.cells]
@[simp] theorem ae7:lB 1 5 [.int .i64 0,.int .i64 0,.int .i64 0,.str [],.slice [] .nil] [(0,.agg x.cells)] h=some (.slice [x.cells] (.own h.length),h++[.front 1 5]) :=
 wU (XE.row.len x) rfl (XE.row.pure x) (XE.row.ok x)
end
def rZ (x:XE):kP:=.agg x.cells
def Nr (l:List XE):kP:=.slice (l.map XE.cells) .no
attribute [simp] rZ Nr
def As:Option (Nat×Nat)→kP
 | some (n,k)=>.tuple [.int .i64 (n:Int),.int .i64 (k:Int)]
 | none=>.tuple [.int .i64 (-1),.int .i64 0]
set_option maxHeartbeats 1000000 in
theorem aDI (w:List UInt8) (h:kT):KK 221 [.str w] h=some (.ret (As (nT w)),h):=by
 refine lK rfl rfl (lJ (akG _ _ _) ?_)
 by_cases h0:w=[61,61]
 ·subst h0; simp -implicitDefEqProofs [Ft,nT,As,kS]
 by_cases h1:w=[33,61]
 ·subst h1; simp -implicitDefEqProofs [Ft,nT,As,kS]
 by_cases h2:w=[60]
 ·subst h2; simp -implicitDefEqProofs [Ft,nT,As,kS]
 by_cases h3:w=[60,61]
 ·subst h3; simp -implicitDefEqProofs [Ft,nT,As,kS]
 by_cases h4:w=[62]
 ·subst h4; simp -implicitDefEqProofs [Ft,nT,As,kS]
 by_cases h5:w=[62,61]
 ·subst h5; simp -implicitDefEqProofs [Ft,nT,As,kS]
 by_cases h6:w=[124]
 ·subst h6; simp -implicitDefEqProofs [Ft,nT,As,kS]
 by_cases h7:w=[94]
 ·subst h7; simp -implicitDefEqProofs [Ft,nT,As,kS]
 by_cases h8:w=[38]
 ·subst h8; simp -implicitDefEqProofs [Ft,nT,As,kS]
 by_cases h9:w=[60,60]
 ·subst h9; simp -implicitDefEqProofs [Ft,nT,As,kS]
 by_cases h10:w=[62,62]
 ·subst h10; simp -implicitDefEqProofs [Ft,nT,As,kS]
 by_cases h11:w=[43]
 ·subst h11; simp -implicitDefEqProofs [Ft,nT,As,kS]
 by_cases h12:w=[45]
 ·subst h12; simp -implicitDefEqProofs [Ft,nT,As,kS]
 by_cases h13:w=[42]
 ·subst h13; simp -implicitDefEqProofs [Ft,nT,As,kS]
 simp -implicitDefEqProofs [Ft,nT,As,kS,h0,h1,h2,h3,h4,h5,h6,h7,h8,h9,h10,h11,h12,h13]
def sgV (t:Token) (k:Nat):Int×Bool:=if t.kind=4 then(match nT t.text with | some (n,kind)=>(kind,decide (n=k)) | none=>(0,false)) else(0,false)
theorem SJ {t:Token}{k:Nat}(h:oK t k=none):(sgV t k).2=false:=by
 unfold oK at h
 unfold sgV
 split at h
 ·rename_i hk
  simp only [hk,if_true]
  split at h
  ·rename_i n kind hl
   split at h
   ·cases h
   ·rename_i hn; simp [hl,hn]
  ·rename_i hl; simp [hl]
 ·rename_i hk; simp [hk]
theorem SK {t:Token}{k kind:Nat}(h:oK t k=some kind):sgV t k=((kind:Int),true):=by
 unfold oK at h
 unfold sgV
 split at h
 ·rename_i hk
  simp only [hk,if_true]
  split at h
  ·rename_i n kd hl
   split at h
   ·rename_i hn; cases h; simp [hl,hn]
   ·cases h
  ·cases h
 ·cases h
section
variable {L:List Token}(hL:L.length≤131072) (hK:rE L)
def aAB (L:List Token) (k:Nat):PM (Int×Bool):=fun a d=>.ok (sgV (tk L a) k) a d
def aoL (x:Int×Bool):kP:=.tuple [.int .i64 x.1,.bool x.2]
attribute [simp] aAB aoL
theorem d249 (k:Nat):qS L (fun _=>True) 206 [.int .i64 (k:Int)] aoL (aAB L k):=by
 intro A B a d ha hd hB
 refine lJ (akB _ _ _ _) ?_
 have h76:=d76 (L:=L)
 unfold qS at h76
 have h258:=aDI
 simp -implicitDefEqProofs [aAg,ha,hB,h76]
 by_cases hk:(tk L a).kind=4
 ·simp -implicitDefEqProofs [hk,hB,h258,sgV]
  cases hl:nT (tk L a).text with
  | none =>
   have:¬(-1:Int)=k:=by omega
   simp -implicitDefEqProofs [As,hB,this]
  | some x =>
   obtain⟨n,kind⟩:=x
   simp -implicitDefEqProofs [As,hB]
   omega
 ·have hk':¬((tk L a).kind:Int)=4:=by omega
  simp -implicitDefEqProofs [hk',hk,hB,sgV]
def dk (n d:Nat):Prop:=d+n=65∧d≤64
theorem dk.up {n d:Nat}(h:dk (n+1) d) (hd:¬d=64):dk n (d+1):=⟨by have:=h.1; omega,by have:=h.2; omega⟩
include hL hK
theorem aDp {A B:List lR}{i a d:Nat}(hi:Has A B i) (ha:a < L.length) (hB:KB A B) :
  KK 105 [.ptr i 0] (HQ A L a d B)=some ((sM L a d).res (fun x=>.agg x.cells) A L B):=by
 refine lJ (aiY _ _ _) ?_
 have h142:=d142 hL hK
 unfold qS at h142
 have hg:∀C a d,oM (HQ A L a d (B++C)) i=some [.ptr A.length 0]:=fun C a d=>hi.app.get
 simp -implicitDefEqProofs [azU,ha,hB,hg,h142]
 cases h1:sM L a d with
 | bad e p a1 d1=>simp -implicitDefEqProofs [hB]
 | ok x a1 d1=>simp -implicitDefEqProofs [hB,XP.cells]
section
variable {n:Nat}{ex:PM XE}(he:qS L (dk n) 182 [] rZ ex) (hg:mE L 1 (fun d=>d) ex)
include he
omit hL hK in
theorem ayS {A B:List lR}{i a d:Nat}(hi:Has A B i) (ha:a < L.length) (hd:dk n d) (hB:KB A B) :
  KK 223 [.ptr i 0] (HQ A L a d B)=some ((ex a d).res rZ A L B):=by
 refine lJ (akI _ _ _) ?_
 unfold qS at he
 have hg:∀C a d,oM (HQ A L a d (B++C)) i=some [.ptr A.length 0]:=fun C a d=>hi.app.get
 simp -implicitDefEqProofs [aAj,ha,hB,hg,he,hd]
 cases h1:ex a d with
 | bad e p a1 d1=>simp -implicitDefEqProofs [hB]
 | ok x a1 d1=>simp -implicitDefEqProofs [hB]
include hg
theorem ayR {A B:List lR}{a d:Nat}(ha:a < L.length) (hd:dk (n+1) d) (hB:KB A B):match tF L ex a d with
  | .bad e p a' d'=>KK 208 [.ptr A.length 0] (HQ A L a d B)=some (.pan (qG e p),HQ A L a' d' B)
  | .ok l a' d'=>∃x,l=[x]∧KK 208 [.ptr A.length 0] (HQ A L a d B)=some (.ret (.slice [x.cells] (.own (HN A B+3))),HQ A L a' d' (B++[.front 0 0,.cells x.cells,.front 0 0,.front 1 5])):=by
 have h181:=d181 hL
 have h183:=d183 hL
 unfold qS at h181 h183 he
 have hd64:=hd.2
 have ev:∀r,T8 KK (.ptr A.length 0) (HQ A L a d B)=some r→KK 208 [.ptr A.length 0] (HQ A L a d B)=some r:=fun r hr=>lJ (akD _ _ _) hr
 unfold tF
 simp only [mO,PM.bind,tS]
 cases hs:isS (tk L a) [91]
 ·simp only [ak4,if_false]
  refine ev _ ?_
  simp -implicitDefEqProofs [T8,ha,hB,h181,hd64,hs]
 ·have ha1:=mS hK ha hs
  by_cases h64:d=64
  ·simp only [if_true,h64]
   rw [h64] at ev hd64
   refine ev _ ?_
   simp -implicitDefEqProofs [T8,ha,hB,h181,hs]
  ·have hd1:=hd.up h64
   simp only [if_true,h64,if_false]
   cases h1:ex (a+1) (d+1) with
   | bad e p a2 d2 =>
    refine ev _ ?_
    simp -implicitDefEqProofs [T8,ha,hB,h181,hd64,hs,h64,ha1,hd1,he,h1]
   | ok x a2 d2 =>
    obtain⟨g1,g2,g3⟩:=hg _ _ _ _ _ h1 ha1
    have g3:d2=d+1:=g3
    subst g3
    have h65:d≤64:=by omega
    simp only [tT]
    cases h2:isS (tk L a2) [93]
    ·simp only [ak4,if_false]
     refine ev _ ?_
     simp -implicitDefEqProofs [T8,ha,hB,h181,hd64,hs,h64,ha1,hd1,he,h1,g2,h183,h65,h2]
    ·simp only [if_true,yI]
     refine⟨x,rfl,ev _ ?_⟩
     simp -implicitDefEqProofs [T8,ha,hB,h181,hd64,hs,h64,ha1,hd1,he,h1,g2,h183,h65,h2]
theorem d250 (t:Token):qS L (dk (n+1)) 207 [.agg t.cells] rZ (xX L ex t):=by
 intro A B a d ha hd hB
 refine lJ (akC _ _ _ _) ?_
 have h181:=d181 hL
 have h183:=d183 hL
 have h260:=fun A B i a d hi ha hd hB=>ayS (A:=A) (B:=B) (i:=i) (a:=a) (d:=d) he hi ha hd hB
 unfold qS at h181 h183
 have hd64:=hd.2
 have hlt:A.length < HN A B:=Fu
 simp -implicitDefEqProofs [aAh,ha,hB,h181,hd64,xX,hlt,CK]
 cases hs:isS (tk L a) [40]
 ·simp -implicitDefEqProofs [hB]
 ·have ha1:=mS hK ha hs
  by_cases h64:d=64
  ·simp -implicitDefEqProofs [hB,h64]
  ·have hd1:=hd.up h64
   have hB':KB A (B++[.cells [.ptr A.length 0],.cells t.cells,.cells [.int .i64 0,.int .i64 0,.int .i64 0,.str [],.slice [] (.own (HN A B+3))],.front 0 0]):=hB.app (by simp [CK])
   have h259:=d259 hL hK (one:=ex) [41] hg ha1 hB' Has.new (fun C a ha hB=>ayS he Has.new.app ha hd1 hB)
   simp only [Token.cells] at h259
   simp -implicitDefEqProofs [hB,h64,ha1,h259,CK,hlt]
   cases h1:vW L [41] ex (a+1) (d+1) with
   | bad e p a2 d2=>simp -implicitDefEqProofs [hB]
   | ok l a2 d2 =>
    obtain⟨g1,g2,g3⟩:=FV hK hg _ _ _ _ _ h1 ha1
    have g3:d2=d+1:=g3
    subst g3
    have h65:d≤64:=by omega
    simp -implicitDefEqProofs [hB,g2,h183,h65,CK,hlt]
    cases h2:isS (tk L a2) [41] <;> simp -implicitDefEqProofs [hB,XE.cells,XE.pM]
end
end
end
section
open Go Hk
def Sj (L:List Token) (ex:PM XE) (n:Nat) (l:List XE):PM (List XE):=fun a d=>match ex a d with
 | .bad e p a1 d1=>.bad e p a1 d1
 | .ok x a1 d1=>rT L ex n false (l++[x]) a1 d1
theorem ac7 {L:List Token}{ex:PM XE}{n:Nat}{first:Bool}{l:List XE}{a d:Nat}:rT L ex (n+1) first l a d =
  if first=true then Sj L ex n l a d else if isS (tk L a) [44]=true then Sj L ex n l (a+1) d else .bad 10 (tk L a).pos a d:=by
 unfold Sj
 rw [rT]
 cases first
 ·simp only [Bool.not_false,if_true,mO,PM.bind,oQ,ak4,if_false]
  cases h:isS (tk L a) [44]
  ·simp
  ·simp only [if_true]
   cases ex (a+1) d <;> rfl
 ·simp only [Bool.not_true,ak4,if_false,if_true,mO,PM.bind]
  cases ex a d <;> rfl
section
variable {L:List Token}(hL:L.length≤131072) (hK:rE L)
variable {n:Nat}{ex:PM XE}(he:qS L (dk n) 182 [] rZ ex) (hg:mE L 1 (fun d=>d) ex)
include hL hK he hg
def mC (A B : List lR) (kind pos : Nat) (l : List XE) : List lR :=
  [.cells [.int .i64 0, .int .i64 0, .int .i64 0, .str [], .slice [] (.own (HN A B + 1))], .front 0 0,
   .cells [.int .i64 (kind : Int), .int .i64 (pos : Int), .int .i64 0, .str [], .slice (l.map XE.cells) (.own (HN A B + 3))], .front l.length (uG l.length 5)]
theorem Xc {A B:List lR}{kind pos many d:Nat}{num:Bool}(hB:KB A B) (hd:dk n d) (hm:many≤8) (rem:Nat) (l:List XE) (a:Nat) (ha:a < L.length) (hl:l.length+rem=many) :
  ∃r,mQ (Cy KK (HN A B+4)) ([.ptr A.length 0,.bool num,.ptr (HN A B) 0,.ptr (HN A B+2) 0,.int .i64 (many:Int),.int .i64 (l.length:Int)],HQ A L a d (B++mC A B kind pos l))=some r ∧
   match rT L ex rem (decide (l.length=0)) l a d with
   | .ok l' a' d'=>r=(.exit 0,[.ptr A.length 0,.bool num,.ptr (HN A B) 0,.ptr (HN A B+2) 0,.int .i64 (many:Int),.int .i64 (many:Int)],HQ A L a' d' (B++mC A B kind pos l'))
   | .bad e p a' d'=>∃vs C,r=(.pan (qG e p),vs,HQ A L a' d' (B++C)):=by
 have h138:=d138 hL
 unfold qS at h138 he
 refine Df (σ:=List XE×Nat×Nat) (fun s=>([.ptr A.length 0,.bool num,.ptr (HN A B) 0,.ptr (HN A B+2) 0,.int .i64 (many:Int),.int .i64 (s.1.length:Int)],HQ A L s.2.1 d (B++mC A B kind pos s.1)))
  (fun s=>s.2.1 < L.length∧s.1.length+s.2.2=many) (fun s=>s.2.2)
  (fun s r=>match rT L ex s.2.2 (decide (s.1.length=0)) s.1 s.2.1 d with
   | .ok l' a' d'=>r=(.exit 0,[.ptr A.length 0,.bool num,.ptr (HN A B) 0,.ptr (HN A B+2) 0,.int .i64 (many:Int),.int .i64 (many:Int)],HQ A L a' d' (B++mC A B kind pos l'))
   | .bad e p a' d'=>∃vs C,r=(.pan (qG e p),vs,HQ A L a' d' (B++C))) ?_ (l,a,rem) ⟨ha,hl⟩
 rintro⟨l,a,rem⟩ ⟨ha,hl⟩
 simp only at ha hl
 have hsp:∀h,kP.xR (HN A B+4) h (.ptr A.length 0)=.ptr A.length 0:=fun h=>uA CK
 have hsp2:∀h,kP.xR (HN A B+4) h (.ptr (HN A B) 0)=.ptr (HN A B) 0:=fun h=>uA (by omega)
 have hsp3:∀h,kP.xR (HN A B+4) h (.ptr (HN A B+2) 0)=.ptr (HN A B+2) 0:=fun h=>uA (by omega)
 have hKB:∀l,KB A (B++mC A B kind pos l):=fun l=>hB.app (by simp [mC])
 have htr:∀a d l C,mI (HN A B+4) (HQ A L a d (B++(mC A B kind pos l++C)))=some (HQ A L a d (B++mC A B kind pos l)):=fun a d l C=>by
  have:=zC (L:=L) (a:=a) (d:=d) (A:=A) (B:=B) (C:=mC A B kind pos l++C) (k:=4) (by simpa [mC] using hKB l) (by simp [mC])
  simpa [mC] using this
 have htr0:∀a d l,mI (HN A B+4) (HQ A L a d (B++mC A B kind pos l))=some (HQ A L a d (B++mC A B kind pos l)):=fun a d l=>by
  have:=htr a d l []
  simpa using this
 cases rem with
 | zero =>
  right
  have:(l.length:Int)=many:=by omega
  refine⟨(.exit 0,[.ptr A.length 0,.bool num,.ptr (HN A B) 0,.ptr (HN A B+2) 0,.int .i64 (many:Int),.int .i64 (many:Int)],HQ A L a d (B++mC A B kind pos l)),?_,by simp,?_⟩
  ·simp -implicitDefEqProofs only [Cy,List.getD_cons_zero,List.getD_cons_succ,Zq,an3,FL,this,Int.lt_irrefl,decide_false,cond_false,lA,htr0,Option.map_some,ak9,List.map_nil,hsp,hsp2,hsp3,alI,ad4,TG]
  ·simp only [rT,yI]
 | succ rem =>
  have hlt:(l.length:Int) < many:=by omega
  have hfst0:∀(hc:l=[]),Cy KK (HN A B+4) ([.ptr A.length 0,.bool num,.ptr (HN A B) 0,.ptr (HN A B+2) 0,.int .i64 (many:Int),.int .i64 (l.length:Int)],HQ A L a d (B++mC A B kind pos l)) =
    match ex a d with
    | .bad e p a1 d1=>some (.pan (qG e p),[.ptr A.length 0,.bool num,.ptr (HN A B) 0,.ptr (HN A B+2) 0,.int .i64 (many:Int),.int .i64 (l.length:Int)],HQ A L a1 d1 (B++mC A B kind pos l))
    | .ok x a1 d1=>some (.normal,[.ptr A.length 0,.bool num,.ptr (HN A B) 0,.ptr (HN A B+2) 0,.int .i64 (many:Int),.int .i64 ((l++[x]).length:Int)],HQ A L a1 d (B++mC A B kind pos (l++[x]))):=by
   intro hc
   have ha1:=ha
   have hc1:¬0 < l.length:=by simp [hc]
   have htr1:=fun a d=>htr0 a d l
   simp only [mC] at htr1
   simp -implicitDefEqProofs [Cy,mC,hlt,hB,ha,hc1,he,ha1,hd]
   cases h1:ex a d with
   | bad e p a1 d1=>simp -implicitDefEqProofs [lA,htr1,hsp,hsp2,hsp3]
   | ok x a1 d1 =>
    obtain⟨g1,g2,g3⟩:=hg _ _ _ _ _ h1 ha1
    have g3:d=d1:=g3.symm
    subst g3
    have b2:=Dr (A:=A) (B:=B) (L:=L) (a:=a1) (d:=d) (C:=mC A B kind pos l++[.front 1 5]) (k:=3) (rows:=l.map XE.cells) (new:=[x.cells]) (sz:=5) (by_:=64) (sz':=uG l.length 5) (t:=.own (HN A B+4)) (by simp [mC]) (by rw [ak1]; exact CO _ _) (by simp) (by simp) (by simp; omega) (by simp; omega)
    simp only [mC,ak1,List.length_singleton,af5,an4,List.set_cons_succ,List.set_cons_zero] at b2
    have htr2:=htr a1 d (l++[x]) [.front 1 5]
    simp only [mC,af5,an4,List.map_append,ak9,List.map_nil,ac6,List.length_singleton,sO] at htr2
    have w1:=vR (a:=l.length) (by omega)
    simp -implicitDefEqProofs [b2,lA,htr2,hsp,hsp2,hsp3,w1,sO]
  have hfst1:∀(hc:l≠[]∧isS (tk L a) [44]=true),Cy KK (HN A B+4) ([.ptr A.length 0,.bool num,.ptr (HN A B) 0,.ptr (HN A B+2) 0,.int .i64 (many:Int),.int .i64 (l.length:Int)],HQ A L a d (B++mC A B kind pos l)) =
    match ex (a+1) d with
    | .bad e p a1 d1=>some (.pan (qG e p),[.ptr A.length 0,.bool num,.ptr (HN A B) 0,.ptr (HN A B+2) 0,.int .i64 (many:Int),.int .i64 (l.length:Int)],HQ A L a1 d1 (B++mC A B kind pos l))
    | .ok x a1 d1=>some (.normal,[.ptr A.length 0,.bool num,.ptr (HN A B) 0,.ptr (HN A B+2) 0,.int .i64 (many:Int),.int .i64 ((l++[x]).length:Int)],HQ A L a1 d (B++mC A B kind pos (l++[x]))):=by
   intro hc
   obtain⟨hc,hs⟩:=hc
   have ha1:=mS hK ha hs
   have hc1:0 < l.length:=List.length_pos_iff.2 hc
   have htr1:=fun a d=>htr0 a d l
   simp only [mC] at htr1
   simp -implicitDefEqProofs [Cy,mC,hlt,hB,ha,hc,hs,hc1,h138,he,ha1,hd]
   cases h1:ex (a+1) d with
   | bad e p a1 d1=>simp -implicitDefEqProofs [lA,htr1,hsp,hsp2,hsp3]
   | ok x a1 d1 =>
    obtain⟨g1,g2,g3⟩:=hg _ _ _ _ _ h1 ha1
    have g3:d=d1:=g3.symm
    subst g3
    have b2:=Dr (A:=A) (B:=B) (L:=L) (a:=a1) (d:=d) (C:=mC A B kind pos l++[.front 1 5]) (k:=3) (rows:=l.map XE.cells) (new:=[x.cells]) (sz:=5) (by_:=64) (sz':=uG l.length 5) (t:=.own (HN A B+4)) (by simp [mC]) (by rw [ak1]; exact CO _ _) (by simp) (by simp) (by simp; omega) (by simp; omega)
    simp only [mC,ak1,List.length_singleton,af5,an4,List.set_cons_succ,List.set_cons_zero] at b2
    have htr2:=htr a1 d (l++[x]) [.front 1 5]
    simp only [mC,af5,an4,List.map_append,ak9,List.map_nil,ac6,List.length_singleton,sO] at htr2
    have w1:=vR (a:=l.length) (by omega)
    simp -implicitDefEqProofs [b2,lA,htr2,hsp,hsp2,hsp3,w1,sO]
  simp only [ac7,decide_eq_true_eq]
  by_cases hl0:l=[]
  ·have hf:=hfst0 hl0
   have:l.length=0:=by simp [hl0]
   rw [hf]
   simp only [this,if_true,Sj]
   cases h1:ex a d with
   | bad e p a1 d1=>exact .inr ⟨_,rfl,by simp,_,_,rfl⟩
   | ok x a1 d1 =>
    obtain⟨g1,g2,g3⟩:=hg _ _ _ _ _ h1 ha
    have g3:d=d1:=g3.symm
    subst g3
    exact .inl ⟨(l++[x],a1,rem),rfl,⟨g2,by simp; omega⟩,by simp,fun r hr=>by simpa using hr⟩
  ·have h0:¬l.length=0:=by simpa using hl0
   simp only [h0,if_false]
   cases hs:isS (tk L a) [44] with
   | false =>
    right
    have hc1:0 < l.length:=by omega
    have htr1:=fun a d=>htr0 a d l
    simp only [mC] at htr1
    refine⟨(.pan (qG 10 (tk L a).pos),[.ptr A.length 0,.bool num,.ptr (HN A B) 0,.ptr (HN A B+2) 0,.int .i64 (many:Int),.int .i64 (l.length:Int)],HQ A L a d (B++mC A B kind pos l)),?_,by simp,?_⟩
    ·simp -implicitDefEqProofs [Cy,mC,hlt,hB,ha,h138,hs,hc1,lA,htr1,hsp,hsp2,hsp3]
    ·simp only [ak4,if_false]
     exact⟨_,_,rfl⟩
   | true =>
    have hf:=hfst1 ⟨hl0,hs⟩
    have ha1:=mS hK ha hs
    rw [hf]
    simp only [if_true,Sj]
    cases h1:ex (a+1) d with
    | bad e p a1 d1=>exact .inr ⟨_,rfl,by simp,_,_,rfl⟩
    | ok x a1 d1 =>
     obtain⟨g1,g2,g3⟩:=hg _ _ _ _ _ h1 ha1
     have g3:d=d1:=g3.symm
     subst g3
     exact .inl ⟨(l++[x],a1,rem),rfl,⟨g2,by simp; omega⟩,by simp,fun r hr=>by simpa using hr⟩
theorem aDJ {A B:List lR}{a d kind many:Nat}{num:Bool}(ha:a < L.length) (ha1:a+1 < L.length) (hd:dk (n+1) d) (hB:KB A B) (hm:many≤8) :
  KK 228 [.ptr A.length 0,.int .i64 (kind:Int),.int .i64 (many:Int),.bool num] (HQ A L a d B)=some ((uX L ex kind many num a d).res rZ A L B):=by
 refine lJ (akK _ _ _ _ _ _) ?_
 have h76:=d76 (L:=L)
 have h181:=d181 hL
 have h183:=d183 hL
 have h138:=d138 hL
 have h139:=d139 hL 2
 unfold qS at h76 h181 h183 h138 h139
 simp only [ae8] at h139
 have hd64:=hd.2
 have w1:=vR (a:=a) (by omega)
 simp -implicitDefEqProofs [aAl,ha,ha1,hB,h76,h181,hd64,w1,uX]
 cases hs:isS (tk L (a+1)) [40]
 ·simp -implicitDefEqProofs [hB]
 ·have ha2:=mS hK ha1 hs
  by_cases h64:d=64
  ·simp -implicitDefEqProofs [hB,h64]
  ·have hd1:=hd.up h64
   obtain⟨r,h1,h2⟩:=Xc hL hK he hg (kind:=kind) (pos:=(tk L a).pos) (num:=num) hB hd1 hm many [] (a+1+1) ha2 (by simp)
   simp only [List.map_nil,am3,sP,decide_true,mC,ae8] at h1 h2
   simp -implicitDefEqProofs [hB,h64,ha2,h1]
   cases h3:rT L ex many true [] (a+1+1) (d+1) with
   | bad e p a3 d3 =>
    rw [h3] at h2
    obtain⟨vs,C,rfl⟩:=h2
    simp -implicitDefEqProofs [hB]
   | ok l a3 d3 =>
    obtain⟨g1,g2,g3⟩:=La hK hg _ _ _ _ _ _ _ _ h3 ha2
    have g3:d3=d+1:=g3
    subst g3
    rw [h3] at h2
    subst h2
    have h65:d≤64:=by omega
    cases num with
    | false =>
     simp -implicitDefEqProofs [hB,g2,h183,h65,mC]
     cases h4:isS (tk L a3) [41] <;> simp -implicitDefEqProofs [hB,XE.cells,XE.pM]
    | true =>
     simp -implicitDefEqProofs [hB,g2,h138,mC]
     cases h4:isS (tk L a3) [44]
     ·simp -implicitDefEqProofs [hB]
     ·have ha4:=mS hK g2 h4
      simp -implicitDefEqProofs [hB,ha4,h139]
      by_cases h5:(tk L (a3+1)).kind=2
      ·have ha5:=qF (k:=2) hK ha4 (by decide) h5
       simp -implicitDefEqProofs [hB,h5,ha5,h183,h65]
       cases h6:isS (tk L (a3+1+1)) [41] <;> simp -implicitDefEqProofs [hB,XE.cells,XE.pM]
      ·simp -implicitDefEqProofs [hB,h5]
theorem d262:qS L (dk (n+1)) 227 [] rZ (oA L ex):=by
 intro A B a d ha hd hB
 refine lJ (akJ _ _ _) ?_
 have h76:=d76 (L:=L)
 have h178:=d178 (L:=L)
 have h181:=d181 hL
 have h183:=d183 hL
 have h139:=d139 hL 1
 have h250:=fun t=>d250 hL hK he hg t
 have he':=he
 unfold qS at h76 h178 h181 h183 h139 h250 he'
 simp only [ae8] at h139
 have hd64:=hd.2
 have w1:=vR (a:=a) (by omega)
 have h263:=fun B (ha1:a+1 < L.length) (hB:KB A B) kind many num hm=>aDJ hL hK he hg (A:=A) (B:=B) (kind:=kind) (many:=many) (num:=num) ha ha1 hd hB hm
 simp -implicitDefEqProofs [aAk,ha,hB,h76,oA]
 by_cases hk:(tk L a).kind=2
 ·simp -implicitDefEqProofs [hk,ha,hB,w1,XE.cells,XE.rows]
 ·have hk':¬((tk L a).kind:Int)=2:=by omega
  simp -implicitDefEqProofs [hk,hk',ha,hB,h178]
  cases s0:isS (tk L a) [40]
  ·simp -implicitDefEqProofs [ha,hB,h178]
   cases s1:isS (tk L a) [109,117,108,104,105]
   ·simp -implicitDefEqProofs [ha,hB,h178]
    cases s2:isS (tk L a) [99,97,114,114,121]
    ·simp -implicitDefEqProofs [ha,hB,h178]
     cases s3:isS (tk L a) [115,101,108,101,99,116]
     ·simp -implicitDefEqProofs [ha,hB,h178]
      cases s4:isS (tk L a) [119,111,114,100]
      ·simp -implicitDefEqProofs [ha,hB,h178]
       cases s5:isS (tk L a) [114,111,114]
       ·simp -implicitDefEqProofs [ha,hB,h178,h139]
        by_cases hn:(tk L a).kind=1
        ·have ha1:=qF (k:=1) hK ha (by decide) hn
         simp -implicitDefEqProofs [hn,ha1,hB,h178]
         cases q1:isS (tk L (a+1)) [40]
         ·simp -implicitDefEqProofs [ha1,hB,h178]
          cases q2:isS (tk L (a+1)) [91]
          ·simp -implicitDefEqProofs [ha1,hB,XE.cells,XE.rows]
          ·have i1:=ayR hL hK he hg (A:=A) (B:=B++[.cells [.int .i64 0,.int .i64 0,.int .i64 0,.str [],.slice [] (.own (HN A B+1))],.front 0 0,.gone]) ha1 hd (hB.app (by simp))
           simp -implicitDefEqProofs [ha1,hB]
           cases q3:tF L ex (a+1) d with
           | bad e p a3 d3 =>
            rw [q3] at i1
            simp -implicitDefEqProofs [hB,i1]
           | ok l a3 d3 =>
            rw [q3] at i1
            obtain⟨x,rfl,i2⟩:=i1
            simp -implicitDefEqProofs [hB,i2,XE.cells,XE.rows]
         ·have h250':=h250 (tk L a)
          simp -implicitDefEqProofs [hn] at h250'
          simp -implicitDefEqProofs [ha1,hB,h250',hd]
          cases q3:xX L ex (tk L a) (a+1) d with
          | bad e p a3 d3=>simp -implicitDefEqProofs [hB]
          | ok x a3 d3=>simp -implicitDefEqProofs [hB]
        ·simp -implicitDefEqProofs [hn,hB]
       ·have ha1:=mS hK ha s5
        have h263':=fun B hB=>h263 B ha1 hB 16 1 true (by decide)
        simp only [ae8] at h263'
        simp -implicitDefEqProofs [hB,h263']
        cases q3:uX L ex 16 1 true a d with
        | bad e p a3 d3=>simp -implicitDefEqProofs [hB]
        | ok x a3 d3=>simp -implicitDefEqProofs [hB]
      ·have ha1:=mS hK ha s4
       have h263':=fun B hB=>h263 B ha1 hB 26 1 false (by decide)
       simp only [ae8] at h263'
       simp -implicitDefEqProofs [hB,h263']
       cases q3:uX L ex 26 1 false a d with
       | bad e p a3 d3=>simp -implicitDefEqProofs [hB]
       | ok x a3 d3=>simp -implicitDefEqProofs [hB]
     ·have ha1:=mS hK ha s3
      have h263':=fun B hB=>h263 B ha1 hB 25 3 false (by decide)
      simp only [ae8] at h263'
      simp -implicitDefEqProofs [hB,h263']
      cases q3:uX L ex 25 3 false a d with
      | bad e p a3 d3=>simp -implicitDefEqProofs [hB]
      | ok x a3 d3=>simp -implicitDefEqProofs [hB]
    ·have ha1:=mS hK ha s2
     have h263':=fun B hB=>h263 B ha1 hB 24 2 false (by decide)
     simp only [ae8] at h263'
     simp -implicitDefEqProofs [hB,h263']
     cases q3:uX L ex 24 2 false a d with
     | bad e p a3 d3=>simp -implicitDefEqProofs [hB]
     | ok x a3 d3=>simp -implicitDefEqProofs [hB]
   ·have ha1:=mS hK ha s1
    have h263':=fun B hB=>h263 B ha1 hB 23 2 false (by decide)
    simp only [ae8] at h263'
    simp -implicitDefEqProofs [hB,h263']
    cases q3:uX L ex 23 2 false a d with
    | bad e p a3 d3=>simp -implicitDefEqProofs [hB]
    | ok x a3 d3=>simp -implicitDefEqProofs [hB]
  ·have ha1:=mS hK ha s0
   simp -implicitDefEqProofs [hB,ha,h181,hd64,s0]
   by_cases h64:d=64
   ·simp -implicitDefEqProofs [hB,h64]
   ·have hd1:=hd.up h64
    simp -implicitDefEqProofs [hB,h64,ha1,hd1,he']
    cases q1:ex (a+1) (d+1) with
    | bad e p a2 d2=>simp -implicitDefEqProofs [hB]
    | ok x a2 d2 =>
     obtain⟨g1,g2,g3⟩:=hg _ _ _ _ _ q1 ha1
     have g3:d2=d+1:=g3
     subst g3
     have h65:d≤64:=by omega
     simp -implicitDefEqProofs [hB,g2,h183,h65]
     cases q2:isS (tk L a2) [41] <;> simp -implicitDefEqProofs [hB]
end
end
section
open Go Hk
section
variable {L:List Token}(hL:L.length≤131072) (hK:rE L)
variable {n:Nat}{ex un:PM XE}(he:qS L (dk n) 182 [] rZ ex) (hg:mE L 1 (fun d=>d) ex) (hu:qS L (dk n) 220 [] rZ un) (hgu:mE L 1 (fun d=>d) un)
include hL hK he hg hu hgu
theorem d257:qS L (dk (n+1)) 220 [] rZ (uY L ex un):=by
 intro A B a d ha hd hB
 refine lJ (akF _ _ _) ?_
 have h76:=d76 (L:=L)
 have h178:=d178 (L:=L)
 have h181:=d181 hL
 have h262:=d262 hL hK he hg
 have hu':=hu
 unfold qS at h76 h178 h181 h262 hu'
 have hd64:=hd.2
 simp -implicitDefEqProofs [aAi,ha,hB,h76,h178,uY]
 have key:∀s:List UInt8,isS (tk L a) s=true→(tk L a).text=s:=by
  intro s hs
  simp [isS] at hs
  exact hs.2
 cases s1:isS (tk L a) [126]
 ·simp -implicitDefEqProofs [ha,hB,h178]
  cases s2:isS (tk L a) [45]
  ·simp -implicitDefEqProofs [ha,hB,h178]
   cases s3:isS (tk L a) [33]
   ·simp -implicitDefEqProofs [ha,hB,h262,hd]
    cases q:oA L ex a d with
    | bad e p a1 d1=>simp -implicitDefEqProofs [hB]
    | ok x a1 d1=>simp -implicitDefEqProofs [hB]
   ·have ha1:=mS hK ha s3
    have ht:=key _ s3
    simp -implicitDefEqProofs [ha,hB,h181,hd64,Ag,ht,s3]
    by_cases h64:d=64
    ·simp -implicitDefEqProofs [hB,h64]
    ·have hd1:=hd.up h64
     simp -implicitDefEqProofs [hB,h64,ha1,hd1,hu']
     cases q:un (a+1) (d+1) with
     | bad e p a1 d1=>simp -implicitDefEqProofs [hB]
     | ok x a1 d1 =>
      obtain⟨g1,g2,g3⟩:=hgu _ _ _ _ _ q ha1
      have g3:d1=d+1:=g3
      subst g3
      have w1:=wrapN (a:=d) (by omega)
      simp -implicitDefEqProofs [hB,w1,XE.cells,XE.rows]
  ·have ha1:=mS hK ha s2
   have ht:=key _ s2
   simp -implicitDefEqProofs [ha,hB,h181,hd64,Ag,ht,s2]
   by_cases h64:d=64
   ·simp -implicitDefEqProofs [hB,h64]
   ·have hd1:=hd.up h64
    simp -implicitDefEqProofs [hB,h64,ha1,hd1,hu']
    cases q:un (a+1) (d+1) with
    | bad e p a1 d1=>simp -implicitDefEqProofs [hB]
    | ok x a1 d1 =>
     obtain⟨g1,g2,g3⟩:=hgu _ _ _ _ _ q ha1
     have g3:d1=d+1:=g3
     subst g3
     have w1:=wrapN (a:=d) (by omega)
     simp -implicitDefEqProofs [hB,w1,XE.cells,XE.rows]
 ·have ha1:=mS hK ha s1
  have ht:=key _ s1
  simp -implicitDefEqProofs [ha,hB,h181,hd64,Ag,ht,s1]
  by_cases h64:d=64
  ·simp -implicitDefEqProofs [hB,h64]
  ·have hd1:=hd.up h64
   simp -implicitDefEqProofs [hB,h64,ha1,hd1,hu']
   cases q:un (a+1) (d+1) with
   | bad e p a1 d1=>simp -implicitDefEqProofs [hB]
   | ok x a1 d1 =>
    obtain⟨g1,g2,g3⟩:=hgu _ _ _ _ _ q ha1
    have g3:d1=d+1:=g3
    subst g3
    have w1:=wrapN (a:=d) (by omega)
    simp -implicitDefEqProofs [hB,w1,XE.cells,XE.rows]
end
end
section
open Go Hk
theorem ac8 {L:List Token}{next:PM XE}{k n a d:Nat}{x:XE}:q7 L next k (n+1) x a d=match oK (tk L a) k with
  | none=>.ok x a d
  | some kind=>if kind=14∨kind=15 then(if (tk L (a+1)).kind=2 then q7 L next k n (.mk kind (tk L a).pos (tk L (a+1)).num [] [x]) (a+1+1) d else .bad 10 (tk L (a+1)).pos (a+1) d)
    else match next (a+1) d with
     | .bad e p a2 d2=>.bad e p a2 d2
     | .ok y a2 d2=>q7 L next k n (.mk kind (tk L a).pos 0 [] [x,y]) a2 d2:=by
 rw [q7]
 simp only [mO,PM.bind,o7]
 cases oK (tk L a) k with
 | none=>rfl
 | some kind =>
  by_cases h:kind=14∨kind=15
  ·by_cases h2:(tk L (a+1)).kind=2 <;> simp [h,h2]
  ·simp only [h,if_false,mO,PM.bind,w_]
   cases next (a+1) d <;> rfl
def Bg (h:kT) (id:Nat):Bool:=match h[id]? with
 | some .free=>true
 | _=>false
theorem Lj {h:kT}{id:Nat}:Bg h id=true→h[id]?=some .free:=by
 unfold Bg
 split
 ·rename_i e; exact fun _=>e
 ·intro h; cases h
section
variable {A B C:List lR}{L:List Token}{a d k:Nat}{h:kT}
@[simp] theorem anV {r:kT}:Bg (.free::r) 0=true:=(rfl)
@[simp] theorem anU {b:lR}{r:kT}{n:Nat}:Bg (b::r) (n+1)=Bg r n:=(rfl)
@[simp] theorem aB2:Bg (HQ A L a d (B++C)) (HN A B+k)=Bg C k:=by unfold Bg; rw [Kj]
theorem H0 {id n:Nat}{v:kP}(hf:Bg h id=true):xM id n h v=if v.cells.length=n∧v.cells.all kP.mH then some (.ptr id 0,h.set id (.cells v.cells)) else none:=by
 unfold xM
 simp only [Lj hf]
theorem UT {x:XE}{id:Nat}(hf:Bg h id=true):qY id 1 5 [.int .i64 0,.int .i64 0,.int .i64 0,.str [],.slice [] .nil] [(0,.agg x.cells)] h=some (.slice [x.cells] (.own id),h.set id (.front 1 5)):=by
 have:=ae7 (x:=x) (h:=h)
 unfold lB at this
 unfold qY
 simp only [Lj hf]
 split at this
 ·rename_i rows hr
  cases this
  simp only [hr]
 ·cases this
theorem agD (hk:k≤C.length):List.take (HN A B+k) (HQ A L a d (B++C))=HQ A L a d (B++C.take k):=by
 have e:HQ A L a d (B++C)=HQ A L a d (B++C.take k)++C.drop k:=by rw [Ki,al2,List.take_append_drop]
 rw [e]
 have:HN A B+k=(HQ A L a d (B++C.take k)).length:=by rw [HJ,CM,aj9,Nat.min_eq_left hk]
 rw [this,List.take_left]
theorem af7 (hk:k≤C.length):List.drop (HN A B+k) (HQ A L a d (B++C))=C.drop k:=by
 have e:HQ A L a d (B++C)=HQ A L a d (B++C.take k)++C.drop k:=by rw [Ki,al2,List.take_append_drop]
 rw [e]
 have:HN A B+k=(HQ A L a d (B++C.take k)).length:=by rw [HJ,CM,aj9,Nat.min_eq_left hk]
 rw [this,List.drop_left]
theorem Gr {n : Nat} : ∀ {cs : List kP}, CL n cs → cs.all (kP.oZ n) = true
  | [], _ => rfl
  | v :: cs, hc => by
    have key : ∀ h, (v.m_ n h).mH = true ∧ v.m_ n h = v ∧ nK n h cs = some cs := fun h => by
      have := hc n h (ac9 _)
      rw [tK] at this
      cases he : (v.m_ n h).mH with
      | false => rw [he] at this; cases this
      | true =>
        rw [he] at this
        simp only [cond_true, ac5, List.cons.injEq] at this
        obtain ⟨r, h1, h2, h3⟩ := this
        subst h3
        exact ⟨rfl, h2, h1⟩
    have hcs : CL n cs := fun m h hm => by
      have := hc m h hm
      rw [tK] at this
      cases he : (v.m_ m h).mH with
      | false => rw [he] at this; cases this
      | true =>
        rw [he] at this
        simp only [cond_true, ac5, List.cons.injEq] at this
        obtain ⟨r, h1, h2, h3⟩ := this
        subst h3; exact h1
    rw [List.all_cons, Gr hcs, Bool.and_true]
    obtain ⟨h1, h2, _⟩ := key []
    have nj : v.m_ n [] ≠ .junk := by intro e; rw [e] at h1; cases h1
    cases v with
    | slice rows t =>
      cases t with
      | own id =>
        rw [SD] at h2
        cases hd : decide (id < n) with
        | true => simpa [kP.oZ, kP.rL, sV] using hd
        | false => rw [hd] at h2; simp at h2
      | _ => rfl
    | ptr id off =>
      cases hd : decide (id < n) with
      | true => simpa [kP.oZ, kP.rL, sV] using hd
      | false => exact absurd (by simp [kP.m_, hd]) nj
    | mslice id off len sz =>
      cases hd : decide (id < n) with
      | true => simpa [kP.oZ, kP.rL, sV] using hd
      | false => exact absurd (by simp [kP.m_, hd]) nj
    | vslice id tot off len sz =>
      cases hd : decide (id < n) with
      | true => simpa [kP.oZ, kP.rL, sV] using hd
      | false => simp [kP.m_, hd, kP.oZ, kP.rL, sV] at nj h2
    | _ =>
      simp only [kP.m_] at nj
      first
        | (cases hs : kP.oZ n _ with
           | true => rfl
           | false => rw [hs] at nj; exact absurd rfl nj)
        | rfl
theorem Ko {n:Nat}:∀{C:List lR},HG n C→C.all (xU n)=true
 | [],_=>rfl
 | b::C,hc=>by
  have hC:HG n C:=fun m h hm=>by
   have:=hc m h hm
   rw [oV,ab0] at this
   obtain⟨b',h1,h2⟩:=this
   rw [ac5] at h2
   obtain⟨r,h3,h4⟩:=h2
   cases h4; exact h3
  have hb:∀m h,n≤m→qB m h b=some b:=fun m h hm=>by
   have:=hc m h hm
   rw [oV,ab0] at this
   obtain⟨b',h1,h2⟩:=this
   rw [ac5] at h2
   obtain⟨r,h3,h4⟩:=h2
   cases h4; exact h1
  rw [List.all_cons,Ko hC,Bool.and_true]
  cases b with
  | cells cs =>
   refine Gr (n:=n) fun m h hm=>?_
   have:=hb m h hm
   rw [Ht,ac5] at this
   obtain⟨r,h1,h2⟩:=this
   cases h2; exact h1
  | vec tot sz cs =>
   refine Gr (n:=n) fun m h hm=>?_
   have:=hb m h hm
   simp only [qB,ac5] at this
   obtain⟨r,h1,h2⟩:=this
   cases h2; exact h1
  | tcells t cs =>
   refine Gr (n:=n) fun m h hm=>?_
   have:=hb m h hm
   simp only [qB,ac5] at this
   obtain⟨r,h1,h2⟩:=this
   cases h2; exact h1
  | map es =>
   have:=hb n [] (ac9 _)
   simp only [qB] at this
   cases he:es.all (fun e=>e.2.oZ n) with
   | true=>exact he
   | false=>rw [he] at this; cases this
  | _=>rfl
theorem agC {m:Nat}(hB:KB A B) (hm:m=HN A B):(HQ A L a d B).all (xU m)=true:=by
 subst hm
 unfold HQ
 rw [List.all_append,List.all_cons,Ko (hB.a _ (ac9 _)),Ko (hB.b _ (ac9 _))]
 rfl
theorem Uw {m i o:Nat}(hi:i < m):AJ m (.ptr i o)=.ptr i o:=by simp [AJ,kP.oZ,kP.rL,sV,hi]
theorem RN {m:Nat}{kv:kP→kT→Option R}{v:kP}{h':kT}:Py m h kv (.normal,[v],h')=bif h'.length == m then kv v (h'++h.drop m) else none:=(rfl)
theorem E1 {C1 C1' C2:List lR}(hB:KB A B) (hk:k=C1.length) (hs:nX (HN A B+k) (HQ A L a d (B++(C1++C2))) C1=some C1') :
  mI (HN A B+k) (HQ A L a d (B++(C1++C2)))=some (HQ A L a d (B++C1')):=by
 subst hk
 have e:HQ A L a d (B++(C1++C2))=HQ A L a d (B++C1)++C2:=by rw [Ki,al2]
 have hl:HN A B+C1.length=(HQ A L a d (B++C1)).length:=by rw [HJ,CM]
 have app:∀{m:Nat}{h:kT}{X Y X' Y':List lR},nX m h X=some X'→nX m h Y=some Y'→nX m h (X++Y)=some (X'++Y'):=by
  intro m h X
  induction X with
  | nil=>intro Y X' Y' h1 h2; simp [nX] at h1; subst h1; exact h2
  | cons b r ih =>
   intro Y X' Y' h1 h2
   rw [oV,ab0] at h1
   obtain⟨b',e1,e2⟩:=h1
   rw [ac5] at e2
   obtain⟨r',e3,rfl⟩:=e2
   rw [af5,oV,e1,an3,ih e3 h2]
   rfl
 unfold Hk.mI
 rw [show List.take (HN A B+C1.length) (HQ A L a d (B++(C1++C2)))=HQ A L a d (B++C1) by rw [e,hl,List.take_left]]
 unfold HQ at hs ⊢
 have hPB:∀m h,qB m h (PB L a d)=some (PB L a d):=fun _ _=>rfl
 refine app (hB.a _ (ac9 _) _ _ (by omega)) ?_
 rw [oV,hPB,an3,app (hB.b _ (ac9 _) _ _ (by omega)) hs]
 rfl
end
end
section
open Go Hk
@[simp] theorem amH {x:XE}:x.cells.drop 5=[]:=List.drop_eq_nil_iff.2 (by simp)
@[simp] theorem aFM {h:kT}{os:List kP}{k1 k2 k3:IntKind}{z1 z2 z3:Int}{w:List UInt8}{rows:List (List kP)}{id:Nat} :
  p9 h os [.int k1 z1,.int k2 z2,.int k3 z3,.str w,.slice rows (.own id)]=[.int k1 z1,.int k2 z2,.int k3 z3,.str w,.slice rows (.own id)] :=
 rC (by
  intro c hc
  simp only [List.mem_cons,List.not_mem_nil,or_false] at hc
  rcases hc with rfl | rfl | rfl | rfl | rfl <;> first | rfl | (cases rows <;> rfl))
def hC (A B:List lR) (x:XE):List lR :=
 [.cells [.int .i64 0,.int .i64 0,.int .i64 0,.str [],.slice [] (.own (HN A B+1))],.front 0 0,.cells x.cells,.front 0 0]
section
variable {L:List Token}(hL:L.length≤131072) (hK:rE L)
variable {n:Nat}{next:PM XE}{k:Nat}(hn:qS L (dk n) 205 [.int .i64 ((k+1:Nat):Int)] rZ next) (hgn:mE L 1 (fun d=>d) next)
include hL hK hn hgn
theorem Tz {A B:List lR}{d:Nat}(hB:KB A B) (hd:dk n d) (hk:k≤6) (x:XE) (a:Nat) (ha:a < L.length) :
  Hb KK (HN A B+4) ([.ptr A.length 0,.int .i64 (k:Int),.ptr (HN A B) 0,.ptr (HN A B+2) 0],HQ A L a d (B++hC A B x)) =
   match oK (tk L a) k with
   | none=>some (.ret,[.ptr A.length 0,.int .i64 (k:Int),.ptr (HN A B) 0,.ptr (HN A B+2) 0],HQ A L a d (B++[.cells x.cells,.front 0 0,.cells x.cells,.front 0 0]))
   | some kind=>if kind=14∨kind=15 then(if (tk L (a+1)).kind=2 then
      some (.normal,[.ptr A.length 0,.int .i64 (k:Int),.ptr (HN A B) 0,.ptr (HN A B+2) 0],HQ A L (a+1+1) d (B++hC A B (.mk kind (tk L a).pos (tk L (a+1)).num [] [x])))
     else some (.pan (qG 10 (tk L (a+1)).pos),[.ptr A.length 0,.int .i64 (k:Int),.ptr (HN A B) 0,.ptr (HN A B+2) 0],HQ A L (a+1) d (B++hC A B x)))
    else match next (a+1) d with
     | .bad e p a2 d2=>some (.pan (qG e p),[.ptr A.length 0,.int .i64 (k:Int),.ptr (HN A B) 0,.ptr (HN A B+2) 0],HQ A L a2 d2 (B++hC A B x))
     | .ok y a2 d2=>some (.normal,[.ptr A.length 0,.int .i64 (k:Int),.ptr (HN A B) 0,.ptr (HN A B+2) 0],HQ A L a2 d (B++hC A B (.mk kind (tk L a).pos 0 [] [x,y]))):=by
 have h249:=d249 (L:=L) k
 have h76:=d76 (L:=L)
 have h139:=d139 hL 2
 unfold qS at h249 h76 h139 hn
 simp only [ae8,ag9,ae8] at h139 hn
 have hsp:∀h,kP.xR (HN A B+4) h (.ptr A.length 0)=.ptr A.length 0:=fun h=>uA CK
 have hsp2:∀h,kP.xR (HN A B+4) h (.ptr (HN A B) 0)=.ptr (HN A B) 0:=fun h=>uA (by omega)
 have hsp3:∀h,kP.xR (HN A B+4) h (.ptr (HN A B+2) 0)=.ptr (HN A B+2) 0:=fun h=>uA (by omega)
 have hKB:KB A (B++hC A B x):=hB.app (by simp [hC])
 have hKB2:KB A (B++[.cells x.cells,.front 0 0,.cells x.cells,.front 0 0]):=hB.app (by simp)
 have htr:∀a d C,mI (HN A B+4) (HQ A L a d (B++(hC A B x++C)))=some (HQ A L a d (B++hC A B x)):=fun a d C=>by
  have:=zC (L:=L) (a:=a) (d:=d) (A:=A) (B:=B) (C:=hC A B x++C) (k:=4) (by simpa [hC] using hKB) (by simp [hC])
  simpa [hC] using this
 have htr0:=fun a d=>htr a d []
 have htr2:∀a d C,mI (HN A B+4) (HQ A L a d (B++([.cells x.cells,.front 0 0,.cells x.cells,.front 0 0]++C)))=some (HQ A L a d (B++[.cells x.cells,.front 0 0,.cells x.cells,.front 0 0])):=fun a d C=>by
  have:=zC (L:=L) (a:=a) (d:=d) (A:=A) (B:=B) (C:=[.cells x.cells,.front 0 0,.cells x.cells,.front 0 0]++C) (k:=4) (by simpa using hKB2) (by simp)
  simpa using this
 have htr20:=fun a d=>htr2 a d []
 have htrG:∀a d (z1 z2 z3:Int) rows C,mI (HN A B+4) (HQ A L a d (B++(.cells [.int .i64 0,.int .i64 0,.int .i64 0,.str [],.slice [] (.own (HN A B+1))]::.front 0 0::.cells [.int .i64 z1,.int .i64 z2,.int .i64 z3,.str [],.slice rows (.own (HN A B+4))]::.front 0 0::C))) =
   some (HQ A L a d (B++[.cells [.int .i64 0,.int .i64 0,.int .i64 0,.str [],.slice [] (.own (HN A B+1))],.front 0 0,.cells [.int .i64 z1,.int .i64 z2,.int .i64 z3,.str [],.slice rows .no],.front 0 0])):=fun a d z1 z2 z3 rows C =>
  E1 (C1:=[.cells [.int .i64 0,.int .i64 0,.int .i64 0,.str [],.slice [] (.own (HN A B+1))],.front 0 0,.cells [.int .i64 z1,.int .i64 z2,.int .i64 z3,.str [],.slice rows (.own (HN A B+4))],.front 0 0]) (C2:=C) hB rfl (by simp)
 simp only [hC,al6,af5,an4] at htr htr0 htr20
 have w1:=vR (a:=a) (by omega)
 have w2:=vR (a:=k) (by omega)
 cases hs:oK (tk L a) k with
 | none =>
  have h1:=SJ hs
  simp -implicitDefEqProofs [Hb,hC,ha,hB,h249,h1,lA,htr20,hsp,hsp2,hsp3]
 | some kind =>
  have h1:=SK hs
  have ha1:=qF (k:=4) hK ha (by decide) (sL hs)
  simp -implicitDefEqProofs [Hb,hC,ha,hB,h249,h1,UT,H0,agD,af7,agC,Uw,CK,RN,h76,w1,lA,htr0,hsp,hsp2,hsp3]
  by_cases k14:kind=14∨kind=15
  ·have k14':(kind:Int)=14∨(kind:Int)=15:=by omega
   have fin:∀b:Bool,b=true→True:=fun _ _=>trivial
   by_cases h2:(tk L (a+1)).kind=2
   ·rcases k14 with rfl | rfl <;> simp -implicitDefEqProofs [ha1,hB,h139,h2,lA,htrG,hsp,hsp2,hsp3,XE.cells,XE.rows]
   ·rcases k14 with rfl | rfl <;> simp -implicitDefEqProofs [ha1,hB,h139,h2,lA,htr,hsp,hsp2,hsp3]
  ·have k14':¬(kind:Int)=14:=by omega
   have k15':¬(kind:Int)=15:=by omega
   simp -implicitDefEqProofs [ha1,hB,hn,hd,w2,k14,k14',k15']
   cases q:next (a+1) d with
   | bad e p a2 d2=>simp -implicitDefEqProofs [hB,lA,htr,hsp,hsp2,hsp3]
   | ok y a2 d2 =>
    obtain⟨g1,g2,g3⟩:=hgn _ _ _ _ _ q ha1
    have g3:d=d2:=g3.symm
    subst g3
    have b2:=Dr (A:=A) (B:=B) (L:=L) (a:=a2) (d:=d) (C:=[.cells [.int .i64 0,.int .i64 0,.int .i64 0,.str [],.slice [] (.own (HN A B+1))],.front 0 0,.cells x.cells,.front 0 0,.front 1 5,.cells [.int .i64 (kind:Int),.int .i64 ((tk L a).pos:Int),.int .i64 0,.str [],.slice [x.cells] (.own (HN A B+4))],.front 1 5]) (k:=4) (rows:=[x.cells]) (new:=[y.cells]) (sz:=5) (by_:=64) (sz':=5) (t:=.own (HN A B+6)) (by simp) (.inl rfl) (by simp) (by simp) (by simp) (by simp)
    simp only [List.length_singleton,af5,an4,List.set_cons_succ,List.set_cons_zero] at b2
    simp -implicitDefEqProofs [hB,b2,lA,htrG,hsp,hsp2,hsp3,XE.cells,XE.rows]
theorem Xa {A B:List lR}{d:Nat}(hB:KB A B) (hd:dk n d) (hk:k≤6) (m:Nat) (x:XE) (a:Nat) (ha:a < L.length) (hm:L.length < a+m) :
  ∃r,mQ (Hb KK (HN A B+4)) ([.ptr A.length 0,.int .i64 (k:Int),.ptr (HN A B) 0,.ptr (HN A B+2) 0],HQ A L a d (B++hC A B x))=some r ∧
   match q7 L next k m x a d with
   | .ok x' a' d'=>r=(.ret,[.ptr A.length 0,.int .i64 (k:Int),.ptr (HN A B) 0,.ptr (HN A B+2) 0],HQ A L a' d' (B++[.cells x'.cells,.front 0 0,.cells x'.cells,.front 0 0]))
   | .bad e p a' d'=>∃vs C,r=(.pan (qG e p),vs,HQ A L a' d' (B++C)):=by
 refine Df (σ:=XE×Nat×Nat) (fun s=>([.ptr A.length 0,.int .i64 (k:Int),.ptr (HN A B) 0,.ptr (HN A B+2) 0],HQ A L s.2.1 d (B++hC A B s.1)))
  (fun s=>s.2.1 < L.length∧L.length < s.2.1+s.2.2) (fun s=>s.2.2)
  (fun s r=>match q7 L next k s.2.2 s.1 s.2.1 d with
   | .ok x' a' d'=>r=(.ret,[.ptr A.length 0,.int .i64 (k:Int),.ptr (HN A B) 0,.ptr (HN A B+2) 0],HQ A L a' d' (B++[.cells x'.cells,.front 0 0,.cells x'.cells,.front 0 0]))
   | .bad e p a' d'=>∃vs C,r=(.pan (qG e p),vs,HQ A L a' d' (B++C))) ?_ (x,a,m) ⟨ha,hm⟩
 rintro⟨x,a,m⟩ ⟨ha,hm⟩
 simp only at ha hm
 obtain⟨m,rfl⟩:∃j,m=j+1:=⟨m - 1,by omega⟩
 simp only [ac8,Tz hL hK hn hgn hB hd hk x a ha]
 cases hs:oK (tk L a) k with
 | none=>exact .inr ⟨_,rfl,by simp,rfl⟩
 | some kind =>
  have ha1:=qF (k:=4) hK ha (by decide) (sL hs)
  by_cases k14:kind=14∨kind=15
  ·by_cases h2:(tk L (a+1)).kind=2
   ·left
    have ha2:=qF (k:=2) hK ha1 (by decide) h2
    refine⟨(.mk kind (tk L a).pos (tk L (a+1)).num [] [x],a+1+1,m),?_,⟨ha2,by simp; omega⟩,by simp,fun r hr=>?_⟩
    ·simp only [k14,h2,if_true]
    ·simp only [k14,h2,if_true]; exact hr
   ·right
    refine⟨(.pan (qG 10 (tk L (a+1)).pos),[.ptr A.length 0,.int .i64 (k:Int),.ptr (HN A B) 0,.ptr (HN A B+2) 0],HQ A L (a+1) d (B++hC A B x)),?_,by simp,?_⟩
    ·simp only [k14,h2,if_true,if_false]
    ·simp only [k14,h2,if_true,if_false]
     exact⟨_,_,rfl⟩
  ·simp only [k14,if_false]
   cases q:next (a+1) d with
   | bad e p a2 d2=>exact .inr ⟨_,rfl,by simp,_,_,rfl⟩
   | ok y a2 d2 =>
    obtain⟨g1,g2,g3⟩:=hgn _ _ _ _ _ q ha1
    have g3:d=d2:=g3.symm
    subst g3
    exact .inl ⟨(.mk kind (tk L a).pos 0 [] [x,y],a2,m),rfl,⟨g2,by simp; omega⟩,by simp,fun r hr=>hr⟩
end
section
variable {L:List Token}(hL:L.length≤131072) (hK:rE L)
variable {n:Nat}{un:PM XE}(hu:qS L (dk n) 220 [] rZ un) (hgu:mE L 1 (fun d=>d) un)
include hL hK hu hgu
theorem d248:∀(j k:Nat),j+k=7→qS L (dk n) 205 [.int .i64 (k:Int)] rZ (nR L un j)
 | 0,k,hk=>by
  intro A B a d ha hd hB
  have hk7:k=7:=by omega
  subst hk7
  refine lJ (VU _ _ _ _) ?_
  unfold qS at hu
  simp -implicitDefEqProofs [asK,nR,ha,hd,hB,hu]
  cases q:un a d with
  | bad e p a1 d1=>simp -implicitDefEqProofs [hB]
  | ok x a1 d1=>simp -implicitDefEqProofs [hB]
 | j+1,k,hk=>by
  intro A B a d ha hd hB
  have ih:=d248 j (k+1) (by omega)
  have hgc:=Bu hK hgu j
  have ih':=ih
  unfold qS at ih'
  simp only [ag9,ae8] at ih'
  have hk6:k≤6:=by omega
  have hj:6 - j=k:=by omega
  have hk6':¬(6:Int) < k:=by omega
  have w2:=vR (a:=k) (by omega)
  refine lJ (VU _ _ _ _) ?_
  simp only [nR,hj]
  simp -implicitDefEqProofs [asK,ha,hd,hB,hk6',w2,ih']
  cases q:nR L un j a d with
  | bad e p a1 d1=>simp -implicitDefEqProofs [hB]
  | ok x a1 d1 =>
   obtain⟨g1,g2,g3⟩:=hgc _ _ _ _ _ q ha
   have g3:d=d1:=g3.symm
   subst g3
   obtain⟨r,h1,h2⟩:=Xa hL hK ih hgc hB hd hk6 131073 x a1 g2 (by omega)
   simp only [hC] at h1
   simp -implicitDefEqProofs [hB,h1]
   cases q2:q7 L (nR L un j) k 131073 x a1 d with
   | bad e p a2 d2 =>
    rw [q2] at h2
    obtain⟨vs,C,rfl⟩:=h2
    simp -implicitDefEqProofs [hB]
   | ok x' a2 d2 =>
    rw [q2] at h2
    subst h2
    simp -implicitDefEqProofs [hB]
end
end
section
open Go Hk
theorem Jt:∀{a b a' b':List kP},oC a=some a'→oC b=some b'→oC (a++b)=some (a'++b')
 | [],b,a',b',h1,h2=>by simp only [oC,ab3] at h1; subst h1; exact h2
 | v::r,b,a',b',h1,h2=>by
  simp only [oC] at h1
  split at h1
  ·rename_i x y e1 e2
   simp only [ab3] at h1
   subst h1
   simp only [af5,oC,e1,Jt e2 h2]
  ·cases h1
@[simp] theorem ax1 {x y:XE}{h:kT}:lB 2 5 [.int .i64 0,.int .i64 0,.int .i64 0,.str [],.slice [] .nil] [(0,.agg x.cells),(1,.agg y.cells)] h=some (.slice [x.cells,y.cells] (.own h.length),h++[.front 2 5]):=by
 have e1:l_ (List.replicate 2 [kP.int .i64 0,.int .i64 0,.int .i64 0,.str [],.slice [] .nil]).flatten ((List.range 2).map fun i=>(i * 5,5)) [(0,.agg x.cells),(1,.agg y.cells)]=some (.agg (x.cells++y.cells)):=by
  simp [l_,putCells,kP.pN,List.range_succ]
 have e2:=Jt (XE.row.pure x) (XE.row.pure y)
 have e3:(x.cells++y.cells).all kP.mH=true:=by rw [List.all_append,XE.row.ok x,XE.row.ok y]; rfl
 simp only [lB,tQ,e1,e2,e3,rowsOf]
 rw [if_pos ⟨rfl,trivial⟩]
 rw [List.take_append_of_le_length (by simp),Wu,List.drop_append_of_le_length (by simp),amH,an4,Wu]
section
variable {L:List Token}(hL:L.length≤131072) (hK:rE L)
include hL hK
theorem d230 {n:Nat}{un:PM XE}(hu:qS L (dk n) 220 [] rZ un) (hgu:mE L 1 (fun d=>d) un):qS L (dk n) 182 [] rZ (vQ L un):=by
 intro A B a d ha hd hB
 have h248:=d248 hL hK hu hgu 6 1 rfl
 have hgc:=Bu hK hgu 6
 have h249:=d249 (L:=L) 0
 have h76:=d76 (L:=L)
 unfold qS at h248 h249 h76
 simp only [ae8] at h248 h249
 refine lJ (aj6 _ _ _) ?_
 simp -implicitDefEqProofs [aAf,vQ,ha,hd,hB,h248]
 cases q:nR L un 6 a d with
 | bad e p a1 d1=>simp -implicitDefEqProofs [hB]
 | ok x a1 d1 =>
  obtain⟨g1,g2,g3⟩:=hgc _ _ _ _ _ q ha
  have g3:d=d1:=g3.symm
  subst g3
  simp -implicitDefEqProofs [hB,g2,h249]
  cases hs:oK (tk L a1) 0 with
  | none =>
   have h1:=SJ hs
   simp -implicitDefEqProofs [hB,h1]
  | some kind =>
   have h1:=SK hs
   have ha1:=qF (k:=4) hK g2 (by decide) (sL hs)
   have w1:=vR (a:=a1) (by omega)
   simp -implicitDefEqProofs [hB,h1,g2,h76,w1,ha1,h248,hd]
   cases q2:nR L un 6 (a1+1) d with
   | bad e p a2 d2=>simp -implicitDefEqProofs [hB]
   | ok y a2 d2 =>
    obtain⟨k1,k2,k3⟩:=hgc _ _ _ _ _ q2 ha1
    have k3:d=d2:=k3.symm
    subst k3
    simp -implicitDefEqProofs [hB,XE.cells,XE.rows]
theorem UI:∀n,qS L (dk n) 220 [] rZ (Aq L n)
 | 0=>fun A B a d ha hd=>by have h1:=hd.1; have h2:=hd.2; omega
 | n+1=>d257 hL hK (d230 hL hK (UI n) (Pv hK n)) (CP hK n) (UI n) (Pv hK n)
theorem TE (n:Nat):qS L (dk n) 182 [] rZ (AE L n):=d230 hL hK (UI hL hK n) (Pv hK n)
theorem d229 (n:Nat):qS L (dk n) 181 [] Nr (y9 L n):=by
 intro A B a d ha hd hB
 have he:=TE hL hK n
 have hg:=CP hK n
 have h138:=d138 hL
 unfold qS at he h138
 refine lJ (aj5 _ _ _) ?_
 simp -implicitDefEqProofs [aAe,y9,ha,hd,hB,he]
 cases q:AE L n a d with
 | bad e p a1 d1=>simp -implicitDefEqProofs [hB]
 | ok x a1 d1 =>
  obtain⟨g1,g2,g3⟩:=hg _ _ _ _ _ q ha
  simp -implicitDefEqProofs [hB,g2,h138]
  cases hs:isS (tk L a1) [59] <;> simp -implicitDefEqProofs [hB]
end
end
section
open Go Hk
mutual
def XS.cells:XS→List kP
 | .mk k p m name ty args body els has=>[.int .i64 (k:Int),.int .i64 (p:Int),.int .i64 (m:Int),.str name,.int .i64 (ty.elem:Int),.int .i64 (ty.len:Int),.int .i64 (ty.label:Int),
   .slice (args.map XE.cells) .no,.slice (XS.rows body) .no,.slice (XS.rows els) .no,.bool has]
def XS.rows:List XS→List (List kP)
 | []=>[]
 | x::r=>x.cells::XS.rows r
end
theorem XS.pM:∀l:List XS,XS.rows l=l.map XS.cells
 | []=>rfl
 | x::r=>by simp [XS.rows,XS.pM r]
theorem XS.row:U1 XS.cells 11:=⟨fun x=>by cases x; simp [XS.cells],fun x=>by cases x; simp [XS.cells,oC,kP.CD],fun x=>by cases x; simp [XS.cells]⟩
def sC (A B : List lR) (z0 pos sE : Int) (name : List UInt8) (ty : Ty) (args body els : kP) (has : Bool) : List lR :=
  [.cells [.int .i64 0, .int .i64 0, .int .i64 0, .str [], .int .i64 0, .int .i64 0, .int .i64 0, .slice [] (.own (HN A B + 1)), .slice [] (.own (HN A B + 2)), .slice [] (.own (HN A B + 3)), .bool false], .front 0 0, .front 0 0, .front 0 0,
   .cells [.int .i64 z0, .int .i64 pos, .int .i64 sE, .str name, .int .i64 (ty.elem : Int), .int .i64 (ty.len : Int), .int .i64 (ty.label : Int), args, body, els, .bool has], .front 0 0, .front 0 0, .front 0 0]
section
variable {L:List Token}(hL:L.length≤131072) (hK:rE L)
include hL hK
theorem aDG {n:Nat}{A B:List lR}{a d pos:Nat}(ha:a < L.length) (hd:dk (n+1) d) (hB:KB A B) :
  match pG L (n+1) pos a d with
  | .bad e p a' d'=>∃C,KK 183 [.ptr A.length 0,.ptr (HN A B+4) 0] (HQ A L a d (B++sC A B 0 pos 0 [] ⟨0,0,0⟩ (.slice [] (.own (HN A B+5))) (.slice [] (.own (HN A B+6))) (.slice [] (.own (HN A B+7))) false))=some (.pan (qG e p),HQ A L a' d' (B++C))
  | .ok s a' d'=>∃(k:Nat) (name:List UInt8) (args:List XE),s=.mk k pos 0 name ⟨0,0,0⟩ args [] [] false ∧
    KK 183 [.ptr A.length 0,.ptr (HN A B+4) 0] (HQ A L a d (B++sC A B 0 pos 0 [] ⟨0,0,0⟩ (.slice [] (.own (HN A B+5))) (.slice [] (.own (HN A B+6))) (.slice [] (.own (HN A B+7))) false)) =
     some (.ret (.tuple []),HQ A L a' d' (B++sC A B k pos 0 name ⟨0,0,0⟩ (.slice (args.map XE.cells) .no) (.slice [] (.own (HN A B+6))) (.slice [] (.own (HN A B+7))) false)):=by
 have he:=TE hL hK n
 have hg:=CP hK n
 have h139:=d139 hL 1
 have h178:=d178 (L:=L)
 have h138:=d138 hL
 have h250:=fun t=>d250 hL hK he hg t
 have h229:=d229 hL hK (n+1)
 unfold qS at h139 h178 h138 h250 h229
 simp only [ae8] at h139
 have ev:∀r,Iq KK (.ptr A.length 0) (.ptr (HN A B+4) 0) (HQ A L a d (B++sC A B 0 pos 0 [] ⟨0,0,0⟩ (.slice [] (.own (HN A B+5))) (.slice [] (.own (HN A B+6))) (.slice [] (.own (HN A B+7))) false))=some r →
   KK 183 [.ptr A.length 0,.ptr (HN A B+4) 0] (HQ A L a d (B++sC A B 0 pos 0 [] ⟨0,0,0⟩ (.slice [] (.own (HN A B+5))) (.slice [] (.own (HN A B+6))) (.slice [] (.own (HN A B+7))) false))=some r:=fun r hr=>lJ (aj7 _ _ _ _) hr
 have hKB:∀(z0:Int) nm,KB A (B++sC A B z0 pos 0 nm ⟨0,0,0⟩ (.slice [] (.own (HN A B+5))) (.slice [] (.own (HN A B+6))) (.slice [] (.own (HN A B+7))) false):=fun z0 nm=>hB.app (by simp [sC])
 have hKB2:∀(z0:Int) nm rows,KB A (B++sC A B z0 pos 0 nm ⟨0,0,0⟩ (.slice rows .no) (.slice [] (.own (HN A B+6))) (.slice [] (.own (HN A B+7))) false):=fun z0 nm rows=>hB.app (by simp [sC])
 have htr:∀a d (z0:Int) nm C,mI (HN A B+8) (HQ A L a d (B++(sC A B z0 pos 0 nm ⟨0,0,0⟩ (.slice [] (.own (HN A B+5))) (.slice [] (.own (HN A B+6))) (.slice [] (.own (HN A B+7))) false++C))) =
   some (HQ A L a d (B++sC A B z0 pos 0 nm ⟨0,0,0⟩ (.slice [] (.own (HN A B+5))) (.slice [] (.own (HN A B+6))) (.slice [] (.own (HN A B+7))) false)):=fun a d z0 nm C =>
  E1 hB rfl (by simp [sC])
 have htr2:∀a d (z0:Int) nm rows C,mI (HN A B+8) (HQ A L a d (B++(sC A B z0 pos 0 nm ⟨0,0,0⟩ (.slice rows .no) (.slice [] (.own (HN A B+6))) (.slice [] (.own (HN A B+7))) false++C))) =
   some (HQ A L a d (B++sC A B z0 pos 0 nm ⟨0,0,0⟩ (.slice rows .no) (.slice [] (.own (HN A B+6))) (.slice [] (.own (HN A B+7))) false)):=fun a d z0 nm rows C =>
  E1 hB rfl (by simp [sC])
 have htr3:∀a d (z0:Int) nm rows j C,8≤j→mI (HN A B+8) (HQ A L a d (B++(sC A B z0 pos 0 nm ⟨0,0,0⟩ (.slice rows (.own (HN A B+j))) (.slice [] (.own (HN A B+6))) (.slice [] (.own (HN A B+7))) false++C))) =
   some (HQ A L a d (B++sC A B z0 pos 0 nm ⟨0,0,0⟩ (.slice rows .no) (.slice [] (.own (HN A B+6))) (.slice [] (.own (HN A B+7))) false)):=fun a d z0 nm rows j C hj =>
  E1 hB rfl (by
   have:¬j < 8:=by omega
   simp [sC,this])
 simp only [sC,af5,an4,ae8] at htr htr2 htr3
 by_cases hk:(tk L a).kind=1
 ·have ha1:=qF (k:=1) hK ha (by decide) hk
  cases s1:isS (tk L (a+1)) [40]
  ·cases s2:isS (tk L (a+1)) [91]
   ·cases s3:isS (tk L (a+1)) [61]
    ·rw [show pG L (n+1) pos a d=.bad 10 (tk L (a+1)).pos (a+1) d by simp [pG,hk,s1,s2,s3]]
     refine⟨sC A B 0 pos 0 (tk L a).text ⟨0,0,0⟩ (.slice [] (.own (HN A B+5))) (.slice [] (.own (HN A B+6))) (.slice [] (.own (HN A B+7))) false,ev _ ?_⟩
     simp -implicitDefEqProofs [Iq,sC,ha,hB,h139,hk,ha1,h178,h138,s1,s2,s3,vA,htr]
    ·have ha2:=mS hK ha1 s3
     cases q:y9 L (n+1) (a+1+1) d with
     | bad e p a2 d2 =>
      rw [show pG L (n+1) pos a d=.bad e p a2 d2 by simp [pG,hk,s1,s2,s3,q]]
      refine⟨sC A B 0 pos 0 (tk L a).text ⟨0,0,0⟩ (.slice [] (.own (HN A B+5))) (.slice [] (.own (HN A B+6))) (.slice [] (.own (HN A B+7))) false,ev _ ?_⟩
      simp -implicitDefEqProofs [Iq,sC,ha,hB,h139,hk,ha1,h178,h138,s1,s2,s3,ha2,h229,hd,q,vA,htr]
     | ok l a2 d2 =>
      rw [show pG L (n+1) pos a d=.ok (.mk 3 pos 0 (tk L a).text ⟨0,0,0⟩ l [] [] false) a2 d2 by simp [pG,hk,s1,s2,s3,q]]
      refine⟨3,(tk L a).text,l,rfl,ev _ ?_⟩
      simp -implicitDefEqProofs [Iq,sC,ha,hB,h139,hk,ha1,h178,h138,s1,s2,s3,ha2,h229,hd,q,mJ,htr2]
   ·have hB':KB A (B++(sC A B 4 pos 0 (tk L a).text ⟨0,0,0⟩ (.slice [] (.own (HN A B+5))) (.slice [] (.own (HN A B+6))) (.slice [] (.own (HN A B+7))) false++[.cells (tk L a).cells])):=hB.app (by simp [sC])
    have i1:=ayR hL hK he hg ha1 hd hB'
    simp only [sC,Token.cells,af5,an4,hk,ae8] at i1
    cases q3:tF L (AE L n) (a+1) d with
    | bad e p a3 d3 =>
     rw [show pG L (n+1) pos a d=.bad e p a3 d3 by simp [pG,hk,s1,s2,q3]]
     rw [q3] at i1
     refine⟨sC A B 4 pos 0 (tk L a).text ⟨0,0,0⟩ (.slice [] (.own (HN A B+5))) (.slice [] (.own (HN A B+6))) (.slice [] (.own (HN A B+7))) false,ev _ ?_⟩
     simp -implicitDefEqProofs [Iq,sC,ha,hB,h139,hk,ha1,h178,s1,s2,i1,vA,htr]
    | ok l a3 d3 =>
     rw [q3] at i1
     obtain⟨x,rfl,i2⟩:=i1
     obtain⟨g1,g2,g3⟩:=(GR hK hg) _ _ _ _ _ q3 ha1
     have g3:d=d3:=g3.symm
     subst g3
     simp -implicitDefEqProofs only [CM,am1,am3,al2,af5,an4,af6] at i2
     simp at i2
     cases s3:isS (tk L a3) [61]
     ·rw [show pG L (n+1) pos a d=.bad 10 (tk L a3).pos a3 d by simp [pG,hk,s1,s2,q3,s3]]
      refine⟨sC A B 4 pos 0 (tk L a).text ⟨0,0,0⟩ (.slice [] (.own (HN A B+5))) (.slice [] (.own (HN A B+6))) (.slice [] (.own (HN A B+7))) false,ev _ ?_⟩
      simp -implicitDefEqProofs [Iq,sC,ha,hB,h139,hk,ha1,h178,s1,s2,i2,g2,h138,s3,vA,htr]
     ·have ha4:=mS hK g2 s3
      cases q:y9 L (n+1) (a3+1) d with
      | bad e p a2 d2 =>
       rw [show pG L (n+1) pos a d=.bad e p a2 d2 by simp [pG,hk,s1,s2,q3,s3,q]]
       refine⟨sC A B 4 pos 0 (tk L a).text ⟨0,0,0⟩ (.slice [] (.own (HN A B+5))) (.slice [] (.own (HN A B+6))) (.slice [] (.own (HN A B+7))) false,ev _ ?_⟩
       simp -implicitDefEqProofs [Iq,sC,ha,hB,h139,hk,ha1,h178,s1,s2,i2,g2,h138,s3,ha4,h229,hd,q,vA,htr]
      | ok l a2 d2 =>
       rw [show pG L (n+1) pos a d=.ok (.mk 4 pos 0 (tk L a).text ⟨0,0,0⟩ ([x]++l) [] [] false) a2 d2 by simp [pG,hk,s1,s2,q3,s3,q]]
       refine⟨4,(tk L a).text,[x]++l,rfl,ev _ ?_⟩
       have hlen:l.length=1:=by
        revert q
        simp only [y9,mO,PM.bind]
        cases AE L (n+1) (a3+1) d with
        | bad=>intro q; cases q
        | ok y a5 d5 =>
         simp only [oQ]
         split
         ·rename_i v a' d' h; split at h
          ·cases h; intro q; cases q; rfl
          ·cases h
         ·intro q; cases q
       have b2:=Dr (A:=A) (B:=B) (L:=L) (a:=a2) (d:=d2) (C:=sC A B 4 pos 0 (tk L a).text ⟨0,0,0⟩ (.slice [] (.own (HN A B+5))) (.slice [] (.own (HN A B+6))) (.slice [] (.own (HN A B+7))) false++[.cells [.int .i64 1,.int .i64 ((tk L a).pos:Int),.int .i64 ((tk L a).num:Int),.str (tk L a).text],.front 0 0,.cells x.cells,.front 0 0,.front 1 5]) (k:=12) (rows:=[x.cells]) (new:=l.map XE.cells) (sz:=5) (by_:=64) (sz':=5) (t:=.no) rfl (.inl rfl) (by simp) (by intro h; simp at h; rw [h] at hlen; cases hlen) (by simp [hlen]) (by simp [hlen])
       simp only [sC,List.length_singleton,ak1,hlen,af5,an4,List.set_cons_succ,List.set_cons_zero,ae8] at b2
       simp -implicitDefEqProofs [Iq,sC,ha,hB,h139,hk,ha1,h178,s1,s2,i2,g2,h138,s3,ha4,h229,hd,q,b2,mJ,htr3]
  ·have hB':KB A (B++(sC A B 7 pos 0 [] ⟨0,0,0⟩ (.slice [] (.own (HN A B+5))) (.slice [] (.own (HN A B+6))) (.slice [] (.own (HN A B+7))) false++[.cells (tk L a).cells])):=hB.app (by simp [sC])
   have i1:=h250 (tk L a) A _ (a+1) d ha1 hd hB'
   simp only [sC,Token.cells,af5,an4,hk,ae8] at i1
   cases q3:xX L (AE L n) (tk L a) (a+1) d with
   | bad e p a3 d3 =>
    rw [show pG L (n+1) pos a d=.bad e p a3 d3 by simp [pG,hk,s1,q3]]
    rw [q3] at i1
    refine⟨sC A B 7 pos 0 [] ⟨0,0,0⟩ (.slice [] (.own (HN A B+5))) (.slice [] (.own (HN A B+6))) (.slice [] (.own (HN A B+7))) false,ev _ ?_⟩
    simp -implicitDefEqProofs [Iq,sC,ha,hB,h139,hk,ha1,h178,s1,i1,vA,htr]
   | ok x a3 d3 =>
    rw [q3] at i1
    obtain⟨g1,g2,g3⟩:=(Ps hK hg) _ _ _ _ _ q3 ha1
    cases s3:isS (tk L a3) [59]
    ·rw [show pG L (n+1) pos a d=.bad 10 (tk L a3).pos a3 d3 by simp [pG,hk,s1,q3,s3]]
     refine⟨sC A B 7 pos 0 [] ⟨0,0,0⟩ (.slice [x.cells] .no) (.slice [] (.own (HN A B+6))) (.slice [] (.own (HN A B+7))) false,ev _ ?_⟩
     simp -implicitDefEqProofs [Iq,sC,ha,hB,h139,hk,ha1,h178,s1,i1,g2,h138,s3,vA,htr3]
    ·rw [show pG L (n+1) pos a d=.ok (.mk 7 pos 0 [] ⟨0,0,0⟩ [x] [] [] false) (a3+1) d3 by simp [pG,hk,s1,q3,s3]]
     refine⟨7,[],[x],rfl,ev _ ?_⟩
     simp -implicitDefEqProofs [Iq,sC,ha,hB,h139,hk,ha1,h178,s1,i1,g2,h138,s3,mJ,htr3]
 ·rw [show pG L (n+1) pos a d=.bad 10 (tk L a).pos a d by simp [pG,hk]]
  refine⟨sC A B 0 pos 0 [] ⟨0,0,0⟩ (.slice [] (.own (HN A B+5))) (.slice [] (.own (HN A B+6))) (.slice [] (.own (HN A B+7))) false,ev _ ?_⟩
  simp -implicitDefEqProofs [Iq,sC,ha,hB,h139,hk,vA,htr]
end
end
section
open Go Hk
section
variable {x:XS}{n m:Nat}{h:kT}
@[simp] theorem aFp:x.cells.length=11:=XS.row.len x
end
def Qn (x:XS):kP:=.agg x.cells
def zX (l:List XS):kP:=.slice (l.map XS.cells) .no
attribute [simp] Qn zX
section
variable {L:List Token}(hL:L.length≤131072) (hK:rE L)
include hL hK
set_option maxHeartbeats 1000000 in
theorem d182 {n:Nat}{bl:PM (List XS)}(hb:qS L (dk (n+1)) 110 [] zX bl) (hgb:mE L 1 (fun d=>d) bl):qS L (dk (n+1)) 154 [] Qn (qM L bl (n+1)):=by
 intro A B a d ha hd hB
 have h230:=TE hL hK (n+1)
 have hge:=CP hK (n+1)
 have h76:=d76 (L:=L)
 have h143:=d143 hL
 have h138:=d138 hL
 have h139:=fun k=>d139 hL k
 have h145:=d145 hL
 have h180:=d180 hL hK
 have h229:=d229 hL hK (n+1)
 have hgd:=Jc hK (n+1)
 unfold qS at h230 h76 h143 h138 h139 h145 h180 h229 hb
 have h1391:=h139 1
 have h1392:=h139 2
 simp only [ae8] at h1391 h1392
 refine lJ (ajU _ _ _) ?_
 simp -implicitDefEqProofs [az8,qM,ha,hB,h76,h143]
 cases s1:isS (tk L a) [108,101,116]
 ·simp -implicitDefEqProofs [ha,hB,h143]
  cases s2:isS (tk L a) [118,97,114]
  ·simp -implicitDefEqProofs [ha,hB,h143]
   cases s3:isS (tk L a) [105,102]
   ·simp -implicitDefEqProofs [ha,hB,h143]
    cases s4:isS (tk L a) [102,111,114]
    ·simp -implicitDefEqProofs [ha,hB,h143]
     cases s5:isS (tk L a) [114,101,116,117,114,110]
     ·have i1:=aDG hL hK (A:=A) (B:=B) (pos:=(tk L a).pos) ha hd hB
      simp only [sC,ae8] at i1
      simp -implicitDefEqProofs [hB]
      cases q:pG L (n+1) (tk L a).pos a d with
      | bad e p a1 d1 =>
       rw [q] at i1
       obtain⟨C,i2⟩:=i1
       simp -implicitDefEqProofs [hB,i2]
      | ok s a1 d1 =>
       rw [q] at i1
       obtain⟨k,name,args,rfl,i2⟩:=i1
       simp -implicitDefEqProofs [hB,i2,XS.cells,XS.rows]
     ·have ha1:=mS hK ha s5
      simp -implicitDefEqProofs [hB,ha1,hd,h229]
      cases q:y9 L (n+1) (a+1) d with
      | bad e p a1 d1=>simp -implicitDefEqProofs [hB]
      | ok l a1 d1=>simp -implicitDefEqProofs [hB,XS.cells,XS.rows]
    ·have ha1:=mS hK ha s4
     simp -implicitDefEqProofs [hB,ha1,h1391]
     by_cases k1:(tk L (a+1)).kind=1
     ·have ha2:=qF (k:=1) hK ha1 (by decide) k1
      simp -implicitDefEqProofs [hB,k1,ha2,h138]
      cases t1:isS (tk L (a+1+1)) [60]
      ·simp -implicitDefEqProofs [hB]
      ·have ha3:=mS hK ha2 t1
       simp -implicitDefEqProofs [hB,ha3,h230,hd]
       cases q:AE L (n+1) (a+1+1+1) d with
       | bad e p a4 d4=>simp -implicitDefEqProofs [hB]
       | ok x a4 d4 =>
        obtain⟨g1,g2,g3⟩:=hge _ _ _ _ _ q ha3
        have g3:d=d4:=g3.symm
        subst g3
        simp -implicitDefEqProofs [hB,g2,h138]
        cases t2:isS (tk L a4) [109,97,120]
        ·simp -implicitDefEqProofs [hB]
        ·have ha5:=mS hK g2 t2
         simp -implicitDefEqProofs [hB,ha5,h1392]
         by_cases k2:(tk L (a4+1)).kind=2
         ·have ha6:=qF (k:=2) hK ha5 (by decide) k2
          simp -implicitDefEqProofs [hB,k2,ha6,hb,hd]
          cases q2:bl (a4+1+1) d with
          | bad e p a7 d7=>simp -implicitDefEqProofs [hB]
          | ok l a7 d7=>simp -implicitDefEqProofs [hB,XS.cells,XS.rows,XS.pM]
         ·simp -implicitDefEqProofs [hB,k2]
     ·simp -implicitDefEqProofs [hB,k1]
   ·have ha1:=mS hK ha s3
    simp -implicitDefEqProofs [hB,ha1,h230,hd]
    cases q:AE L (n+1) (a+1) d with
    | bad e p a4 d4=>simp -implicitDefEqProofs [hB]
    | ok x a4 d4 =>
     obtain⟨g1,g2,g3⟩:=hge _ _ _ _ _ q ha1
     have g3:d=d4:=g3.symm
     subst g3
     simp -implicitDefEqProofs [hB,g2,hb,hd]
     cases q2:bl a4 d with
     | bad e p a5 d5=>simp -implicitDefEqProofs [hB]
     | ok l a5 d5 =>
      obtain⟨j1,j2,j3⟩:=hgb _ _ _ _ _ q2 g2
      have j3:d=d5:=j3.symm
      subst j3
      simp -implicitDefEqProofs [hB,j2,h143]
      cases t1:isS (tk L a5) [101,108,115,101]
      ·simp -implicitDefEqProofs [hB,XS.cells,XS.rows,XS.pM]
      ·have ha6:=mS hK j2 t1
       simp -implicitDefEqProofs [hB,ha6,hb,hd]
       cases q3:bl (a5+1) d with
       | bad e p a7 d7=>simp -implicitDefEqProofs [hB]
       | ok l2 a7 d7=>simp -implicitDefEqProofs [hB,XS.cells,XS.rows,XS.pM]
  ·have ha1:=mS hK ha s2
   simp -implicitDefEqProofs [hB,ha1,h145]
   cases q:rO L (a+1) d with
   | bad e p a2 d2=>simp -implicitDefEqProofs [hB]
   | ok lab a2 d2 =>
    obtain⟨g1,g2,g3⟩:=Bv hK _ _ _ _ _ q ha1
    have g3:d=d2:=g3.symm
    subst g3
    simp -implicitDefEqProofs [hB,g2,h1391]
    by_cases k1:(tk L a2).kind=1
    ·have ha3:=qF (k:=1) hK g2 (by decide) k1
     simp -implicitDefEqProofs [hB,k1,ha3,h138]
     cases t1:isS (tk L (a2+1)) [58]
     ·simp -implicitDefEqProofs [hB]
     ·have ha4:=mS hK ha3 t1
      simp -implicitDefEqProofs [hB,ha4,h180]
      cases q2:uL L lab (a2+1+1) d with
      | bad e p a5 d5=>simp -implicitDefEqProofs [hB]
      | ok ty a5 d5 =>
       obtain⟨j1,j2,j3⟩:=GU hK _ _ _ _ _ q2 ha4
       simp -implicitDefEqProofs [hB,j2,h138]
       cases t2:isS (tk L a5) [59] <;> simp -implicitDefEqProofs [hB,XS.cells,XS.rows]
    ·simp -implicitDefEqProofs [hB,k1]
 ·have ha1:=mS hK ha s1
  simp -implicitDefEqProofs [hB,ha1,h1391]
  by_cases k1:(tk L (a+1)).kind=1
  ·have ha2:=qF (k:=1) hK ha1 (by decide) k1
   simp -implicitDefEqProofs [hB,k1,ha2,h138]
   cases t1:isS (tk L (a+1+1)) [61]
   ·simp -implicitDefEqProofs [hB]
   ·have ha3:=mS hK ha2 t1
    simp -implicitDefEqProofs [hB,ha3,h229,hd]
    cases q:y9 L (n+1) (a+1+1+1) d with
    | bad e p a4 d4=>simp -implicitDefEqProofs [hB]
    | ok l a4 d4=>simp -implicitDefEqProofs [hB,XS.cells,XS.rows]
  ·simp -implicitDefEqProofs [hB,k1]
end
end
section
open Go Hk
theorem Yf {L:List Token}{stmt:PM XS}{m a d:Nat}{l:List XS}:vE L stmt (m+1) l a d=if isS (tk L a) [125]=true then .ok l a d else match stmt a d with
  | .bad e p a1 d1=>.bad e p a1 d1
  | .ok x a1 d1=>vE L stmt m (l++[x]) a1 d1:=by
 rw [vE]
 simp only [mO,PM.bind,EF]
 cases h:isS (tk L a) [125]
 ·simp only [ak4,if_false,PM.bind]
  cases stmt a d <;> rfl
 ·simp [yI]
section
variable {L:List Token}(hL:L.length≤131072) (hK:rE L)
include hL hK
omit hK in
theorem W_ {n:Nat}{st:PM XS}(hs:qS L (dk n) 154 [] Qn st) (hg:mE L 1 (fun d=>d) st) {A B:List lR}{d:Nat}(hB:KB A B) (hd:dk n d) (m:Nat) (l:List XS) (a:Nat) (ha:a < L.length) (hm:L.length < a+m) (hl:l.length≤a) :
  ∃r,mQ (JV KK (HN A B+2)) ([.ptr A.length 0,.slice [] (.own (HN A B)),.slice (l.map XS.cells) (.own (HN A B+1))],HQ A L a d (B++[.front 0 0,.front l.length (uG l.length 11)]))=some r ∧
   match vE L st m l a d with
   | .ok l' a' d'=>r=(.exit 0,[.ptr A.length 0,.slice [] (.own (HN A B)),.slice (l'.map XS.cells) (.own (HN A B+1))],HQ A L a' d' (B++[.front 0 0,.front l'.length (uG l'.length 11)]))
   | .bad e p a' d'=>∃vs C,r=(.pan (qG e p),vs,HQ A L a' d' (B++C)):=by
 have h178:=d178 (L:=L)
 unfold qS at h178 hs
 refine Df (σ:=List XS×Nat×Nat) (fun s=>([.ptr A.length 0,.slice [] (.own (HN A B)),.slice (s.1.map XS.cells) (.own (HN A B+1))],HQ A L s.2.1 d (B++[.front 0 0,.front s.1.length (uG s.1.length 11)])))
  (fun s=>s.2.1 < L.length∧L.length < s.2.1+s.2.2∧s.1.length≤s.2.1) (fun s=>s.2.2)
  (fun s r=>match vE L st s.2.2 s.1 s.2.1 d with
   | .ok l' a' d'=>r=(.exit 0,[.ptr A.length 0,.slice [] (.own (HN A B)),.slice (l'.map XS.cells) (.own (HN A B+1))],HQ A L a' d' (B++[.front 0 0,.front l'.length (uG l'.length 11)]))
   | .bad e p a' d'=>∃vs C,r=(.pan (qG e p),vs,HQ A L a' d' (B++C))) ?_ (l,a,m) ⟨ha,hm,hl⟩
 rintro⟨l,a,m⟩ ⟨ha,hm,hl⟩
 simp only at ha hm hl
 obtain⟨m,rfl⟩:∃j,m=j+1:=⟨m - 1,by omega⟩
 have hsp:∀h,kP.xR (HN A B+2) h (.ptr A.length 0)=.ptr A.length 0:=fun h=>uA CK
 have hKB:∀x y,KB A (B++[.front 0 0,.front x y]):=fun x y=>hB.app (by simp)
 have htr:∀a d x y C,mI (HN A B+2) (HQ A L a d (B++(.front 0 0::.front x y::C)))=some (HQ A L a d (B++[.front 0 0,.front x y])):=fun a d x y C=>by
  have:=zC (L:=L) (a:=a) (d:=d) (A:=A) (B:=B) (C:=.front 0 0::.front x y::C) (k:=2) (by simpa using hKB x y) (by simp)
  simpa using this
 have hfst:JV KK (HN A B+2) ([.ptr A.length 0,.slice [] (.own (HN A B)),.slice (l.map XS.cells) (.own (HN A B+1))],HQ A L a d (B++[.front 0 0,.front l.length (uG l.length 11)])) =
   if isS (tk L a) [125]=true then some (.exit 0,[.ptr A.length 0,.slice [] (.own (HN A B)),.slice (l.map XS.cells) (.own (HN A B+1))],HQ A L a d (B++[.front 0 0,.front l.length (uG l.length 11)]))
   else match st a d with
   | .bad e p a1 d1=>some (.pan (qG e p),[.ptr A.length 0,.slice [] (.own (HN A B)),.slice (l.map XS.cells) (.own (HN A B+1))],HQ A L a1 d1 (B++[.front 0 0,.front l.length (uG l.length 11)]))
   | .ok x a1 d1=>some (.normal,[.ptr A.length 0,.slice [] (.own (HN A B)),.slice ((l++[x]).map XS.cells) (.own (HN A B+1))],HQ A L a1 d (B++[.front 0 0,.front (l++[x]).length 11])):=by
  simp -implicitDefEqProofs [JV,ha,hB,h178]
  cases h1:isS (tk L a) [125]
  ·simp -implicitDefEqProofs [ha,hB,hs,hd]
   cases q:st a d with
   | bad e p a1 d1=>simp -implicitDefEqProofs [lA,htr,hsp]
   | ok x a1 d1 =>
    obtain⟨g1,g2,g3⟩:=hg a d _ _ _ q ha
    have g3:d=d1:=g3.symm
    subst g3
    have b1:=wU (zero:=[.int .i64 0,.int .i64 0,.int .i64 0,.str [],.int .i64 0,.int .i64 0,.int .i64 0,.slice [] .nil,.slice [] .nil,.slice [] .nil,.bool false]) (h:=HQ A L a1 d (B++[.front 0 0,.front l.length (uG l.length 11)])) (XS.row.len x) rfl (XS.row.pure x) (XS.row.ok x)
    have b2:=Dr (A:=A) (B:=B) (L:=L) (a:=a1) (d:=d) (C:=[.front 0 0,.front l.length (uG l.length 11),.front 1 11]) (k:=1) (rows:=l.map XS.cells) (new:=[x.cells]) (sz:=11) (by_:=144) (sz':=uG l.length 11) (t:=.own (HN A B+2)) (by simp) (by rw [ak1]; exact CO _ _) (by simp) (by simp) (by simp; omega) (by simp; omega)
    simp only [ak1,List.length_singleton,List.set_cons_succ,List.set_cons_zero] at b2
    simp -implicitDefEqProofs [b1,b2,lA,htr,hsp]
  ·simp -implicitDefEqProofs [lA,htr,hsp]
 rw [hfst]
 simp only [Yf]
 cases h1:isS (tk L a) [125] with
 | true =>
  right
  exact⟨_,by simp only [if_true]; rfl,by simp,by simp only [if_true]⟩
 | false =>
  simp only [ak4,if_false]
  cases q:st a d with
  | bad e p a1 d1 =>
   right
   exact⟨_,rfl,by simp,_,_,rfl⟩
  | ok x a1 d1 =>
   obtain⟨g1,g2,g3⟩:=hg a d _ _ _ q ha
   have g3:d=d1:=g3.symm
   subst g3
   left
   refine⟨(l++[x],a1,m),?_,⟨g2,by simp; omega,by simp; omega⟩,by simp,fun r hr=>hr⟩
   simp [sO]
theorem d146 {n:Nat}(hs:qS L (dk n) 154 [] Qn (qM L (rD L n) n)) (hg:mE L 1 (fun d=>d) (qM L (rD L n) n)):qS L (dk (n+1)) 110 [] zX (rD L (n+1)):=by
 intro A B a d ha hd hB
 have h181:=d181 hL
 have h183:=d183 hL
 unfold qS at h181 h183
 have hd64:=hd.2
 refine lJ (ai3 _ _ _) ?_
 simp -implicitDefEqProofs [azX,rD,ha,hB,h181,hd64]
 cases s1:isS (tk L a) [123]
 ·simp -implicitDefEqProofs [hB]
 ·have ha1:=mS hK ha s1
  by_cases h64:d=64
  ·simp -implicitDefEqProofs [hB,h64]
  ·have hd1:=hd.up h64
   obtain⟨r,h1,h2⟩:=W_ hL hs hg hB hd1 131073 [] (a+1) ha1 (by omega) (ak5 _)
   simp only [List.map_nil,am3,sP] at h1
   simp -implicitDefEqProofs [hB,h64,h1]
   cases q:vE L (qM L (rD L n) n) 131073 [] (a+1) (d+1) with
   | bad e p a2 d2 =>
    rw [q] at h2
    obtain⟨vs,C,rfl⟩:=h2
    simp -implicitDefEqProofs [hB]
   | ok l a2 d2 =>
    rw [q] at h2
    subst h2
    obtain⟨g1,g2,g3⟩:=JO hg _ _ _ _ _ _ _ q ha1
    have g3:d2=d+1:=g3
    subst g3
    have h65:d≤64:=by omega
    simp -implicitDefEqProofs [hB,g2,h183,h65]
    cases s2:isS (tk L a2) [125] <;> simp -implicitDefEqProofs [hB]
theorem ZJ:∀n,qS L (dk n) 110 [] zX (rD L n)
 | 0=>fun A B a d ha hd=>by have h1:=hd.1; have h2:=hd.2; omega
 | 1=>d146 hL hK (fun A B a d ha hd=>by have h1:=hd.1; have h2:=hd.2; omega) (Pu hK (Bt hK 0) 0)
 | n+2=>d146 hL hK (d182 hL hK (ZJ (n+1)) (Bt hK (n+1))) (Pu hK (Bt hK (n+1)) (n+1))
def XF.cells (f:XF):List kP:=[.int .i64 (f.pos:Int),.str f.name,.slice (f.params.map XP.cells) .no,.bool f.has,.int .i64 (f.result.elem:Int),.int .i64 (f.result.len:Int),.int .i64 (f.result.label:Int),.slice (f.body.map XS.cells) .no]
def ahS (f:XF):kP:=.agg f.cells
attribute [simp] ahS
omit hL hK in
theorem XF.row:U1 XF.cells 8:=⟨fun _=>rfl,fun _=>rfl,fun _=>rfl⟩
set_option maxHeartbeats 1000000 in
theorem d77:qS L (fun d=>d=0) 52 [] ahS (wH L):=by
 intro A B a d ha hd hB
 subst hd
 have h138:=d138 hL
 have h139:=d139 hL 1
 have h143:=d143 hL
 have h145:=d145 hL
 have h144:=fun l=>d144 hL l
 have h146:=ZJ hL hK 65
 have hd0:dk 65 0:=⟨rfl,by omega⟩
 unfold qS at h138 h139 h143 h145 h144 h146
 simp only [ae8] at h139
 refine lJ (as3 _ _ _) ?_
 simp -implicitDefEqProofs [m52,wH,ha,hB,h138,CK,Fu]
 cases s1:isS (tk L a) [102,110]
 ·simp -implicitDefEqProofs [hB]
 ·have ha1:=mS hK ha s1
  simp -implicitDefEqProofs [hB,ha1,h139,CK,Fu]
  by_cases k1:(tk L (a+1)).kind=1
  ·have ha2:=qF (k:=1) hK ha1 (by decide) k1
   simp -implicitDefEqProofs [hB,k1,ha2,h138,CK,Fu]
   cases s2:isS (tk L (a+1+1)) [40]
   ·simp -implicitDefEqProofs [hB]
   ·have ha3:=mS hK ha2 s2
    have hB':KB A (B++[.cells [.ptr A.length 0],.cells [.int .i64 0,.str [],.slice [] (.own (HN A B+2)),.bool false,.int .i64 0,.int .i64 0,.int .i64 0,.slice [] (.own (HN A B+3))],.front 0 0,.front 0 0,
     .cells [.int .i64 1,.int .i64 ((tk L (a+1)).pos:Int),.int .i64 ((tk L (a+1)).num:Int),.str (tk L (a+1)).text],
     .cells [.int .i64 ((tk L (a+1)).pos:Int),.str (tk L (a+1)).text,.slice [] (.own (HN A B+6)),.bool false,.int .i64 0,.int .i64 0,.int .i64 0,.slice [] (.own (HN A B+7))],.front 0 0,.front 0 0]):=hB.app (by simp [CK])
    have h140:=d140 hL hK (one:=sM L) (d:=0) [41] (GV hK) ha3 hB' Has.new (fun C a ha hB=>aDp hL hK Has.new.app ha hB)
    simp -implicitDefEqProofs [hB,h140]
    cases q:vW L [41] (sM L) (a+1+1+1) 0 with
    | bad e p a4 d4=>simp -implicitDefEqProofs [hB]
    | ok ps a4 d4 =>
     obtain⟨g1,g2,g3⟩:=FV hK (GV hK) _ _ _ _ _ q ha3
     have g3:d4=0:=g3
     subst g3
     simp -implicitDefEqProofs [hB,g2,h138,CK,Fu]
     cases s3:isS (tk L a4) [41]
     ·simp -implicitDefEqProofs [hB]
     ·have ha5:=mS hK g2 s3
      simp -implicitDefEqProofs [hB,ha5,h143,CK,Fu]
      cases s4:isS (tk L (a4+1)) [58]
      ·simp -implicitDefEqProofs [hB,ha5,h146,hd0,CK,Fu]
       cases q2:rD L 65 (a4+1) 0 with
       | bad e p a6 d6=>simp -implicitDefEqProofs [hB]
       | ok b a6 d6=>simp -implicitDefEqProofs [hB,XF.cells]
      ·have ha6:=mS hK ha5 s4
       simp -implicitDefEqProofs [hB,ha6,h145,CK,Fu]
       cases q3:rO L (a4+1+1) 0 with
       | bad e p a7 d7=>simp -implicitDefEqProofs [hB]
       | ok lab a7 d7 =>
        obtain⟨j1,j2,j3⟩:=Bv hK _ _ _ _ _ q3 ha6
        have j3:d7=0:=j3
        subst j3
        simp -implicitDefEqProofs [hB,j2,h144,CK,Fu]
        cases q4:pR L lab a7 0 with
        | bad e p a8 d8=>simp -implicitDefEqProofs [hB]
        | ok ty a8 d8 =>
         obtain⟨k1,k2,k3⟩:=Er hK _ _ _ _ _ q4 j2
         have k3:d8=0:=k3
         subst k3
         simp -implicitDefEqProofs [hB,k2,h146,hd0,CK,Fu]
         cases q2:rD L 65 a8 0 with
         | bad e p a6 d6=>simp -implicitDefEqProofs [hB]
         | ok b a6 d6=>simp -implicitDefEqProofs [hB,XF.cells]
  ·simp -implicitDefEqProofs [hB,k1]
end
end
section
open Go Hk
section
variable {x:XF}{n m:Nat}{h:kT}
@[simp] theorem aFn:x.cells.length=8:=rfl
@[simp] theorem aBT:lB 1 8 [.int .i64 0,.str [],.slice [] .nil,.bool false,.int .i64 0,.int .i64 0,.int .i64 0,.slice [] .nil] [(0,.agg x.cells)] h=some (.slice [x.cells] (.own h.length),h++[.front 1 8]) :=
 wU (XF.row.len x) rfl (XF.row.pure x) (XF.row.ok x)
end
def hP (e p:Nat) (l:List XF) (n sz:Nat) (L:List Token) (a d:Nat) (C:List lR):kT :=
 .cells [.slice (l.map XF.cells) (.own 1)]::.front n sz::.cells [.int .i64 (e:Int),.int .i64 (p:Int)]::PB L a d::C
theorem Yd {L:List Token}{m a d:Nat}{l:List XF}:pO L (m+1) l a d=if (tk L a).kind=0 then .ok l a d else match wH L a d with
  | .bad e p a1 d1=>.bad e p a1 d1
  | .ok x a1 d1=>pO L m (l++[x]) a1 d1:=by
 rw [pO]
 simp only [mO,PM.bind,o7]
 by_cases h:(tk L a).kind=0
 ·simp [h,yI]
 ·simp only [h,if_false,PM.bind]
  cases wH L a d <;> rfl
section
variable {L:List Token}(hL:L.length≤131072) (hK:rE L)
include hL hK
omit hL hK in
theorem aaQ {e p:Int}{rows:List (List kP)}{n sz a d:Nat}{C:List lR}:mI 4 (.cells [.slice rows (.own 1)]::.front n sz::.cells [.int .i64 e,.int .i64 p]::PB L a d::C)=some [.cells [.slice rows (.own 1)],.front n sz,.cells [.int .i64 e,.int .i64 p],PB L a d]:=by
 simp [mI,PB]
theorem Z0 (e0 p0:Nat) (m:Nat) (l:List XF) (a:Nat) (ha:a < L.length) (hm:L.length < a+m) (hl:l.length≤a) :
  ∃r,mQ (Ly KK 4) ([.ptr 0 0,.ptr 2 0,.ptr 3 0],hP e0 p0 l l.length (uG l.length 8) L a 0 [])=some r ∧
   match pO L m l a 0 with
   | .ok l' a' d'=>r=(.exit 0,[.ptr 0 0,.ptr 2 0,.ptr 3 0],hP e0 p0 l' l'.length (uG l'.length 8) L a' d' [])
   | .bad e p a' d'=>∃l':List XF,r=(.pan (qG e p),[.ptr 0 0,.ptr 2 0,.ptr 3 0],hP e0 p0 l' l'.length (uG l'.length 8) L a' d' []):=by
 refine Df (σ:=List XF×Nat×Nat) (fun s=>([.ptr 0 0,.ptr 2 0,.ptr 3 0],hP e0 p0 s.1 s.1.length (uG s.1.length 8) L s.2.1 0 []))
  (fun s=>s.2.1 < L.length∧L.length < s.2.1+s.2.2∧s.1.length≤s.2.1) (fun s=>s.2.2)
  (fun s r=>match pO L s.2.2 s.1 s.2.1 0 with
   | .ok l' a' d'=>r=(.exit 0,[.ptr 0 0,.ptr 2 0,.ptr 3 0],hP e0 p0 l' l'.length (uG l'.length 8) L a' d' [])
   | .bad e p a' d'=>∃l':List XF,r=(.pan (qG e p),[.ptr 0 0,.ptr 2 0,.ptr 3 0],hP e0 p0 l' l'.length (uG l'.length 8) L a' d' [])) ?_ (l,a,m) ⟨ha,hm,hl⟩
 rintro⟨l,a,m⟩ ⟨ha,hm,hl⟩
 simp only at ha hm hl
 obtain⟨m,rfl⟩:∃j,m=j+1:=⟨m - 1,by omega⟩
 have hKB:KB [.cells [.slice (l.map XF.cells) (.own 1)],.front l.length (uG l.length 8),.cells [.int .i64 (e0:Int),.int .i64 (p0:Int)]] []:=⟨fun n hn=>by simp [HN] at hn ⊢; omega,fun n hn=>by simp⟩
 have hKB2:KB [.gone,.front l.length (uG l.length 8),.cells [.int .i64 (e0:Int),.int .i64 (p0:Int)]] []:=⟨fun n hn=>by simp,fun n hn=>by simp⟩
 have h76:=d76 (L:=L) _ _ a 0 ha trivial hKB
 have h77:=d77 hL hK _ _ a 0 ha rfl hKB2
 simp only [o7,adV,zA,HQ,am1,am3,af5,an4] at h76 h77
 have htr:=fun e p rows n sz a d C=>aaQ (L:=L) (e:=e) (p:=p) (rows:=rows) (n:=n) (sz:=sz) (a:=a) (d:=d) (C:=C)
 have s1:∀h,kP.xR 4 h (.ptr 0 0)=.ptr 0 0:=fun h=>uA (by omega)
 have s2:∀h,kP.xR 4 h (.ptr 2 0)=.ptr 2 0:=fun h=>uA (by omega)
 have s3:∀h,kP.xR 4 h (.ptr 3 0)=.ptr 3 0:=fun h=>uA (by omega)
 have hfst:Ly KK 4 ([.ptr 0 0,.ptr 2 0,.ptr 3 0],hP e0 p0 l l.length (uG l.length 8) L a 0 []) =
   if (tk L a).kind=0 then some (.exit 0,[.ptr 0 0,.ptr 2 0,.ptr 3 0],hP e0 p0 l l.length (uG l.length 8) L a 0 [])
   else match wH L a 0 with
   | .bad e p a1 d1=>some (.pan (qG e p),[.ptr 0 0,.ptr 2 0,.ptr 3 0],hP e0 p0 l l.length (uG l.length 8) L a1 d1 [])
   | .ok x a1 d1=>some (.normal,[.ptr 0 0,.ptr 2 0,.ptr 3 0],hP e0 p0 (l++[x]) (l++[x]).length 8 L a1 0 []):=by
  by_cases h0:(tk L a).kind=0
  ·have h0':((tk L a).kind:Int)=0:=by omega
   simp -implicitDefEqProofs [Ly,hP,h76,h0,lA,htr,s1,s2,s3]
  ·have h0':¬((tk L a).kind:Int)=0:=by omega
   simp -implicitDefEqProofs [Ly,hP,h76,h0,h0',h77]
   cases q:wH L a 0 with
   | bad e p a1 d1=>simp -implicitDefEqProofs [HQ,lA,htr,s1,s2,s3,hP]
   | ok x a1 d1 =>
    obtain⟨g1,g2,g3⟩:=(Lb hK) _ _ _ _ _ q ha
    have g3:d1=0:=g3
    subst g3
    have b2:∀(u:List lR),mN 8 104 (.cells [.slice (l.map XF.cells) (.own 1)]::.front l.length (uG l.length 8)::u) (.slice (l.map XF.cells) (.own 1)) (.slice [x.cells] (.own 4)) =
      some (.slice (l.map XF.cells++[x.cells]) (.own 1),.cells [.slice (l.map XF.cells) (.own 1)]::.front (l.length+1) 8::u):=by
     intro u
     have hb1:(l.length+1) * 104≤140737488355328:=by omega
     have hb2:l.length+1≤140737488355328:=by omega
     have hf:uG l.length 8=8∨l=[]∧uG l.length 8=0:=by
      rcases CO l.length 8 with h | h
      ·exact .inl h
      ·exact .inr ⟨List.length_eq_zero_iff.1 h.1,h.2⟩
     simp [mN,qU,hb1,hb2]
     exact fun h=>hf.resolve_left h
    simp -implicitDefEqProofs [HQ,b2,lA,htr,s1,s2,s3,hP]
 rw [hfst]
 simp only [Yd]
 by_cases h0:(tk L a).kind=0
 ·right
  refine⟨_,by simp only [h0,if_true]; rfl,by simp,?_⟩
  simp only [h0,if_true]
 ·simp only [h0,if_false]
  cases q:wH L a 0 with
  | bad e p a1 d1=>exact .inr ⟨_,rfl,by simp,l,rfl⟩
  | ok x a1 d1 =>
   obtain⟨g1,g2,g3⟩:=(Lb hK) _ _ _ _ _ q ha
   have g3:d1=0:=g3
   subst g3
   exact .inl ⟨(l++[x],a1,m),by simp [sO],⟨g2,by simp; omega,by simp; omega⟩,by simp,fun r hr=>hr⟩
omit hL hK in
theorem X8 {e0 p0:Nat}{l:List XF}{n sz a d:Nat}{L:List Token}:Uc KK [.ptr 0 0,.ptr 2 0] none (hP e0 p0 l n sz L a d [])=some (hP e0 p0 l n sz L a d []):=by
 simp [Uc,VW,hP,PB,mI,qD,nI]
omit hL hK in
theorem X9 {e0 p0:Nat}{l:List XF}{a d e p:Nat}{L:List Token} :
  ∃t:Tok,(t=.nil∨t=.own 1)∧Uc KK [.ptr 0 0,.ptr 2 0] (some (qG e p)) (hP e0 p0 l l.length (uG l.length 8) L a d [])=some (.cells [.slice [] t]::.front l.length (uG l.length 8)::.cells [.int .i64 (e:Int),.int .i64 (p:Int)]::PB L a d::[]):=by
 cases l with
 | nil =>
  refine⟨.own 1,.inr rfl,?_⟩
  simp [Uc,VW,hP,PB,mI,uG,qD,nI]
 | cons x l =>
  refine⟨.nil,.inl rfl,?_⟩
  have hk:∀h r rs id,yU h (.slice (r::rs) (.own id)) (.slice [] .nil)=.slice [] .nil:=fun _ _ _ _=>(rfl)
  simp [Uc,VW,hP,PB,mI,hk,qD,nI]
end
theorem E_ {s:List UInt8}(h:(oT s).2.1=0):∃l:List Token,oT s=(l++[⟨0,s.length,0,[]⟩],0,0)∧(∀x∈l,Fact s x)∧l.Pairwise (fun x y=>x.pos < y.pos):=by
 unfold oT at h ⊢
 split at h
 ·cases h
 ·rename_i hs
  rw [if_neg hs]
  rcases CQ s 0 [] with ⟨p,hp⟩ | ⟨l,hl,h1,h2⟩
  ·rw [hp] at h; cases h
  ·exact⟨l,by simpa using hl,fun x hx=>(h1 x hx).2,h2⟩
theorem B_ {l:List Token}{n:Nat}:rE (l++[⟨0,n,0,[]⟩]):=by
 intro i t hi hk
 by_cases h:i < l.length
 ·simp; omega
 ·rw [ae9 (by omega)] at hi
  obtain⟨h1,h2⟩:=ab2.1 hi
  simp at h1
  have:i - l.length=0:=by omega
  rw [←h2] at hk
  simp [this] at hk
theorem c25 (s:List UInt8) (h:kT):KK 25 [.str s] h=some (.ret (.tuple [.agg [.slice ((nM s).1.map XF.cells) .no],.agg [.int .i64 ((nM s).2.1:Int),.int .i64 ((nM s).2.2:Int)]]),h):=by
 refine lK rfl rfl (lJ (asM _ _ _) ?_)
 have h20:=c49 s
 unfold nM
 by_cases he:(oT s).2.1=0
 ·have he':(((oT s).2.1:Nat):Int)=0:=by omega
  obtain⟨l0,hl0,_,_⟩:=E_ he
  have hlen:=De s
  have hL:(oT s).1.length≤131072:=by omega
  have hK:rE (oT s).1:=by rw [hl0]; exact B_
  have h0:0 < (oT s).1.length:=by rw [hl0]; simp
  rw [if_pos he]
  obtain⟨r,h1,h2⟩:=Z0 hL hK 0 (oT s).2.2 131073 [] 0 h0 (by omega) (ak5 _)
  simp only [hP,List.map_nil,am3,sP,PB,ae8] at h1
  simp -implicitDefEqProofs [m25,h20,he,h1]
  cases q:pO (oT s).1 131073 [] 0 0 with
  | ok l a d =>
   rw [q] at h2
   subst h2
   have h3:=X8 (e0:=0) (p0:=0) (l:=l) (n:=l.length) (sz:=uG l.length 8) (a:=a) (d:=d) (L:=(oT s).1)
   simp only [hP,PB,ae8] at h3
   simp -implicitDefEqProofs [hP,PB,h3,kS]
  | bad e p a d =>
   rw [q] at h2
   obtain⟨l,rfl⟩:=h2
   obtain⟨t,ht,h3⟩:=X9 (e0:=0) (p0:=(oT s).2.2) (l:=l) (a:=a) (d:=d) (e:=e) (p:=p) (L:=(oT s).1)
   simp only [hP,PB,ae8,qG] at h3
   rcases ht with rfl | rfl <;> simp -implicitDefEqProofs [hP,PB,h3,kS]
 ·have he':¬(((oT s).2.1:Nat):Int)=0:=by omega
  rw [if_neg he]
  simp -implicitDefEqProofs [m25,h20,he,he',kS]
end
section
open Go Hk
def Out.idx {α:Type}:Out α→Nat
 | .ok _ a _=>a
 | .bad _ _ a _=>a
structure Loc {α:Type}(x:List Token→PM α):Prop where
 mono:∀L a d,a≤(x L a d).idx
 loc:∀L L' a d,(∀i,i≤(x L a d).idx→tk L' i=tk L i)→x L' a d=x L a d
 place:∀L a d e p a' d',x L a d=.bad e p a' d'→p=(tk L a').pos∧e≠0
theorem Loc.bind {α β:Type}{x:List Token→PM α}{f:List Token→α→PM β}(hx:Loc x) (hf:∀v,Loc fun L=>f L v):Loc fun L=>x L >>= f L where
 mono:=fun L a d=>by
  have h1:=hx.mono L a d
  simp only [mO,PM.bind]
  cases h:x L a d with
  | ok v a' d'=>rw [h] at h1; exact Nat.le_trans h1 ((hf v).mono L a' d')
  | bad e p a' d'=>rw [h] at h1; exact h1
 loc:=fun L L' a d hh=>by
  have h1:=hx.mono L a d
  have h2:=hx.loc L L' a d
  simp only [mO,PM.bind] at hh ⊢
  cases h:x L a d with
  | ok v a' d' =>
   rw [h] at hh h1 h2
   simp only [] at hh
   have h3:=(hf v).mono L a' d'
   rw [h2 fun i hi=>hh i (Nat.le_trans hi h3)]
   exact(hf v).loc L L' a' d' hh
  | bad e p a' d' =>
   rw [h] at hh h2
   rw [h2 hh]
 place:=fun L a d e p a' d' hb=>by
  simp only [mO,PM.bind] at hb
  cases h:x L a d with
  | ok v a1 d1=>rw [h] at hb; exact(hf v).place L a1 d1 e p a' d' hb
  | bad e1 p1 a1 d1=>rw [h] at hb; cases hb; exact hx.place L a d _ _ _ _ h
theorem Loc.pure {α:Type}{v:α}:Loc fun _=>(Pure.pure v:PM α) :=
 ⟨fun _ _ _=>ac9 _,fun _ _ _ _ _=>rfl,fun _ _ _ _ _ _ _ h=>by cases h⟩
theorem Loc.ite {α:Type}{c:Prop} [Decidable c] {x y:List Token→PM α}(hx:Loc x) (hy:Loc y):Loc fun L=>if c then x L else y L:=by
 by_cases h:c
 ·simp only [h,if_true]; exact hx
 ·simp only [h,if_false]; exact hy
theorem Loc.opt {α:Type}{o:Option Nat}{x:List Token→PM α}{f:List Token→Nat→PM α}(hx:Loc x) (hf:∀k,Loc fun L=>f L k):Loc fun L=>(match o with | none=>x L | some k=>f L k):=by
 cases o with
 | none=>exact hx
 | some k=>exact hf k
theorem FY {α:Type}{e:Nat}(he:e≠0:=by decide):Loc fun L=>(xY L e:PM α) :=
 ⟨fun _ _ _=>ac9 _,fun L L' a d h=>by simp only [xY]; rw [h a (ac9 _)],fun L a d e p a' d' h=>by cases h; exact⟨rfl,he⟩⟩
theorem DI:Loc fun L=>o7 L :=
 ⟨fun _ _ _=>ac9 _,fun L L' a d h=>by simp only [o7]; rw [h a (ac9 _)],fun _ _ _ _ _ _ _ h=>by cases h⟩
theorem PH:Loc fun _=>w_:=⟨fun _ _ _=>Nat.le_succ _,fun _ _ _ _ _=>rfl,fun _ _ _ _ _ _ _ h=>by cases h⟩
theorem aEb:Loc fun _=>pUp:=⟨fun _ _ _=>ac9 _,fun _ _ _ _ _=>rfl,fun _ _ _ _ _ _ _ h=>by cases h⟩
theorem TX {w:List UInt8}:Loc fun L=>EF L w :=
 ⟨fun _ _ _=>ac9 _,fun L L' a d h=>by simp only [EF]; rw [h a (ac9 _)],fun _ _ _ _ _ _ _ h=>by cases h⟩
theorem Ab {w:List UInt8}:Loc fun L=>o9 L w :=
 ⟨fun L a d=>by simp only [o9,Out.idx]; split <;> omega,fun L L' a d h=>by
  have:a≤(o9 L w a d).idx:=by simp only [o9,Out.idx]; split <;> omega
  simp only [o9]; rw [h a this],fun _ _ _ _ _ _ _ h=>by cases h⟩
theorem Loc.one {α:Type}{x:List Token→PM α}(f:Token→Nat→Nat→Option (α×Nat×Nat)) (g:Token→Nat→Nat→Nat) (hg:∀t a d,g t a d≠0) (hf:∀t a d v a' d',f t a d=some (v,a',d')→a≤a')
  (hx:∀L a d,x L a d=match f (tk L a) a d with | some (v,a',d')=>.ok v a' d' | none=>.bad (g (tk L a) a d) (tk L a).pos a d):Loc x:=by
 have hm:∀L a d,a≤(x L a d).idx:=fun L a d=>by
  rw [hx]
  cases h:f (tk L a) a d with
  | none=>exact ac9 _
  | some y=>obtain⟨v,a',d'⟩:=y; exact hf _ _ _ _ _ _ h
 refine⟨hm,fun L L' a d h=>?_,fun L a d e p a' d' h=>?_⟩
 ·rw [hx,hx,h a (hm L a d)]
 ·rw [hx] at h
  split at h
  ·cases h
  ·cases h; exact⟨rfl,hg _ _ _⟩
theorem wC {w:List UInt8}:Loc fun L=>oQ L w :=
 Loc.one (fun t a d=>if isS t w then some ((),a+1,d) else none) (fun _ _ _=>10) (fun _ _ _=>by decide) (fun t a d v a' d' h=>by split at h <;> simp at h; omega) fun L a d=>by
  simp only [oQ]; cases isS (tk L a) w <;> rfl
theorem Bh {k:Nat}:Loc fun L=>qO L k :=
 Loc.one (fun t a d=>if t.kind=k then some (t,a+1,d) else none) (fun _ _ _=>10) (fun _ _ _=>by decide) (fun t a d v a' d' h=>by split at h <;> simp at h; omega) fun L a d=>by
  simp only [qO]; by_cases h:(tk L a).kind=k <;> simp [h]
theorem FZ {w:List UInt8}:Loc fun L=>tS L w :=
 Loc.one (fun t a d=>if isS t w then(if d=64 then none else some ((),a+1,d+1)) else none) (fun t _ d=>if isS t w then 11 else 10) (fun t _ d=>by split <;> decide) (fun t a d v a' d' h=>by
  split at h
  ·split at h <;> simp at h; omega
  ·cases h) fun L a d=>by
  simp only [tS]; cases isS (tk L a) w <;> by_cases h:d=64 <;> simp [h]
theorem Im {w:List UInt8}:Loc fun L=>tT L w :=
 Loc.one (fun t a d=>if isS t w then some ((),a+1,d - 1) else none) (fun _ _ _=>10) (fun _ _ _=>by decide) (fun t a d v a' d' h=>by split at h <;> simp at h; omega) fun L a d=>by
  simp only [tT]; cases isS (tk L a) w <;> rfl
theorem JT:Loc fun L=>rO L :=
 Loc.one (fun t a d=>if isS t II then some (1,a+1,d) else if isS t Nw then some (0,a+1,d) else none) (fun _ _ _=>10) (fun _ _ _=>by decide) (fun t a d v a' d' h=>by
  split at h
  ·simp at h; omega
  ·split at h <;> simp at h; omega) fun L a d=>by
  simp only [rO]; cases isS (tk L a) II <;> cases isS (tk L a) Nw <;> rfl
theorem Ln {l:Nat}:Loc fun L=>pR L l :=
 Loc.one (fun t a d=>if isS t zK then some (⟨1,0,l⟩,a+1,d) else if isS t IS then some (⟨0,0,l⟩,a+1,d) else none) (fun _ _ _=>10) (fun _ _ _=>by decide) (fun t a d v a' d' h=>by
  split at h
  ·simp at h; omega
  ·split at h <;> simp at h; omega) fun L a d=>by
  simp only [pR]; cases isS (tk L a) zK <;> cases isS (tk L a) IS <;> rfl
theorem aa9:Loc fun L=>xZ L :=
 wC.bind fun _=>DI.bind fun t=>Loc.ite FY (Bh.bind fun _=>wC.bind fun _=>Loc.pure)
theorem VD {l:Nat}:Loc fun L=>uL L l :=
 Ab.bind fun _=>Loc.ite (aa9.bind fun _=>Loc.pure) (Ln.bind fun t=>Loc.ite (TX.bind fun _=>Loc.ite (aa9.bind fun _=>Loc.pure) Loc.pure) Loc.pure)
theorem VE:Loc fun L=>sM L :=
 Ab.bind fun _=>JT.bind fun _=>Bh.bind fun _=>wC.bind fun _=>VD.bind fun _=>Loc.pure
theorem abA {α:Type}{one:List Token→PM α}(h:Loc one):∀(n:Nat) (l:List α),Loc fun L=>vD L (one L) n l
 | 0,_=>FY
 | n+1,l=>h.bind fun x=>Ab.bind fun _=>Loc.ite (abA h n _) Loc.pure
theorem TZ {α:Type}{one:List Token→PM α}{w:List UInt8}(h:Loc one):Loc fun L=>vW L w (one L) :=
 TX.bind fun _=>Loc.ite Loc.pure (abA h _ _)
section
variable {ex un:List Token→PM XE}(he:Loc ex) (hu:Loc un)
include he
theorem VC:Loc fun L=>tF L (ex L):=FZ.bind fun _=>he.bind fun _=>Im.bind fun _=>Loc.pure
theorem aa6 {t:Token}:Loc fun L=>xX L (ex L) t:=FZ.bind fun _=>(TZ he).bind fun _=>Im.bind fun _=>Loc.pure
theorem aa5:∀(n:Nat) (b:Bool) (l:List XE),Loc fun L=>rT L (ex L) n b l
 | 0,_,_=>Loc.pure
 | n+1,b,l=>by
  have h1:∀_:Unit,Loc fun L=>(do let x ←ex L; rT L (ex L) n false (l++[x]):PM (List XE)):=fun _=>he.bind fun _=>aa5 n _ _
  cases b
  ·exact wC.bind fun u=>h1 u
  ·exact Loc.bind (x:=fun _=>(Pure.pure PUnit.unit:PM PUnit)) Loc.pure fun u=>h1 u
theorem Lm {kind many:Nat}{number:Bool}:Loc fun L=>uX L (ex L) kind many number :=
 DI.bind fun _=>PH.bind fun _=>FZ.bind fun _=>(aa5 he _ _ _).bind fun _ =>
  Loc.ite (wC.bind fun _=>Bh.bind fun _=>Im.bind fun _=>Loc.pure) (Im.bind fun _=>Loc.pure)
theorem Xz:Loc fun L=>oA L (ex L) :=
 DI.bind fun _=>Loc.ite (PH.bind fun _=>Loc.pure) (Loc.ite (FZ.bind fun _=>he.bind fun _=>Im.bind fun _=>Loc.pure) (Loc.ite (Lm he) (Loc.ite (Lm he) (Loc.ite (Lm he) (Loc.ite (Lm he) (Loc.ite (Lm he)
  (Bh.bind fun _=>TX.bind fun _=>Loc.ite (aa6 he) (TX.bind fun _=>Loc.ite ((VC he).bind fun _=>Loc.pure) Loc.pure))))))))
include hu
theorem aiG:Loc fun L=>uY L (ex L) (un L):=by
 have hs:∀kind,Loc fun L=>Ag L (un L) kind:=fun kind=>DI.bind fun _=>FZ.bind fun _=>hu.bind fun _=>aEb.bind fun _=>Loc.pure
 exact DI.bind fun _=>Loc.ite (hs _) (Loc.ite (hs _) (Loc.ite (hs _) (Xz he)))
end
theorem TY {next:List Token→PM XE}(hn:Loc next) (k:Nat):∀(n:Nat) (x:XE),Loc fun L=>q7 L (next L) k n x
 | 0,_=>FY
 | n+1,x=>DI.bind fun t=>Loc.opt (o:=oK t k) Loc.pure fun kind=>PH.bind fun _=>Loc.ite (Bh.bind fun _=>TY hn k n _) (hn.bind fun _=>TY hn k n _)
theorem JS {un:List Token→PM XE}(hu:Loc un):∀j,Loc fun L=>nR L (un L) j
 | 0=>hu
 | j+1=>(JS hu j).bind fun _=>TY (JS hu j) _ _ _
theorem aa8 {un:List Token→PM XE}(hu:Loc un):Loc fun L=>vQ L (un L) :=
 (JS hu 6).bind fun _=>DI.bind fun t=>Loc.opt (o:=oK t 0) Loc.pure fun _=>PH.bind fun _=>(JS hu 6).bind fun _=>Loc.pure
theorem arT:∀n,Loc fun L=>Aq L n
 | 0=>FY
 | n+1=>aiG (aa8 (arT n)) (arT n)
theorem aa7 (n:Nat):Loc fun L=>AE L n:=aa8 (arT n)
theorem VB (n:Nat):Loc fun L=>y9 L n:=(aa7 n).bind fun _=>wC.bind fun _=>Loc.pure
theorem aiF (n pos:Nat):Loc fun L=>pG L n pos :=
 Bh.bind fun _=>TX.bind fun _=>Loc.ite ((aa6 (aa7 _)).bind fun _=>wC.bind fun _=>Loc.pure)
  (TX.bind fun _=>Loc.ite ((VC (aa7 _)).bind fun _=>wC.bind fun _=>(VB _).bind fun _=>Loc.pure) (wC.bind fun _=>(VB _).bind fun _=>Loc.pure))
theorem abB {block:List Token→PM (List XS)}(hb:Loc block) (n:Nat):Loc fun L=>qM L (block L) n :=
 DI.bind fun _=>Ab.bind fun _=>Loc.ite (Bh.bind fun _=>wC.bind fun _=>(VB _).bind fun _=>Loc.pure)
  (Ab.bind fun _=>Loc.ite (JT.bind fun _=>Bh.bind fun _=>wC.bind fun _=>VD.bind fun _=>wC.bind fun _=>Loc.pure)
  (Ab.bind fun _=>Loc.ite ((aa7 n).bind fun _=>hb.bind fun _=>Ab.bind fun _=>Loc.ite (hb.bind fun _=>Loc.pure) Loc.pure)
  (Ab.bind fun _=>Loc.ite (Bh.bind fun _=>wC.bind fun _=>(aa7 n).bind fun _=>wC.bind fun _=>Bh.bind fun _=>hb.bind fun _=>Loc.pure)
  (Ab.bind fun _=>Loc.ite ((VB n).bind fun _=>Loc.pure) (aiF _ _)))))
theorem PI {stmt:List Token→PM XS}(hs:Loc stmt):∀(m:Nat) (l:List XS),Loc fun L=>vE L (stmt L) m l
 | 0,_=>FY
 | m+1,l=>TX.bind fun _=>Loc.ite Loc.pure (hs.bind fun _=>PI hs m _)
theorem JR:∀n,Loc fun L=>rD L n
 | 0=>FY
 | n+1=>FZ.bind fun _=>(PI (abB (JR n) n) _ _).bind fun _=>Im.bind fun _=>Loc.pure
theorem arS:Loc fun L=>wH L :=
 wC.bind fun _=>Bh.bind fun _=>wC.bind fun _=>(TZ VE).bind fun _=>wC.bind fun _=>Ab.bind fun _ =>
  Loc.ite (JT.bind fun _=>Ln.bind fun _=>(JR _).bind fun _=>Loc.pure) ((JR _).bind fun _=>Loc.pure)
theorem PG:∀(m:Nat) (l:List XF),Loc fun L=>pO L m l
 | 0,_=>FY
 | m+1,l=>DI.bind fun _=>Loc.ite Loc.pure (arS.bind fun _=>PG m _)
end
section
open Go Hk
section
variable {c:UInt8}(hc:c=10∨c=32)
include hc
end
end
section
open Go Hk

end
section
open Go Hk
def A2 (L:List Token) {α:Type}(x:PM α) (a:Nat):Prop:=∀d,(x a d).idx < L.length
def rQ (L:List Token) {α:Type}(x:PM α):Prop:=∀a,a < L.length→A2 L x a
section
variable {L:List Token}{α β:Type}
theorem rQ.bind {x:PM α}{f:α→PM β}(hx:rQ L x) (hf:∀v,rQ L (f v)):rQ L (x >>= f):=by
 intro a ha d
 have h1:=hx a ha d
 simp only [mO,PM.bind]
 cases h:x a d with
 | ok v a' d'=>rw [h] at h1; exact hf v a' h1 d'
 | bad e p a' d'=>rw [h] at h1; exact h1
theorem rQ.pure {v:α}:rQ L (Pure.pure v:PM α):=fun _ ha _=>ha
theorem rQ.fail {e:Nat}:rQ L (xY L e:PM α):=fun _ ha _=>ha
theorem rQ.ite {c:Prop} [Decidable c] {x y:PM α}(hx:rQ L x) (hy:rQ L y):rQ L (if c then x else y):=by
 split
 ·exact hx
 ·exact hy
theorem A2.ite {c:Prop} [Decidable c] {x y:PM α}{a:Nat}(hx:c→A2 L x a) (hy:¬c→A2 L y a):A2 L (if c then x else y) a:=by
 split
 ·rename_i h; exact hx h
 ·rename_i h; exact hy h
theorem A2.here {f:Token→PM α}{a:Nat}(h:A2 L (f (tk L a)) a):A2 L (o7 L >>= f) a:=fun d=>h d
theorem A2.next {f:Unit→PM α}{a:Nat}(ha:a+1 < L.length) (h:rQ L (f ())):A2 L (w_ >>= f) a:=fun d=>h (a+1) ha d
theorem Lh:rQ L (o7 L):=fun _ ha _=>ha
theorem TQ {w:List UInt8}:rQ L (EF L w):=fun _ ha _=>ha
theorem aD6:rQ L pUp:=fun _ ha _=>ha
variable (hL:rE L)
include hL
theorem AU {w:List UInt8}:rQ L (o9 L w):=by
 intro a ha d
 simp only [o9,Out.idx]
 split
 ·rename_i h; exact mS hL ha h
 ·exact ha
theorem yC {w:List UInt8}:rQ L (oQ L w):=by
 intro a ha d
 simp only [oQ]
 split
 ·rename_i h; exact mS hL ha h
 ·exact ha
theorem B0 {k:Nat}(hk:k≠0):rQ L (qO L k):=by
 intro a ha d
 simp only [qO]
 split
 ·rename_i h; exact qF hL ha hk h
 ·exact ha
theorem Ij {w:List UInt8}:rQ L (tS L w):=by
 intro a ha d
 simp only [tS]
 split
 ·rename_i h
  split
  ·exact ha
  ·exact mS hL ha h
 ·exact ha
theorem Ik {w:List UInt8}:rQ L (tT L w):=by
 intro a ha d
 simp only [tT]
 split
 ·rename_i h; exact mS hL ha h
 ·exact ha
theorem PD:rQ L (rO L):=by
 intro a ha d
 simp only [rO]
 split
 ·rename_i h; exact mS hL ha h
 ·split
  ·rename_i h; exact mS hL ha h
  ·exact ha
theorem RW {l:Nat}:rQ L (pR L l):=by
 intro a ha d
 simp only [pR]
 split
 ·rename_i h; exact mS hL ha h
 ·split
  ·rename_i h; exact mS hL ha h
  ·exact ha
theorem aa0:rQ L (xZ L):=(yC hL).bind fun _=>Lh.bind fun _=>rQ.ite rQ.fail ((B0 hL (by decide)).bind fun _=>(yC hL).bind fun _=>rQ.pure)
theorem Vz {l:Nat}:rQ L (uL L l) :=
 (AU hL).bind fun _=>rQ.ite ((aa0 hL).bind fun _=>rQ.pure) ((RW hL).bind fun _=>rQ.ite (TQ.bind fun _=>rQ.ite ((aa0 hL).bind fun _=>rQ.pure) rQ.pure) rQ.pure)
theorem ah2:rQ L (sM L) :=
 (AU hL).bind fun _=>(PD hL).bind fun _=>(B0 hL (by decide)).bind fun _=>(yC hL).bind fun _=>(Vz hL).bind fun _=>rQ.pure
theorem aa1 {one:PM α}(h:rQ L one):∀(n:Nat) (l:List α),rQ L (vD L one n l)
 | 0,_=>rQ.fail
 | n+1,l=>h.bind fun x=>(AU hL).bind fun _=>rQ.ite (aa1 h n _) rQ.pure
theorem aaZ {one:PM α}{w:List UInt8}(h:rQ L one):rQ L (vW L w one):=TQ.bind fun _=>rQ.ite rQ.pure (aa1 hL h _ _)
section
variable {ex un:PM XE}(he:rQ L ex) (hu:rQ L un)
include he
theorem Vx:rQ L (tF L ex):=(Ij hL).bind fun _=>he.bind fun _=>(Ik hL).bind fun _=>rQ.pure
theorem aaW {t:Token}:rQ L (xX L ex t):=(Ij hL).bind fun _=>(aaZ hL he).bind fun _=>(Ik hL).bind fun _=>rQ.pure
theorem aaV:∀(n:Nat) (b:Bool) (l:List XE),rQ L (rT L ex n b l)
 | 0,_,_=>rQ.pure
 | n+1,b,l=>by
  have h1:∀_:Unit,rQ L (do let x ←ex; rT L ex n false (l++[x]):PM (List XE)):=fun _=>he.bind fun _=>aaV n _ _
  cases b
  ·exact(yC hL).bind fun u=>h1 u
  ·exact rQ.bind (x:=(Pure.pure PUnit.unit:PM PUnit)) rQ.pure fun u=>h1 u
theorem Li {kind many a:Nat}{number:Bool}(ha:a+1 < L.length):A2 L (uX L ex kind many number) a :=
 A2.here (A2.next ha ((Ij hL).bind fun _=>(aaV hL he _ _ _).bind fun _ =>
  rQ.ite ((yC hL).bind fun _=>(B0 hL (by decide)).bind fun _=>(Ik hL).bind fun _=>rQ.pure) ((Ik hL).bind fun _=>rQ.pure)))
theorem Xq:rQ L (oA L ex):=fun a ha=>A2.here (A2.ite (fun h=>A2.next (qF (k:=2) hL ha (by decide) h) rQ.pure) fun _ =>
 A2.ite (fun _=>((Ij hL).bind fun _=>he.bind fun _=>(Ik hL).bind fun _=>rQ.pure) a ha) fun _ =>
 A2.ite (fun h=>Li hL he (mS hL ha h)) fun _=>A2.ite (fun h=>Li hL he (mS hL ha h)) fun _=>A2.ite (fun h=>Li hL he (mS hL ha h)) fun _ =>
 A2.ite (fun h=>Li hL he (mS hL ha h)) fun _=>A2.ite (fun h=>Li hL he (mS hL ha h)) fun _ =>
 ((B0 hL (by decide)).bind fun _=>TQ.bind fun _=>rQ.ite (aaW hL he) (TQ.bind fun _=>rQ.ite ((Vx hL he).bind fun _=>rQ.pure) rQ.pure)) a ha)
include hu
theorem ah3:rQ L (uY L ex un):=by
 have hs:∀kind,rQ L (Ag L un kind):=fun kind=>Lh.bind fun _=>(Ij hL).bind fun _=>hu.bind fun _=>aD6.bind fun _=>rQ.pure
 exact Lh.bind fun _=>rQ.ite (hs _) (rQ.ite (hs _) (rQ.ite (hs _) (Xq hL he)))
end
theorem TR {next:PM XE}(hn:rQ L next) (k:Nat):∀(n:Nat) (x:XE),rQ L (q7 L next k n x)
 | 0,_=>rQ.fail
 | n+1,x=>fun a ha=>A2.here (by
  cases hs:oK (tk L a) k with
  | none=>exact rQ.pure a ha
  | some kind=>exact A2.next (qF (k:=4) hL ha (by decide) (sL hs)) (rQ.ite ((B0 hL (by decide)).bind fun _=>TR hn k n _) (hn.bind fun _=>TR hn k n _)))
theorem JP {un:PM XE}(hu:rQ L un):∀j,rQ L (nR L un j)
 | 0=>hu
 | j+1=>(JP hu j).bind fun _=>TR hL (JP hu j) _ _ _
theorem aaY {un:PM XE}(hu:rQ L un):rQ L (vQ L un) :=
 (JP hL hu 6).bind fun _=>fun a ha=>A2.here (by
  cases hs:oK (tk L a) 0 with
  | none=>exact rQ.pure a ha
  | some kind=>exact A2.next (qF (k:=4) hL ha (by decide) (sL hs)) ((JP hL hu 6).bind fun _=>rQ.pure))
theorem arE:∀n,rQ L (Aq L n)
 | 0=>rQ.fail
 | n+1=>ah3 hL (aaY hL (arE n)) (arE n)
theorem aaX (n:Nat):rQ L (AE L n):=aaY hL (arE hL n)
theorem Vw (n:Nat):rQ L (y9 L n):=(aaX hL n).bind fun _=>(yC hL).bind fun _=>rQ.pure
theorem ah1 (n pos:Nat):rQ L (pG L n pos) :=
 (B0 hL (by decide)).bind fun _=>TQ.bind fun _=>rQ.ite ((aaW hL (aaX hL _)).bind fun _=>(yC hL).bind fun _=>rQ.pure)
  (TQ.bind fun _=>rQ.ite ((Vx hL (aaX hL _)).bind fun _=>(yC hL).bind fun _=>(Vw hL _).bind fun _=>rQ.pure) ((yC hL).bind fun _=>(Vw hL _).bind fun _=>rQ.pure))
theorem arD {block:PM (List XS)}(hb:rQ L block) (n:Nat):rQ L (qM L block n) :=
 Lh.bind fun _=>(AU hL).bind fun _=>rQ.ite ((B0 hL (by decide)).bind fun _=>(yC hL).bind fun _=>(Vw hL _).bind fun _=>rQ.pure)
  ((AU hL).bind fun _=>rQ.ite ((PD hL).bind fun _=>(B0 hL (by decide)).bind fun _=>(yC hL).bind fun _=>(Vz hL).bind fun _=>(yC hL).bind fun _=>rQ.pure)
  ((AU hL).bind fun _=>rQ.ite ((aaX hL n).bind fun _=>hb.bind fun _=>(AU hL).bind fun _=>rQ.ite (hb.bind fun _=>rQ.pure) rQ.pure)
  ((AU hL).bind fun _=>rQ.ite ((B0 hL (by decide)).bind fun _=>(yC hL).bind fun _=>(aaX hL n).bind fun _=>(yC hL).bind fun _=>(B0 hL (by decide)).bind fun _=>hb.bind fun _=>rQ.pure)
  ((AU hL).bind fun _=>rQ.ite ((Vw hL n).bind fun _=>rQ.pure) (ah1 hL _ _)))))
omit hL in
theorem VA {stmt:PM XS}(hs:rQ L stmt):∀(m:Nat) (l:List XS),rQ L (vE L stmt m l)
 | 0,_=>rQ.fail
 | m+1,l=>TQ.bind fun _=>rQ.ite rQ.pure (hs.bind fun _=>VA hs m _)
theorem Pz:∀n,rQ L (rD L n)
 | 0=>rQ.fail
 | n+1=>(Ij hL).bind fun _=>(VA (arD hL (Pz n) n) _ _).bind fun _=>(Ik hL).bind fun _=>rQ.pure
theorem arC:rQ L (wH L) :=
 (yC hL).bind fun _=>(B0 hL (by decide)).bind fun _=>(yC hL).bind fun _=>(aaZ hL (ah2 hL)).bind fun _=>(yC hL).bind fun _=>(AU hL).bind fun _ =>
  rQ.ite ((PD hL).bind fun _=>(RW hL).bind fun _=>(Pz hL _).bind fun _=>rQ.pure) ((Pz hL _).bind fun _=>rQ.pure)
theorem PC:∀(m:Nat) (l:List XF),rQ L (pO L m l)
 | 0,_=>rQ.fail
 | m+1,l=>Lh.bind fun _=>rQ.ite rQ.pure ((arC hL).bind fun _=>PC m _)
end
end
section
open Go Hk
theorem Yh (s:List UInt8):(nM s).2.1≠0→(nM s).1=[]:=by
 unfold nM
 by_cases h0:(oT s).2.1=0
 ·rw [if_pos h0]
  cases pO (oT s).1 131073 [] 0 0 with
  | ok l a d=>intro h; exact absurd rfl h
  | bad e p j d=>intro _; rfl
 ·rw [if_neg h0]; intro _; rfl
end
section
open Go Hk
def QV (far:Int) (q p:Nat):Prop:=far < 0∨(0≤far∧IntKind.i64.wrap ((p:Int)+far)=q)
mutual
def wN (far:Int):XE→XE→Prop
 | .mk k q n nm us,y=>∃p vs,y=.mk k p n nm vs∧QV far q p∧us.length≤1000000∧uT far us vs
def uT (far:Int):List XE→List XE→Prop
 | [],ys=>ys=[]
 | x::r,ys=>∃y s,ys=y::s∧wN far x y∧uT far r s
end
theorem uT.len {far:Int}:∀{xs ys:List XE},uT far xs ys→ys.length=xs.length
 | [],ys,h=>by simp only [uT] at h; subst h; rfl
 | x::r,ys,h=>by
  simp only [uT] at h
  obtain⟨y,s,rfl,_,h2⟩:=h
  simp [h2.len]
theorem uT.get {far:Int}:∀{xs ys:List XE},uT far xs ys→∀(i:Nat) (h:i < xs.length) (h':i < ys.length),wN far xs[i] ys[i]
 | [],ys,h,i,hi,_=>by simp at hi
 | x::r,ys,h,i,hi,hi'=>by
  simp only [uT] at h
  obtain⟨y,s,rfl,h1,h2⟩:=h
  cases i with
  | zero=>exact h1
  | succ i=>exact h2.get i (by simpa using hi) (by simpa using hi')
theorem aEa (far:Int) (xs ys:List XE) (hs:uT far xs ys) (hx:xs.length≤1000000)
  (ih:∀(i k p n:Nat) (nm:List UInt8) (us vs:List XE) (q:Nat),xs[i]?=some (XE.mk k q n nm us)→ys[i]?=some (XE.mk k p n nm vs)→us.length≤1000000→uT far us vs→∀h,KK 156 [.slice (us.map XE.cells) .no,.slice (vs.map XE.cells) .no,.int .i64 far] h=some (.ret (.bool true),h)) :
  ∀(n i:Nat),xs.length < i+n→i≤xs.length →
  mQ (G9 KK 0) ([.slice (xs.map XE.cells) .no,.slice (ys.map XE.cells) .no,.int .i64 far,.bool false,.int .i64 (i:Int)],[]) =
   some (.exit 0,[.slice (xs.map XE.cells) .no,.slice (ys.map XE.cells) .no,.int .i64 far,.bool false,.int .i64 (xs.length:Int)],[]):=by
 have hl:=hs.len
 intro n
 induction n with
 | zero=>intro i h1 h2; omega
 | succ n ihn =>
  intro i h1 h2
  rw [nA]
  by_cases hi:i < xs.length
  ·have hi':i < ys.length:=by omega
   have hg:=hs.get i hi hi'
   have e1:xs[i]?=some xs[i]:=ac1 hi
   have e2:ys[i]?=some ys[i]:=ac1 hi'
   generalize xs[i]=x at hg e1
   generalize ys[i]=y at hg e2
   obtain⟨k,q,m,nm,us⟩:=x
   simp only [wN] at hg
   obtain⟨p,vs,rfl,hp,hul,hv⟩:=hg
   have hc:=ih i k p m nm us vs q e1 e2 hul hv
   have e1':xs[i]=.mk k q m nm us:=by rw [ac1 hi] at e1; exact Option.some.inj e1
   have w1:=vR (a:=i) (by omega)
   have hn:=ihn (i+1) (by omega) hi
   simp only [ag9,ae8] at hn
   rcases hp with hf | ⟨hf,hw⟩
   ·have hf':¬0≤far:=by omega
    simp -implicitDefEqProofs [G9,hi,e1',e2,XE.cells,XE.pM,hc,lA,w1,hf',hn]
   ·simp -implicitDefEqProofs [G9,hi,e1',e2,XE.cells,XE.pM,hc,lA,w1,hf,hw,hn]
  ·obtain rfl:i=xs.length:=by omega
   simp -implicitDefEqProofs [G9,lA]
theorem aDA (far:Int) (N:Nat):∀(xs ys:List XE),SizeOf.sizeOf xs≤N→xs.length≤1000000→uT far xs ys→∀h,KK 156 [.slice (xs.map XE.cells) .no,.slice (ys.map XE.cells) .no,.int .i64 far] h=some (.ret (.bool true),h):=by
 induction N with
 | zero=>intro xs ys hN; cases xs <;> simp at hN
 | succ N ih =>
  intro xs ys hN hx hs h
  refine lK rfl rfl (lJ (ajW _ _ _ _ _) ?_)
  have hl:=hs.len
  have hlp:=aEa far xs ys hs hx (fun i k p n nm us vs q e1 e2 hu hv h=>ih us vs (by
   have:=List.sizeOf_lt_of_mem (am4 e1)
   simp at this
   omega) hu hv h) (xs.length+1) 0 (by omega) (ak5 _)
  simp only [ae8] at hlp
  simp -implicitDefEqProofs [aAa,hl,hlp,kS]
mutual
def BO (far:Int):XS→XS→Prop
 | .mk k q m nm ty us b e has,y=>∃p vs b' e',y=.mk k p m nm ty vs b' e' has∧QV far q p∧us.length≤1000000∧b.length≤1000000∧e.length≤1000000∧uT far us vs∧vL far b b'∧vL far e e'
def vL (far:Int):List XS→List XS→Prop
 | [],ys=>ys=[]
 | x::r,ys=>∃y s,ys=y::s∧BO far x y∧vL far r s
end
theorem vL.len {far:Int}:∀{xs ys:List XS},vL far xs ys→ys.length=xs.length
 | [],ys,h=>by simp only [vL] at h; subst h; rfl
 | x::r,ys,h=>by
  simp only [vL] at h
  obtain⟨y,s,rfl,_,h2⟩:=h
  simp [h2.len]
theorem vL.get {far:Int}:∀{xs ys:List XS},vL far xs ys→∀(i:Nat) (h:i < xs.length) (h':i < ys.length),BO far xs[i] ys[i]
 | [],ys,h,i,hi,_=>by simp at hi
 | x::r,ys,h,i,hi,hi'=>by
  simp only [vL] at h
  obtain⟨y,s,rfl,h1,h2⟩:=h
  cases i with
  | zero=>exact h1
  | succ i=>exact h2.get i (by simpa using hi) (by simpa using hi')
set_option maxRecDepth 8000 in
theorem l79 (far:Int) (xs ys:List XS) (hs:vL far xs ys) (hx:xs.length≤1000000)
  (ih:∀(i:Nat) x,xs[i]?=some x→∀us vs:List XS,SizeOf.sizeOf us < SizeOf.sizeOf x→us.length≤1000000→vL far us vs→∀h,KK 111 [.slice (us.map XS.cells) .no,.slice (vs.map XS.cells) .no,.int .i64 far] h=some (.ret (.bool true),h)) :
  ∀(n i:Nat),xs.length < i+n→i≤xs.length →
  mQ (G8 KK 0) ([.slice (xs.map XS.cells) .no,.slice (ys.map XS.cells) .no,.int .i64 far,.bool false,.int .i64 (i:Int)],[]) =
   some (.exit 0,[.slice (xs.map XS.cells) .no,.slice (ys.map XS.cells) .no,.int .i64 far,.bool false,.int .i64 (xs.length:Int)],[]):=by
 have hl:=hs.len
 intro n
 induction n with
 | zero=>intro i h1 h2; omega
 | succ n ihn =>
  intro i h1 h2
  rw [nA]
  by_cases hi:i < xs.length
  ·have hi':i < ys.length:=by omega
   have hg:=hs.get i hi hi'
   have e1:xs[i]?=some xs[i]:=ac1 hi
   have e2:ys[i]?=some ys[i]:=ac1 hi'
   generalize xs[i]=x at hg e1
   generalize ys[i]=y at hg e2
   obtain⟨k,q,m,nm,ty,us,b,e,has⟩:=x
   simp only [BO] at hg
   obtain⟨p,vs,b',e',rfl,hp,hul,hbl,hel,hv,hb,he⟩:=hg
   have hc:=aDA far _ us vs (ac9 _) hul hv
   have hcb:=ih i _ e1 b b' (by simp; omega) hbl hb
   have hce:=ih i _ e1 e e' (by simp; omega) hel he
   have e1':xs[i]=.mk k q m nm ty us b e has:=by rw [ac1 hi] at e1; exact Option.some.inj e1
   have w1:=vR (a:=i) (by omega)
   have hn:=ihn (i+1) (by omega) hi
   simp only [ag9,ae8] at hn
   rcases hp with hf | ⟨hf,hw⟩
   ·have hf':¬0≤far:=by omega
    simp -implicitDefEqProofs [G8,hi,e1',e2,XS.cells,XS.pM,hc,hcb,hce,lA,w1,hf',hn,tX,rX,Gx]
   ·simp -implicitDefEqProofs [G8,hi,e1',e2,XS.cells,XS.pM,hc,hcb,hce,lA,w1,hf,hw,hn,tX,rX,Gx]
  ·obtain rfl:i=xs.length:=by omega
   simp -implicitDefEqProofs [G8,lA]
theorem aDq (far:Int) (N:Nat):∀(xs ys:List XS),SizeOf.sizeOf xs≤N→xs.length≤1000000→vL far xs ys→∀h,KK 111 [.slice (xs.map XS.cells) .no,.slice (ys.map XS.cells) .no,.int .i64 far] h=some (.ret (.bool true),h):=by
 induction N with
 | zero=>intro xs ys hN; cases xs <;> simp at hN
 | succ N ih =>
  intro xs ys hN hx hs h
  refine lK rfl rfl (lJ (ai4 _ _ _ _ _) ?_)
  have hl:=hs.len
  have hlp:=l79 far xs ys hs hx (fun i x e1 us vs hlt hu hv h=>ih us vs (by
   have:=List.sizeOf_lt_of_mem (am4 e1)
   omega) hu hv h) (xs.length+1) 0 (by omega) (ak5 _)
  simp only [ae8] at hlp
  simp -implicitDefEqProofs [azY,hl,hlp,kS]
end
section
open Go Hk
def agW (far:Int) (x y:XP):Prop:=QV far x.pos y.pos∧x.name=y.name∧x.ty=y.ty∧x.out=y.out
def BN (far:Int):List XP→List XP→Prop
 | [],ys=>ys=[]
 | x::r,ys=>∃y s,ys=y::s∧agW far x y∧BN far r s
structure Fq (far:Int) (f g:XF):Prop where
 pos:QV far f.pos g.pos
 name:f.name=g.name
 has:f.has=g.has
 result:f.result=g.result
 plen:f.params.length≤1000000
 params:BN far f.params g.params
 blen:f.body.length≤1000000
 body:vL far f.body g.body
theorem BN.len {far:Int}:∀{xs ys:List XP},BN far xs ys→ys.length=xs.length
 | [],ys,h=>by simp only [BN] at h; subst h; rfl
 | x::r,ys,h=>by
  simp only [BN] at h
  obtain⟨y,s,rfl,_,h2⟩:=h
  simp [h2.len]
theorem BN.get {far:Int}:∀{xs ys:List XP},BN far xs ys→∀(i:Nat) (h:i < xs.length) (h':i < ys.length),agW far xs[i] ys[i]
 | [],ys,h,i,hi,_=>by simp at hi
 | x::r,ys,h,i,hi,hi'=>by
  simp only [BN] at h
  obtain⟨y,s,rfl,h1,h2⟩:=h
  cases i with
  | zero=>exact h1
  | succ i=>exact h2.get i (by simpa using hi) (by simpa using hi')
def hF2 (f g:XF):kT:=[.cells f.cells,.cells g.cells]
theorem l37 (far:Int) (f g:XF) (hpl:f.params.length≤1000000) (hs:BN far f.params g.params) :
  ∀(n i:Nat),f.params.length < i+n→i≤f.params.length →
  mQ (LF KK 2) ([.int .i64 far,.ptr 0 0,.ptr 1 0,.bool false,.int .i64 (i:Int)],hF2 f g) =
   some (.exit 0,[.int .i64 far,.ptr 0 0,.ptr 1 0,.bool false,.int .i64 (f.params.length:Int)],hF2 f g):=by
 have hl:=hs.len
 obtain⟨fp,fn,fps,fh,fr,fb⟩:=f
 obtain⟨gp,gn,gps,gh,gr,gb⟩:=g
 simp only [] at hpl hs hl
 have htr:mI 2 (hF2 ⟨fp,fn,fps,fh,fr,fb⟩ ⟨gp,gn,gps,gh,gr,gb⟩)=some (hF2 ⟨fp,fn,fps,fh,fr,fb⟩ ⟨gp,gn,gps,gh,gr,gb⟩):=by simp [hF2,mI,XF.cells]
 have htr2:∀cs ds,mI 2 (hF2 ⟨fp,fn,fps,fh,fr,fb⟩ ⟨gp,gn,gps,gh,gr,gb⟩++[.cells cs,.cells ds])=some (hF2 ⟨fp,fn,fps,fh,fr,fb⟩ ⟨gp,gn,gps,gh,gr,gb⟩):=by intro cs ds; simp [hF2,mI,XF.cells]
 have hsp:∀h,kP.m_ 2 h (.ptr 0 0)=.ptr 0 0:=fun h=>lN (by omega)
 have hsp1:∀h,kP.m_ 2 h (.ptr 1 0)=.ptr 1 0:=fun h=>lN (by omega)
 simp only [hF2,XF.cells,af5,an4] at htr htr2 ⊢
 intro n
 induction n with
 | zero=>intro i h1 h2; have h1:fps.length < i+0:=h1; omega
 | succ n ihn =>
  intro i h1 h2
  have h1:fps.length < i+(n+1):=h1
  have h2:i≤fps.length:=h2
  rw [nA]
  by_cases hi:i < fps.length
  ·have hi':i < gps.length:=by omega
   obtain⟨g1,g2,g3,g4⟩:=hs.get i hi hi'
   have e1':∃x,fps[i]=x:=⟨_,rfl⟩
   have e2:gps[i]?=some gps[i]:=ac1 hi'
   generalize gps[i]=y at g1 g2 g3 g4 e2
   obtain⟨⟨xp,xn,xt,xo⟩,e1'⟩:=e1'
   rw [e1'] at g1 g2 g3 g4
   obtain⟨yp,yn,yt,yo⟩:=y
   simp only [] at g1 g2 g3 g4
   subst g2 g3 g4
   have w1:=vR (a:=i) (by omega)
   have hn:=ihn (i+1) (by show fps.length < _; omega) hi
   simp only [ag9,ae8] at hn
   rcases g1 with hf | ⟨hf,hw⟩
   ·have hf':¬0≤far:=by omega
    simp -implicitDefEqProofs [LF,hi,e1',e2,XP.cells,lA,w1,hf',hn,tX,rX,Gx,htr2,hsp,hsp1,hn,H0,Bg]
   ·simp -implicitDefEqProofs [LF,hi,e1',e2,XP.cells,lA,w1,hf,hw,hn,tX,rX,Gx,htr2,hsp,hsp1,hn,H0,Bg]
  ·obtain rfl:i=fps.length:=by omega
   simp -implicitDefEqProofs [LF,lA,htr,hsp,hsp1]
theorem c53 (far:Int) (f g:XF) (hs:Fq far f g) (h:kT):KK 53 [.agg f.cells,.agg g.cells,.int .i64 far] h=some (.ret (.bool true),h):=by
 refine lK rfl rfl (lJ (as4 _ _ _ _ _) ?_)
 obtain⟨fp,fn,fps,fh,fr,fb⟩:=f
 obtain⟨gp,gn,gps,gh,gr,gb⟩:=g
 obtain⟨hpos,hname,hhas,hres,hpl,hps,hbl,hb⟩:=hs
 simp only [] at hpos hname hhas hres hpl hps hbl hb
 subst hname hhas hres
 have hl:=hps.len
 have hlp:=l37 far ⟨fp,fn,fps,fh,fr,fb⟩ ⟨gp,fn,gps,fh,fr,gb⟩ hpl hps (fps.length+1) 0 (by show fps.length < _; omega) (ak5 _)
 simp only [hF2,XF.cells,ae8] at hlp
 have hc:=aDq far _ fb gb (ac9 _) hbl hb
 rcases hpos with hf | ⟨hf,hw⟩
 ·have hf':¬0≤far:=by omega
  simp -implicitDefEqProofs [m53,XF.cells,hf',tX,rX,Gx,hl,hc,hlp,kS]
 ·simp -implicitDefEqProofs [m53,XF.cells,hf,hw,tX,rX,Gx,hl,hc,hlp,kS]
end
section
open Go Hk
def Bd {α:Type}(R:α→α→Prop):List α→List α→Prop
 | [],ys=>ys=[]
 | x::r,ys=>∃y s,ys=y::s∧R x y∧Bd R r s
theorem Bd.snoc {α:Type}{R:α→α→Prop}:∀{xs ys:List α}{x y:α},Bd R xs ys→R x y→Bd R (xs++[x]) (ys++[y])
 | [],ys,x,y,h,hr=>by
  have h:ys=[]:=h
  subst h
  exact⟨y,[],rfl,hr,rfl⟩
 | a::r,ys,x,y,h,hr=>by
  obtain⟨b,s,rfl,h1,h2⟩:=h
  exact⟨b,s++[y],rfl,h1,h2.snoc hr⟩
theorem Bd.app {α:Type}{R:α→α→Prop}:∀{xs ys us vs:List α},Bd R xs ys→Bd R us vs→Bd R (xs++us) (ys++vs)
 | [],ys,us,vs,h,hr=>by
  have h:ys=[]:=h
  subst h
  exact hr
 | a::r,ys,us,vs,h,hr=>by
  obtain⟨b,s,rfl,h1,h2⟩:=h
  exact⟨b,s++vs,rfl,h1,h2.app hr⟩
theorem Bd.Hy {far:Int}:∀{xs ys:List XE},Bd (wN far) xs ys→uT far xs ys
 | [],_,h=>by simp only [uT]; exact h
 | _::_,_,h=>by
  obtain⟨y,s,rfl,h1,h2⟩:=h
  simp only [uT]
  exact⟨y,s,rfl,h1,h2.Hy⟩
theorem Bd.Mr {far:Int}:∀{xs ys:List XS},Bd (BO far) xs ys→vL far xs ys
 | [],_,h=>by simp only [vL]; exact h
 | _::_,_,h=>by
  obtain⟨y,s,rfl,h1,h2⟩:=h
  simp only [vL]
  exact⟨y,s,rfl,h1,h2.Mr⟩
theorem Bd.aeC {far:Int}:∀{xs ys:List XP},Bd (agW far) xs ys→BN far xs ys
 | [],_,h=>h
 | _::_,_,h=>by
  obtain⟨y,s,rfl,h1,h2⟩:=h
  exact⟨y,s,rfl,h1,h2.aeC⟩
def HK {α:Type}(R:α→α→Prop) (n:Nat) (xs ys:List α):Prop:=Bd R xs ys∧xs.length≤n
section
variable (L L':List Token) (k far:Nat) {α β:Type}
def IY (R:α→α→Prop) (x' x:PM α) (a:Nat):Prop:=∀d v a' d',x a d=.ok v a' d'→a' < L.length∧∃v',x' (k+a) d=.ok v' (k+a') d'∧R v' v
def rN (R:α→α→Prop) (x' x:PM α):Prop:=∀a,a < L.length→IY L k R x' x a
end
section
variable {L L':List Token}{k far:Nat}{α β:Type}
theorem rN.bind {R:α→α→Prop}{S:β→β→Prop}{x' x:PM α}{f' f:α→PM β}(hx:rN L k R x' x) (hf:∀v' v,R v' v→rN L k S (f' v') (f v)):rN L k S (x' >>= f') (x >>= f):=by
 intro a ha d v a' d' h
 simp only [mO,PM.bind] at h ⊢
 cases h1:x a d with
 | ok v1 a1 d1 =>
  rw [h1] at h
  obtain⟨h2,v1',h3,h4⟩:=hx a ha d v1 a1 d1 h1
  obtain⟨h5,v',h6,h7⟩:=hf v1' v1 h4 a1 h2 d1 v a' d' h
  refine⟨h5,v',?_,h7⟩
  rw [h3]; exact h6
 | bad e p a1 d1=>rw [h1] at h; cases h
theorem rN.pure {R:α→α→Prop}{v' v:α}(h:R v' v):rN L k R (Pure.pure v':PM α) (Pure.pure v):=fun a ha d w a' d' he=>by
 cases he; exact⟨ha,v',rfl,h⟩
theorem rN.fail {R:α→α→Prop}{x':PM α}{e:Nat}:rN L k R x' (xY L e):=fun a ha d w a' d' he=>by cases he
theorem rN.ite {R:α→α→Prop}{c:Prop} [Decidable c] {x' y' x y:PM α}(hx:rN L k R x' x) (hy:rN L k R y' y):rN L k R (if c then x' else y') (if c then x else y):=by
 split
 ·exact hx
 ·exact hy
theorem IY.ite {R:α→α→Prop}{c:Prop} [Decidable c] {x' y' x y:PM α}{a:Nat}(hx:c→IY L k R x' x a) (hy:¬c→IY L k R y' y a):IY L k R (if c then x' else y') (if c then x else y) a:=by
 split
 ·rename_i h; exact hx h
 ·rename_i h; exact hy h
theorem rN.mono {R S:α→α→Prop}{x' x:PM α}(h:rN L k R x' x) (hr:∀v' v,R v' v→S v' v):rN L k S x' x:=fun a ha d v a' d' he=>by
 obtain⟨h1,v',h2,h3⟩:=h a ha d v a' d' he
 exact⟨h1,v',h2,hr _ _ h3⟩
structure Far (L L':List Token) (k far:Nat):Prop where
 ok:rE L
 tk:∀i,i < L.length→tk L' (k+i)=xS far (tk L i)
 pos:∀i,i < L.length→(Go.Proofs.YtlddmnojanpdoaaGreatDoor.tk L i).pos≤100000
 far:far≤100000
def Zi (far:Nat) (t' t:Token):Prop:=t'=xS far t∧t.pos≤100000
variable (hF:Far L L' k far)
include hF
theorem yK {p:Nat}(hp:p≤100000):QV far (p+far) p:=.inr ⟨by omega,by have:=hF.far; rw [wrap64] <;> omega⟩
theorem ad3 {a:Nat}(ha:a < L.length):Zi far (tk L' (k+a)) (tk L a):=⟨hF.tk a ha,hF.pos a ha⟩
theorem Mk:rN L k (Zi far) (o7 L') (o7 L):=fun a ha d v a' d' he=>by
 cases he; exact⟨ha,_,rfl,ad3 hF ha⟩
theorem IY.here {R:β→β→Prop}{f' f:Token→PM β}{a:Nat}(ha:a < L.length) (h:Zi far (tk L' (k+a)) (tk L a)→IY L k R (f' (tk L' (k+a))) (f (tk L a)) a):IY L k R (o7 L' >>= f') (o7 L >>= f) a:=fun d=>h (ad3 hF ha) d
omit hF in
theorem IY.next {R:β→β→Prop}{f' f:Unit→PM β}{a:Nat}(ha:a+1 < L.length) (h:rN L k R (f' ()) (f ())):IY L k R (w_ >>= f') (w_ >>= f) a:=fun d=>by
 have:=h (a+1) ha d
 exact this
theorem Hr {a:Nat}(ha:a < L.length) {w:List UInt8}:isS (tk L' (k+a)) w=isS (tk L a) w:=by rw [hF.tk a ha]; rfl
theorem Us {w:List UInt8}:rN L k Eq (EF L' w) (EF L w):=fun a ha d v a' d' he=>by
 cases he; exact⟨ha,_,rfl,Hr hF ha⟩
omit hF in
theorem aE2:rN L k Eq pUp pUp:=fun a ha d v a' d' he=>by cases he; exact⟨ha,_,rfl,rfl⟩
theorem AZ {w:List UInt8}:rN L k Eq (o9 L' w) (o9 L w):=fun a ha d v a' d' he=>by
 simp only [o9] at he ⊢
 rw [Hr hF ha]
 cases h:isS (tk L a) w
 ·rw [h] at he; cases he; exact⟨ha,_,rfl,rfl⟩
 ·rw [h] at he; cases he; exact⟨mS hF.ok ha h,_,rfl,rfl⟩
theorem yG {w:List UInt8}:rN L k Eq (oQ L' w) (oQ L w):=fun a ha d v a' d' he=>by
 simp only [oQ] at he ⊢
 rw [Hr hF ha]
 cases h:isS (tk L a) w
 ·rw [h] at he; cases he
 ·rw [h] at he; cases he; exact⟨mS hF.ok ha h,_,rfl,trivial⟩
theorem IH {w:List UInt8}:rN L k Eq (tT L' w) (tT L w):=fun a ha d v a' d' he=>by
 simp only [tT] at he ⊢
 rw [Hr hF ha]
 cases h:isS (tk L a) w
 ·rw [h] at he; cases he
 ·rw [h] at he; cases he; exact⟨mS hF.ok ha h,_,rfl,trivial⟩
theorem IG {w:List UInt8}:rN L k Eq (tS L' w) (tS L w):=fun a ha d v a' d' he=>by
 simp only [tS] at he ⊢
 rw [Hr hF ha]
 cases h:isS (tk L a) w
 ·rw [h] at he; cases he
 ·rw [h] at he
  by_cases h1:d=64
  ·simp only [h1,if_true] at he; cases he
  ·simp only [h1,if_true,if_false] at he ⊢
   cases he; exact⟨mS hF.ok ha h,_,rfl,trivial⟩
theorem B9 {n:Nat}(hn:n≠0):rN L k (Zi far) (qO L' n) (qO L n):=fun a ha d v a' d' he=>by
 simp only [qO] at he ⊢
 have h1:=hF.tk a ha
 have h2:(tk L' (k+a)).kind=(tk L a).kind:=by rw [h1]; rfl
 rw [h2]
 by_cases h:(tk L a).kind=n
 ·rw [if_pos h] at he ⊢; cases he; exact⟨qF hF.ok ha hn h,_,rfl,ad3 hF ha⟩
 ·rw [if_neg h] at he; cases he
theorem Qp:rN L k Eq (rO L') (rO L):=fun a ha d v a' d' he=>by
 simp only [rO] at he ⊢
 rw [Hr hF ha,Hr hF ha]
 cases h:isS (tk L a) II
 ·rw [h] at he
  cases h1:isS (tk L a) Nw
  ·rw [h1] at he; cases he
  ·rw [h1] at he; cases he; exact⟨mS hF.ok ha h1,_,rfl,rfl⟩
 ·rw [h] at he; cases he; exact⟨mS hF.ok ha h,_,rfl,rfl⟩
theorem SC {l:Nat}:rN L k Eq (pR L' l) (pR L l):=fun a ha d v a' d' he=>by
 simp only [pR] at he ⊢
 rw [Hr hF ha,Hr hF ha]
 cases h:isS (tk L a) zK
 ·rw [h] at he
  cases h1:isS (tk L a) IS
  ·rw [h1] at he; cases he
  ·rw [h1] at he; cases he; exact⟨mS hF.ok ha h1,_,rfl,rfl⟩
 ·rw [h] at he; cases he; exact⟨mS hF.ok ha h,_,rfl,rfl⟩
theorem ad1:rN L k Eq (xZ L') (xZ L) :=
 (yG hF).bind fun _ _ _=>(Mk hF).bind fun t' t ht=>by
  obtain⟨rfl,hp⟩:=ht
  exact rN.ite (c:=t.kind=2∧t.num=0) rN.fail ((B9 hF (by decide)).bind fun t' t ht=>by
   obtain⟨rfl,hp⟩:=ht
   exact(yG hF).bind fun _ _ _=>rN.pure rfl)
theorem Wc {l:Nat}:rN L k Eq (uL L' l) (uL L l) :=
 (AZ hF).bind fun _ b hb=>by
  subst hb
  exact rN.ite ((ad1 hF).bind fun _ n hn=>by subst hn; exact rN.pure rfl) ((SC hF).bind fun _ t ht=>by
   subst ht
   exact rN.ite ((Us hF).bind fun _ b hb=>by
    subst hb
    exact rN.ite ((ad1 hF).bind fun _ n hn=>by subst hn; exact rN.pure rfl) (rN.pure rfl)) (rN.pure rfl))
theorem alF:rN L k (agW far) (sM L') (sM L) :=
 (AZ hF).bind fun _ out hb=>by
  subst hb
  exact(Qp hF).bind fun _ l hl=>by
   subst hl
   exact(B9 hF (by decide)).bind fun _ name hn=>by
    obtain⟨rfl,hp⟩:=hn
    exact(yG hF).bind fun _ _ _=>(Wc hF).bind fun _ ty ht=>by
     subst ht
     exact rN.pure ⟨yK hF hp,rfl,rfl,rfl⟩
theorem ad2 {R:α→α→Prop}{one' one:PM α}(h:rN L k R one' one):∀(n m:Nat) (l' l:List α),HK R m l' l→rN L k (HK R (m+n)) (vD L' one' n l') (vD L one n l)
 | 0,_,_,_,_=>rN.fail
 | n+1,m,l',l,hl=>h.bind fun x' x hx=>(AZ hF).bind fun _ b hb=>by
  subst hb
  have hl2:HK R (m+1) (l'++[x']) (l++[x]):=⟨hl.1.snoc hx,by have:=hl.2; simp; omega⟩
  exact rN.ite ((ad2 h n _ _ _ hl2).mono fun v' v hv=>⟨hv.1,by have:=hv.2; omega⟩) (rN.pure ⟨hl2.1,by have:=hl2.2; omega⟩)
theorem ad0 {R:α→α→Prop}{one' one:PM α}{w:List UInt8}(h:rN L k R one' one):rN L k (HK R 1000000) (vW L' w one') (vW L w one) :=
 (Us hF).bind fun _ b hb=>by
  subst hb
  exact rN.ite (rN.pure ⟨rfl,by simp⟩) ((ad2 hF h 131073 0 [] [] ⟨rfl,by simp⟩).mono fun v' v hv=>⟨hv.1,by have:=hv.2; omega⟩)
section
variable {ex' ex un' un:PM XE}(he:rN L k (wN far) ex' ex) (hu:rN L k (wN far) un' un)
include he
theorem Wb:rN L k (HK (wN far) 1) (tF L' ex') (tF L ex) :=
 (IG hF).bind fun _ _ _=>he.bind fun x' x hx=>(IH hF).bind fun _ _ _=>rN.pure ⟨⟨x,[],rfl,hx,rfl⟩,by simp⟩
theorem adX {t' t:Token}(ht:Zi far t' t):rN L k (wN far) (xX L' ex' t') (xX L ex t) :=
 (IG hF).bind fun _ _ _=>(ad0 hF he).bind fun l' l hl=>(IH hF).bind fun _ _ _=>by
  obtain⟨rfl,hp⟩:=ht
  exact rN.pure (by simp only [wN]; exact⟨_,_,rfl,yK hF hp,hl.2,hl.1.Hy⟩)
theorem adW:∀(n m:Nat) (b:Bool) (l' l:List XE),HK (wN far) m l' l→rN L k (HK (wN far) (m+n)) (rT L' ex' n b l') (rT L ex n b l)
 | 0,_,_,_,_,hl=>rN.pure hl
 | n+1,m,b,l',l,hl=>by
  have h1:∀_ _:Unit,rN L k (HK (wN far) (m+(n+1))) (do let x ←ex'; rT L' ex' n false (l'++[x]):PM (List XE)) (do let x ←ex; rT L ex n false (l++[x]):PM (List XE)):=fun _ _=>he.bind fun x' x hx =>
   (adW n (m+1) false (l'++[x']) (l++[x]) ⟨hl.1.snoc hx,by have:=hl.2; simp; omega⟩).mono fun v' v hv=>⟨hv.1,by have:=hv.2; omega⟩
  cases b
  ·exact(yG hF).bind fun u v _=>h1 u v
  ·exact rN.bind (x':=(Pure.pure PUnit.unit:PM PUnit)) (x:=(Pure.pure PUnit.unit:PM PUnit)) (R:=fun _ _=>True) (rN.pure trivial) fun u v _=>h1 u v
theorem Ml {kind many a:Nat}{number:Bool}(hm:many≤3) (h0:a < L.length) (ha:a+1 < L.length):IY L k (wN far) (uX L' ex' kind many number) (uX L ex kind many number) a :=
 IY.here hF h0 fun ht=>IY.next ha ((IG hF).bind fun _ _ _=>(adW hF he _ 0 _ [] [] ⟨rfl,by simp⟩).bind fun l' l hl=>by
  have hp:=ht.2
  have e:(tk L' (k+a)).pos=(tk L a).pos+far:=by rw [ht.1]; rfl
  exact rN.ite ((yG hF).bind fun _ _ _=>(B9 hF (by decide)).bind fun n' n hn=>(IH hF).bind fun _ _ _=>by
    obtain⟨rfl,_⟩:=hn
    exact rN.pure (by simp only [wN]; rw [e]; exact⟨_,_,rfl,yK hF hp,by have:=hl.2; omega,hl.1.Hy⟩))
   ((IH hF).bind fun _ _ _=>rN.pure (by simp only [wN]; rw [e]; exact⟨_,_,rfl,yK hF hp,by have:=hl.2; omega,hl.1.Hy⟩)))
end
section
variable {ex' ex un' un:PM XE}(he:rN L k (wN far) ex' ex) (hu:rN L k (wN far) un' un)
include he
theorem Ys:rN L k (wN far) (oA L' ex') (oA L ex):=fun a ha=>IY.here hF ha fun ht=>by
 have e:(tk L' (k+a))=xS far (tk L a):=ht.1
 have hp:=ht.2
 have hl:=hF.ok
 simp only [e]
 exact IY.ite (fun h=>IY.next (qF (k:=2) hl ha (by decide) h) (rN.pure (by simp only [wN,uT]; exact⟨_,_,rfl,yK hF hp,by simp,rfl⟩))) fun _ =>
  IY.ite (fun _=>((IG hF).bind fun _ _ _=>he.bind fun _ _ hx=>(IH hF).bind fun _ _ _=>rN.pure hx) a ha) fun _ =>
  IY.ite (fun h=>Ml hF he (by omega) ha (mS hl ha h)) fun _=>IY.ite (fun h=>Ml hF he (by omega) ha (mS hl ha h)) fun _=>IY.ite (fun h=>Ml hF he (by omega) ha (mS hl ha h)) fun _ =>
  IY.ite (fun h=>Ml hF he (by omega) ha (mS hl ha h)) fun _=>IY.ite (fun h=>Ml hF he (by omega) ha (mS hl ha h)) fun _ =>
  ((B9 hF (by decide)).bind fun _ _ _=>(Us hF).bind fun _ b hb=>by
   subst hb
   exact rN.ite (adX hF he ⟨rfl,hp⟩) ((Us hF).bind fun _ b hb=>by
    subst hb
    exact rN.ite ((Wb hF he).bind fun l' l hl=>rN.pure (by simp only [wN]; exact⟨_,_,rfl,yK hF hp,by have:=hl.2; omega,hl.1.Hy⟩))
     (rN.pure (by simp only [wN,uT]; exact⟨_,_,rfl,yK hF hp,by simp,rfl⟩)))) a ha
include hu
theorem alG:rN L k (wN far) (uY L' ex' un') (uY L ex un):=by
 have hs:∀kind,rN L k (wN far) (Ag L' un' kind) (Ag L un kind):=fun kind=>(Mk hF).bind fun _ t ht=>by
  obtain⟨rfl,hp⟩:=ht
  exact(IG hF (w:=t.text)).bind fun _ _ _=>hu.bind fun x' x hx=>aE2.bind fun _ _ _=>rN.pure (by simp only [wN,uT]; exact⟨_,_,rfl,yK hF hp,by simp,x,[],rfl,hx,rfl⟩)
 exact(Mk hF).bind fun _ t ht=>by
  obtain⟨rfl,hp⟩:=ht
  exact rN.ite (hs _) (rN.ite (hs _) (rN.ite (hs _) (Ys hF he)))
end
theorem Ut {next' next:PM XE}(hn:rN L k (wN far) next' next) (j:Nat):∀(n:Nat) (x' x:XE),wN far x' x→rN L k (wN far) (q7 L' next' j n x') (q7 L next j n x)
 | 0,_,_,_=>rN.fail
 | n+1,x',x,hx=>fun a ha=>IY.here hF ha fun ht=>by
  have e:(tk L' (k+a))=xS far (tk L a):=ht.1
  have hp:=ht.2
  have e2:oK (xS far (tk L a)) j=oK (tk L a) j:=rfl
  simp only [e]
  rw [e2]
  cases hs:oK (tk L a) j with
  | none=>exact rN.pure hx a ha
  | some kind=>exact IY.next (qF (k:=4) hF.ok ha (by decide) (sL hs)) (rN.ite ((B9 hF (by decide)).bind fun _ c hc=>by
    obtain⟨rfl,_⟩:=hc
    exact Ut hn j n _ _ (by simp only [wN,uT]; exact⟨_,_,rfl,yK hF hp,by simp,x,[],rfl,hx,rfl⟩))
    (hn.bind fun y' y hy=>Ut hn j n _ _ (by simp only [wN,uT]; exact⟨_,_,rfl,yK hF hp,by simp,x,[y],rfl,hx,y,[],rfl,hy,rfl⟩)))
theorem J6 {un' un:PM XE}(hu:rN L k (wN far) un' un):∀j,rN L k (wN far) (nR L' un' j) (nR L un j)
 | 0=>hu
 | j+1=>(J6 hu j).bind fun _ _ hx=>Ut hF (J6 hu j) _ _ _ _ hx
theorem adZ {un' un:PM XE}(hu:rN L k (wN far) un' un):rN L k (wN far) (vQ L' un') (vQ L un) :=
 (J6 hF hu 6).bind fun x' x hx=>fun a ha=>IY.here hF ha fun ht=>by
  have e:(tk L' (k+a))=xS far (tk L a):=ht.1
  have hp:=ht.2
  have e2:oK (xS far (tk L a)) 0=oK (tk L a) 0:=rfl
  simp only [e]
  rw [e2]
  cases hs:oK (tk L a) 0 with
  | none=>exact rN.pure hx a ha
  | some kind=>exact IY.next (qF (k:=4) hF.ok ha (by decide) (sL hs)) ((J6 hF hu 6).bind fun y' y hy=>rN.pure (by
    simp only [wN,uT]; exact⟨_,_,rfl,yK hF hp,by simp,x,[y],rfl,hx,y,[],rfl,hy,rfl⟩))
theorem avB:∀n,rN L k (wN far) (Aq L' n) (Aq L n)
 | 0=>rN.fail
 | n+1=>alG hF (adZ hF (avB n)) (avB n)
theorem adY (n:Nat):rN L k (wN far) (AE L' n) (AE L n):=adZ hF (avB hF n)
theorem Wa (n:Nat):rN L k (HK (wN far) 1) (y9 L' n) (y9 L n):=(adY hF n).bind fun _ x hx=>(yG hF).bind fun _ _ _=>rN.pure ⟨⟨x,[],rfl,hx,rfl⟩,by simp⟩
end
end
section
open Go Hk
section
variable {L L':List Token}{k far:Nat}(hF:Far L L' k far)
include hF
theorem alE (n:Nat) {pos:Nat}(hp:pos≤100000):rN L k (BO far) (pG L' n (pos+far)) (pG L n pos) :=
 (B9 hF (by decide)).bind fun _ name hn=>by
  obtain⟨rfl,hnp⟩:=hn
  exact(Us hF).bind fun _ b hb=>by
   subst hb
   exact rN.ite ((adX hF (adY hF _) ⟨rfl,hnp⟩).bind fun c' c hc=>(yG hF).bind fun _ _ _=>rN.pure (by
     simp only [BO,uT,vL]; exact⟨_,_,_,_,rfl,yK hF hp,by simp,by simp,by simp,⟨c,[],rfl,hc,rfl⟩,rfl,rfl⟩))
    ((Us hF).bind fun _ b hb=>by
     subst hb
     exact rN.ite ((Wb hF (adY hF _)).bind fun i' i hi=>(yG hF).bind fun _ _ _=>(Wa hF n).bind fun l' l hl=>by
       exact rN.pure (by
        simp only [BO,vL]
        exact⟨_,_,_,_,rfl,yK hF hp,by have h1:=hl.2; have h2:=hi.2; simp; omega,by simp,by simp,(hi.1.app hl.1).Hy,rfl,rfl⟩))
      ((yG hF).bind fun _ _ _=>(Wa hF n).bind fun l' l hl=>rN.pure (by
       simp only [BO,vL]; exact⟨_,_,_,_,rfl,yK hF hp,by have:=hl.2; omega,by simp,by simp,hl.1.Hy,rfl,rfl⟩)))
theorem avA {block' block:PM (List XS)}(hb:rN L k (HK (BO far) 1000000) block' block) (n:Nat):rN L k (BO far) (qM L' block' n) (qM L block n) :=
 (Mk hF).bind fun _ t ht=>by
  obtain⟨rfl,hp⟩:=ht
  exact(AZ hF).bind fun _ b hb1=>by
   subst hb1
   exact rN.ite ((B9 hF (by decide)).bind fun _ name hn=>by
    obtain⟨rfl,_⟩:=hn
    exact(yG hF).bind fun _ _ _=>(Wa hF n).bind fun l' l hl=>rN.pure (by
     simp only [BO,vL]; exact⟨_,_,_,_,rfl,yK hF hp,by have:=hl.2; omega,by simp,by simp,hl.1.Hy,rfl,rfl⟩))
    ((AZ hF).bind fun _ b hb1=>by
    subst hb1
    exact rN.ite ((Qp hF).bind fun _ lab hlab=>by
     subst hlab
     exact(B9 hF (by decide)).bind fun _ name hn=>by
      obtain⟨rfl,_⟩:=hn
      exact(yG hF).bind fun _ _ _=>(Wc hF).bind fun _ ty hty=>by
       subst hty
       exact(yG hF).bind fun _ _ _=>rN.pure (by
        simp only [BO,uT,vL]; exact⟨_,_,_,_,rfl,yK hF hp,by simp,by simp,by simp,rfl,rfl,rfl⟩))
     ((AZ hF).bind fun _ b hb1=>by
     subst hb1
     exact rN.ite ((adY hF n).bind fun x' x hx=>hb.bind fun b' b hbb=>(AZ hF).bind fun _ b1 hb1=>by
      subst hb1
      exact rN.ite (hb.bind fun e' e hee=>rN.pure (by
        simp only [BO,uT]; exact⟨_,_,_,_,rfl,yK hF hp,by simp,hbb.2,hee.2,⟨x,[],rfl,hx,rfl⟩,hbb.1.Mr,hee.1.Mr⟩))
       (rN.pure (by
        simp only [BO,uT,vL]; exact⟨_,_,_,_,rfl,yK hF hp,by simp,hbb.2,by simp,⟨x,[],rfl,hx,rfl⟩,hbb.1.Mr,rfl⟩)))
      ((AZ hF).bind fun _ b hb1=>by
      subst hb1
      exact rN.ite ((B9 hF (by decide)).bind fun _ name hn=>by
       obtain⟨rfl,_⟩:=hn
       exact(yG hF).bind fun _ _ _=>(adY hF n).bind fun x' x hx=>(yG hF).bind fun _ _ _=>(B9 hF (by decide)).bind fun _ m hm=>by
        obtain⟨rfl,_⟩:=hm
        exact hb.bind fun b' b hbb=>rN.pure (by
         simp only [BO,uT,vL]; exact⟨_,_,_,_,rfl,yK hF hp,by simp,hbb.2,by simp,⟨x,[],rfl,hx,rfl⟩,hbb.1.Mr,rfl⟩))
       ((AZ hF).bind fun _ b hb1=>by
       subst hb1
       exact rN.ite ((Wa hF n).bind fun l' l hl=>rN.pure (by
         simp only [BO,vL]; exact⟨_,_,_,_,rfl,yK hF hp,by have:=hl.2; omega,by simp,by simp,hl.1.Hy,rfl,rfl⟩))
        (alE hF n hp)))))
theorem Wd {stmt' stmt:PM XS}(hs:rN L k (BO far) stmt' stmt):∀(n m:Nat) (l' l:List XS),HK (BO far) m l' l→rN L k (HK (BO far) (m+n)) (vE L' stmt' n l') (vE L stmt n l)
 | 0,_,_,_,_=>rN.fail
 | n+1,m,l',l,hl=>(Us hF).bind fun _ b hb=>by
  subst hb
  exact rN.ite (rN.pure ⟨hl.1,by have:=hl.2; omega⟩) (hs.bind fun x' x hx =>
   (Wd hs n (m+1) (l'++[x']) (l++[x]) ⟨hl.1.snoc hx,by have:=hl.2; simp; omega⟩).mono fun v' v hv=>⟨hv.1,by have:=hv.2; omega⟩)
theorem Qo:∀n,rN L k (HK (BO far) 1000000) (rD L' n) (rD L n)
 | 0=>rN.fail
 | n+1=>(IG hF).bind fun _ _ _=>(Wd hF (avA hF (Qo n) n) 131073 0 [] [] ⟨rfl,by simp⟩).bind fun l' l hl=>(IH hF).bind fun _ _ _=>rN.pure ⟨hl.1,by have:=hl.2; omega⟩
theorem au9:rN L k (Fq far) (wH L') (wH L) :=
 (yG hF).bind fun _ _ _=>(B9 hF (by decide)).bind fun _ name hn=>by
  obtain⟨rfl,hp⟩:=hn
  exact(yG hF).bind fun _ _ _=>(ad0 hF (alF hF)).bind fun ps' ps hps=>(yG hF).bind fun _ _ _=>(AZ hF).bind fun _ b hb=>by
   subst hb
   exact rN.ite ((Qp hF).bind fun _ l hl=>by
     subst hl
     exact(SC hF).bind fun _ ty hty=>by
      subst hty
      exact(Qo hF 65).bind fun b' b hb=>rN.pure ⟨yK hF hp,rfl,rfl,rfl,hps.2,hps.1.aeC,hb.2,hb.1.Mr⟩)
    ((Qo hF 65).bind fun b' b hb=>rN.pure ⟨yK hF hp,rfl,rfl,rfl,hps.2,hps.1.aeC,hb.2,hb.1.Mr⟩)
end
end
section
open Go Hk
structure Av {α:Type}(x:List Token→PM α):Prop where
 run:∀L L' a d v a' d',x L a d=.ok v a' d'→(∀i,i < a'→tk L' i=tk L i)→x L' a d=.ok v a' d'
 lt:∀L a d v a' d',x L a d=.ok v a' d'→a < a'
theorem Av.bind {α β:Type}{x:List Token→PM α}{f:List Token→α→PM β}(hx:Loc x) (hf:∀v,Av fun L=>f L v):Av fun L=>x L >>= f L where
 run:=fun L L' a d v a' d' h ht=>by
  have h2:=hx.loc L L' a d
  simp only [mO,PM.bind] at h ⊢
  cases h1:x L a d with
  | ok v1 a1 d1 =>
   rw [h1] at h h2
   have h3:=(hf v1).lt _ _ _ _ _ _ h
   rw [h2 fun i hi=>ht i (Nat.lt_of_le_of_lt hi h3)]
   exact(hf v1).run _ _ _ _ _ _ _ h ht
  | bad e p a1 d1=>rw [h1] at h; cases h
 lt:=fun L a d v a' d' h=>by
  have h2:=hx.mono L a d
  simp only [mO,PM.bind] at h
  cases h1:x L a d with
  | ok v1 a1 d1 =>
   rw [h1] at h h2
   exact Nat.lt_of_le_of_lt h2 ((hf v1).lt _ _ _ _ _ _ h)
  | bad e p a1 d1=>rw [h1] at h; cases h
theorem Av.map {α β:Type}{x:List Token→PM α}{f:α→β}(hx:Av x):Av fun L=>x L >>= fun v=>(Pure.pure (f v):PM β) where
 run:=fun L L' a d v a' d' h ht=>by
  simp only [mO,PM.bind] at h ⊢
  cases h1:x L a d with
  | ok v1 a1 d1 =>
   rw [h1] at h
   cases h
   rw [hx.run _ _ _ _ _ _ _ h1 ht]; rfl
  | bad e p a1 d1=>rw [h1] at h; cases h
 lt:=fun L a d v a' d' h=>by
  simp only [mO,PM.bind] at h
  cases h1:x L a d with
  | ok v1 a1 d1 =>
   rw [h1] at h
   cases h
   exact hx.lt _ _ _ _ _ _ h1
  | bad e p a1 d1=>rw [h1] at h; cases h
theorem Av.ite {α:Type}{c:Prop} [Decidable c] {x y:List Token→PM α}(hx:Av x) (hy:Av y):Av fun L=>if c then x L else y L:=by
 by_cases h:c
 ·simp only [h,if_true]; exact hx
 ·simp only [h,if_false]; exact hy
theorem aiQ {w:List UInt8}:Av fun L=>tT L w where
 run:=fun L L' a d v a' d' h ht=>by
  simp only [tT] at h ⊢
  cases h1:isS (tk L a) w
  ·rw [h1] at h; cases h
  ·rw [h1] at h; cases h
   rw [ht a (Nat.lt_succ_self a),h1]; rfl
 lt:=fun L a d v a' d' h=>by
  simp only [tT] at h
  cases h1:isS (tk L a) w
  ·rw [h1] at h; cases h
  ·rw [h1] at h; cases h; exact Nat.lt_succ_self a
theorem Sb:∀n,Av fun L=>rD L n
 | 0=>⟨fun _ _ _ _ _ _ _ h=>by(cases h),fun _ _ _ _ _ _ h=>by(cases h)⟩
 | n+1=>Av.bind FZ fun _=>Av.bind (PI (abB (JR n) n) _ _) fun l=>Av.map aiQ
theorem aiP:Av fun L=>wH L :=
 Av.bind wC fun _=>Av.bind Bh fun name=>Av.bind wC fun _=>Av.bind (TZ VE) fun ps=>Av.bind wC fun _=>Av.bind Ab fun _ =>
  Av.ite (Av.bind JT fun _=>Av.bind Ln fun _=>Av.map (Sb 65)) (Av.map (Sb 65))
theorem Ep {L L':List Token}(hL:rE L) {N:Nat}(hN:N+1=L.length) (hz:∀i,i < N→(tk L i).kind≠0) (ht:∀i,i < N→tk L' i=tk L i) :
  ∀(m:Nat) (l:List XF) (a d:Nat) (r:List XF) (a' d':Nat),a≤N→pO L m l a d=.ok r a' d' →
   d'=d∧∃j,a+j≤N∧r.length=l.length+j∧∀m',pO L' (m'+j) l a d=pO L' m' r N d:=by
 intro m
 induction m with
 | zero=>intro l a d r a' d' ha h; cases h
 | succ m ih =>
  intro l a d r a' d' ha h
  simp only [pO,mO,PM.bind,o7] at h
  by_cases hk:(tk L a).kind=0
  ·rw [if_pos hk] at h
   cases h
   have:a=N:=by
    by_cases hlt:a < N
    ·exact absurd hk (hz a hlt)
    ·omega
   subst this
   exact⟨rfl,0,by omega,by omega,fun m'=>rfl⟩
  ·rw [if_neg hk] at h
   simp only [mO,PM.bind] at h
   cases h1:wH L a d with
   | ok f a1 d1 =>
    rw [h1] at h
    obtain⟨g1,g2,g3⟩:=Lb hL _ _ _ _ _ h1 (by omega)
    have g3:d1=d:=g3
    subst g3
    obtain⟨q1,j,q2,q3,q4⟩:=ih (l++[f]) a1 d1 r a' d' (by omega) h
    have hlt:a < N:=by omega
    refine⟨q1,j+1,by omega,by simp at q3; omega,fun m'=>?_⟩
    rw [←q4 m',←Nat.add_assoc]
    conv=>lhs; unfold pO
    simp only [mO,PM.bind,o7]
    rw [ht a hlt,if_neg hk]
    simp only [PM.bind]
    rw [aiP.run _ L' _ _ _ _ _ h1 fun i hi=>ht i (by omega)]
   | bad e p a1 d1=>rw [h1] at h; cases h
section
variable {L L':List Token}{k far:Nat}(hF:Far L L' k far)
include hF
theorem J7 (B:List XF):∀(m:Nat) (l' l:List XF),Bd (Fq far) l' l→rN L k (fun v' v=>∃w,v'=B++w∧Bd (Fq far) w v) (pO L' m (B++l')) (pO L m l)
 | 0,_,_,_=>rN.fail
 | m+1,l',l,hl=>(Mk hF).bind fun _ t ht=>by
  obtain⟨rfl,_⟩:=ht
  exact rN.ite (rN.pure ⟨l',rfl,hl⟩) ((au9 hF).bind fun f' f hf=>by
   rw [al2]
   exact J7 B m _ _ (hl.snoc hf))
end
end
section
open Go Hk
theorem ME {L:List Token}{i:Nat}(h:i < L.length):tk L i∈L:=by
 unfold tk; rw [ac1 h]; exact List.getElem_mem h
theorem Hi {s:List UInt8}{F:List XF}{p:Nat}(h:nM s=(F,0,p)) :
  ∃l,oT s=(l++[⟨0,s.length,0,[]⟩],0,0)∧(∀x∈l,x.kind≠0)∧∃a d,pO (l++[⟨0,s.length,0,[]⟩]) 131073 [] 0 0=.ok F a d:=by
 unfold nM at h
 by_cases h0:(oT s).2.1=0
 ·rw [if_pos h0] at h
  obtain⟨l,h1,h2,_⟩:=E_ h0
  refine⟨l,h1,fun x hx=>(h2 x hx).2.1.1,?_⟩
  rw [h1] at h
  simp only [] at h
  cases h3:pO (l++[⟨0,s.length,0,[]⟩]) 131073 [] 0 0 with
  | ok v a d=>rw [h3] at h; cases h; exact⟨a,d,rfl⟩
  | bad e q a d =>
   rw [h3] at h
   have:=((PG 131073 []).place _ _ _ _ _ _ _ h3).2
   exact absurd (congrArg (fun x=>x.2.1) h) this
 ·rw [if_neg h0] at h
  exact absurd (congrArg (fun x=>x.2.1) h) h0
theorem RD {L:List Token}(hL:rE L) (hp:∀x∈L,x.pos≤100000):Far L L 0 0 :=
 ⟨hL,fun i _=>by rw [Nat.zero_add]; rfl,fun i hi=>hp _ (ME hi),by omega⟩
end
section
open Go Hk

end
end Go.Proofs.YtlddmnojanpdoaaGreatDoor
