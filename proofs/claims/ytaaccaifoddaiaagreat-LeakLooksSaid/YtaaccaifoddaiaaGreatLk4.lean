/-
  The texts LK.I9, LK.I11, LK.M5, LK.I12, LK.I13, LK.I14, LK.R1, LK.R2, LK.R3, LK.R4, LK.R5, LK.R6, LK.R7, LK.R8, LK.R9a, LK.R9, LK.R10, LK.R11, LK.R12, LK.R13, LK.R14, LK.R15, LK.R16, LK.R17, LK.I15, LK.I10, LK.J1, LK.J2, LK.J3, LK.I16, LK.I17, LK.J4, LK.I18, LK.I19, LK.J5, LK.J6, LK.J7, LK.J8, one behind another. No conditions.
-/
import Derived.Test.YtaaccaifoddaiaaGreatLk3
import Derived.Test.YtaaccaifoddaiaaGreatLk1
import Derived.Test.YtaaccaifoddaiaaGreatLk2
set_option linter.unusedVariables false
set_option linter.unusedSimpArgs false
set_option linter.all false
open Bool renaming and_eq_true → ae7
open Int renaming reduceEq → ae2
open List renaming cons_append → aq6, drop_eq_getElem_cons → al3, getD_eq_getElem?_getD → ad9, getElem?_append_left → ah6, getElem?_append_right → af7, getElem?_map → ah3, getElem?_take → ah8, length → aa5, length_take → al4, nil_append → ar0
open Nat renaming add_zero → aq9, mod_lt → aq2, pow_le_pow_right → al2
open Option.some renaming injEq → aa9
namespace Go.Proofs.YtaaccaifoddaiaaGreat
section
open Go Hk
theorem np0 {i o:Nat}:Kb .eql (.ptr i o) .nilptr=some (.bool false):=(rfl)
theorem Dm {f:Nat}{args:List kN}{h:kO}{m:Option (mR×kO)}{r:mR×kO}(hp:mJ.pure f=false) (hs:mJ.sub f=false) (he:C8 Tryz.prog mJ nP (Ag Tryz.prog mJ) f args h=m) (hk:m=some r):KK f args h=some r:=by
 simp only [KK,lG,hp,hs,cond_false]
 exact aiB he hk
section
variable (L I O R:Nat)
theorem SQ {k:Nat}{r:mZ}(h:(pZ (nO I O R) L)[k]?=some r):k<7∧∃off len,(oY L I O R)[k]?=some (off,len)∧r.len=(len:Int)∧off+len≤mB L I O R:=by
 unfold pZ nO at h
 match k,h with
 | 0,h=>cases h;exact⟨by decide,0,L,rfl,rfl,by unfold mB;omega⟩
 | 1,h=>cases h;exact⟨by decide,L,I,rfl,rfl,by unfold mB;omega⟩
 | 2,h=>cases h;exact⟨by decide,L+I,O,rfl,rfl,by unfold mB;omega⟩
 | 3,h=>cases h;exact⟨by decide,L+I+O,R,rfl,rfl,by unfold mB;omega⟩
 | 4,h=>cases h;exact⟨by decide,L+I+O+R,R,rfl,rfl,by unfold mB;omega⟩
 | 5,h=>cases h;exact⟨by decide,L+I+O+R+R,4,rfl,rfl,by unfold mB;omega⟩
 | 6,h=>cases h;exact⟨by decide,L+I+O+R+R+4,4,rfl,rfl,by unfold mB;omega⟩
 | k+7,h=>simp at h
def Kt (w:Bool) (a n:Int):Option Nat:=match C9 w a n (pZ (nO I O R) L) with
 | some k=>some (((oY L I O R).getD k (0,0)).1+(a-((pZ (nO I O R) L).getD k ⟨0,0,false⟩).base).toNat)
 | none=>none
end
theorem BI {b m:Nat}{rl:List mZ}{L I O R:Nat}{M:List UInt8}(hb:b+3≤m) (h:kO):sJ m h (MB b rl L I O R M)=some (MB b rl L I O R M):=by
 have sv:=sK (id:=b+2) (tot:=mB L I O R) (m:=m) (h:=h) (by omega) (l:=oY L I O R)
 unfold MB
 simp -implicitDefEqProofs [sv,mG,lT (show b+1<m by omega)]
section
variable {L I O R:Nat}(hL:L≤262144) (hI:I≤65536) (hO:O≤65536) (hR:R≤65536) (M:List UInt8) (hM:M.length=mB L I O R) {a:Int}(a0:0≤a) (a1:a<4294967296) {n:Int}(hn:n=1∨n=4) (w:Bool)
include hL hI hO hR a0 a1 hn
theorem auI (hp:kO):KK 138 [.slice (Rw mZ.cells (pZ (nO I O R) L)) .no,.int .i64 a,.int .i64 n,.bool w] hp=some (.ret (.tuple [.int .i64 (Tw (C9 w a n (pZ (nO I O R) L))).1,.int .i64 (Tw (C9 w a n (pZ (nO I O R) L))).2]),hp):=by
 have hb:∀r∈pZ (nO I O R) L,Rb r:=by
  intro r hr
  simp only [pZ,nO,List.mem_cons,List.not_mem_nil,or_false] at hr
  unfold Rb
  rcases hr with rfl | rfl | rfl | rfl | rfl | rfl | rfl <;> dsimp only <;> omega
 rw [aD3,apA a0 a1 hn w (show(pZ (nO I O R) L).length<100 by simp [pZ]) hb];rfl
theorem Ki {p:Nat}(hp:Kt L I O R w a n=some p):KK 118 [.ptr 0 0,.int .i64 a,.int .i64 n,.bool w] (MB 0 (pZ (nO I O R) L) L I O R M)=some (.ret (.tuple [.vslice 2 (mB L I O R) p n.toNat 1,.int .i64 0]),MB 0 (pZ (nO I O R) L) L I O R M)∧p+n.toNat≤mB L I O R:=by
 have k:=fun hp=>auI hL hI hO hR a0 a1 hn w hp
 unfold Kt at hp
 cases hf:C9 w a n (pZ (nO I O R) L) with
 | none=>rw [hf] at hp;cases hp
 | some j =>
  rw [hf] at hp k
  simp only [aa9] at hp
  obtain⟨r,h1,h2,h3⟩:=Qc hf
  obtain⟨hj,off,len,h4,h5,h6⟩:=SQ L I O R h1
  have hh:=Nf h2
  have hb0:0≤r.base∧r.base<4294967296:=by
   simp only [pZ,nO] at h1
   match j,h1 with
   | 0,h=>cases h;exact⟨by dsimp only;omega,by dsimp only;omega⟩
   | 1,h=>cases h;exact⟨by dsimp only;omega,by dsimp only;omega⟩
   | 2,h=>cases h;exact⟨by dsimp only;omega,by dsimp only;omega⟩
   | 3,h=>cases h;exact⟨by dsimp only;omega,by dsimp only;omega⟩
   | 4,h=>cases h;exact⟨by dsimp only;omega,by dsimp only;omega⟩
   | 5,h=>cases h;exact⟨by dsimp only;omega,by dsimp only;omega⟩
   | 6,h=>cases h;exact⟨by dsimp only;omega,by dsimp only;omega⟩
   | k+7,h=>simp at h
  rw [show(oY L I O R).getD j (0,0)=(off,len) from by rw [ad9,h4];rfl,show(pZ (nO I O R) L).getD j ⟨0,0,false⟩=r from by rw [ad9,h1];rfl] at hp
  dsimp only at hp
  have hlen:len≤1000000:=by
   have:mB L I O R≤1000000:=by unfold mB;omega
   omega
  refine⟨?_,by omega⟩
  refine Dm rfl rfl (TB ..) ?_
  have st:=fun h=>BI (b:=0) (m:=3) (rl:=pZ (nO I O R) L) (L:=L) (I:=I) (O:=O) (R:=R) (M:=M) (by decide) h
  have e1:sF (pZ (nO I O R) L) ((j:Nat):Int)=some r:=by unfold sF;rw [if_pos (by omega)];exact h1
  have e2:IntKind.i64.wrap (a-r.base)=a-r.base:=lP _ (by omega) (by omega)
  have e3:IntKind.i64.wrap (a-r.base+n)=a-r.base+n:=lP _ (by omega) (by omega)
  have e4:mD 1 (.vslice 1 7 0 7 1) (.int .i64 ((j:Nat):Int))=some (.vptr 1 7 j):=by
   simp only [mD];rw [if_pos ⟨by omega,by omega,by trivial⟩];simp
  have e5:(vP 2 (mB L I O R) (oY L I O R))[j]?=some (.vslice 2 (mB L I O R) off len 1):=by unfold vP;rw [ah3,h4];rfl
  have e6:n8 1 (.vslice 2 (mB L I O R) off len 1) (some (.int .i64 (a-r.base))) (some (.int .i64 (a-r.base+n)))=some (.vslice 2 (mB L I O R) p n.toNat 1):=by
   obtain⟨x,hx⟩:∃x:Nat,a-r.base=(x:Int):=⟨(a-r.base).toNat,by omega⟩
   obtain⟨y,hy⟩:∃y:Nat,n=(y:Int):=⟨n.toNat,by omega⟩
   rw [hx,hy,←Int.natCast_add]
   simp only [n8,pU,if_pos (Int.natCast_nonneg _),Jh]
   rw [if_pos ⟨by omega,by omega,by trivial⟩,if_pos (by omega)]
   congr 2 <;> omega
  simp only [Tw] at k
  unfold MB at st ⊢
  generalize pZ (nO I O R) L=rl at *
  generalize mB L I O R=tt at *
  simp -implicitDefEqProofs [ajE,np0,k,e1,e2,e3,e4,e5,e6,st,-oT,-rU,-vM]
theorem Kh (hp:Kt L I O R w a n=none):KK 118 [.ptr 0 0,.int .i64 a,.int .i64 n,.bool w] (MB 0 (pZ (nO I O R) L) L I O R M)=some (.ret (.tuple [.slice [] .no,.int .i64 8]),MB 0 (pZ (nO I O R) L) L I O R M):=by
 have k:=fun hp=>auI hL hI hO hR a0 a1 hn w hp
 unfold Kt at hp
 cases hf:C9 w a n (pZ (nO I O R) L) with
 | some j=>rw [hf] at hp;cases hp
 | none =>
  rw [hf] at k
  refine Dm rfl rfl (TB ..) ?_
  have st:=fun h=>BI (b:=0) (m:=3) (rl:=pZ (nO I O R) L) (L:=L) (I:=I) (O:=O) (R:=R) (M:=M) (by decide) h
  simp only [Tw] at k
  unfold MB at st ⊢
  generalize pZ (nO I O R) L=rl at *
  generalize mB L I O R=tt at *
  simp -implicitDefEqProofs [ajE,np0,k,st,-oT,-rU,-vM]
end
section
variable {L I O R:Nat}{rl:List mZ}{M:List UInt8}
theorem getM {tt i:Nat}{c:List kN}{v:lN}(hi:i<M.length):kY false 1 [.cells c,v,.vec tt 1 (M.map bC)] (.vptr 2 tt i)=some (.int .u8 (((M.getD i 0).toNat:Nat):Int)):=by
 rw [pV]
 simp only [Bh,Bi,Option.bind_some]
 rw [ah3,List.getElem?_eq_getElem hi]
 simp [bC,hi]
theorem s83 {p N i v:Nat}(hi:i<4) (hN:i<N) (hN4:N≤4) (hv:v<2^(8*i)) (hM:p+N≤M.length) :
  EO KK 3 ([.int .i64 0,.int .i64 0,.int .i64 (v:Int),.vslice 2 (mB L I O R) p N 1,.int .i64 (N:Int),.int .i64 (i:Int)],MB 0 rl L I O R M) =
   some (.normal,[.int .i64 0,.int .i64 0,.int .i64 (((M.getD (p+i) 0).toNat*2^(8*i)+v:Nat):Int),.vslice 2 (mB L I O R) p N 1,.int .i64 (N:Int),.int .i64 ((i+1:Nat):Int)],MB 0 rl L I O R M):=by
 have hb:=(M.getD (p+i) 0).toNat_lt
 have st:=fun h=>BI (b:=0) (m:=3) (rl:=rl) (L:=L) (I:=I) (O:=O) (R:=R) (M:=M) (by decide) h
 have e1:mD 1 (.vslice 2 (mB L I O R) p N 1) (.int .i64 (i:Int))=some (.vptr 2 (mB L I O R) (p+i)):=by
  simp only [mD];rw [if_pos ⟨by omega,by omega,by trivial⟩];simp
 have e2:=fun(c:List kN) (v:lN)=>getM (tt:=mB L I O R) (c:=c) (v:=v) (M:=M) (i:=p+i) (by omega)
 have e3:IntKind.i64.wrap (8*(i:Int))=((8*i:Nat):Int):=by rw [lP _ (by omega) (by omega)];omega
 have h24:2^(8*i)≤2^24:=al2 (by decide) (by omega)
 have hs:(M.getD (p+i) 0).toNat*2^(8*i)<4611686018427387904:=by
  exact Nat.lt_of_le_of_lt (Nat.mul_le_mul (Nat.le_of_lt hb) h24) (by decide)
 have e4:=Tf (M.getD (p+i) 0).toNat (8*i) (by omega) hs
 have e5:=OT (a:=v) (b:=(M.getD (p+i) 0).toNat) (k:=8*i) (by omega) hv hs
 have e6:IntKind.i64.wrap ((i:Int)+1)=((i+1:Nat):Int):=by rw [lP _ (by omega) (by omega)];omega
 have e7:(i:Int)<(N:Int):=by omega
 have e8:IntKind.i64.wrap (((M.getD (p+i) 0).toNat:Nat):Int)=(((M.getD (p+i) 0).toNat:Nat):Int):=lP _ (by omega) (by omega)
 generalize (M.getD (p+i) 0).toNat=b at *
 generalize b*2^(8*i)=B at *
 generalize 8*i=i8 at *
 generalize B+v=w at *
 generalize i+1=j at *
 unfold MB at st ⊢
 generalize mB L I O R=tt at *
 simp -implicitDefEqProofs [EO,e1,e2,e3,e4,e5,e6,e7,e8,st,-oT,-rU,-pV,-vM,lT]
theorem e83 {p N:Nat}{v:Int} :
  EO KK 3 ([.int .i64 0,.int .i64 0,.int .i64 v,.vslice 2 (mB L I O R) p N 1,.int .i64 (N:Int),.int .i64 (N:Int)],MB 0 rl L I O R M) =
   some (.exit 0,[.int .i64 0,.int .i64 0,.int .i64 v,.vslice 2 (mB L I O R) p N 1,.int .i64 (N:Int),.int .i64 (N:Int)],MB 0 rl L I O R M):=by
 have st:=fun h=>BI (b:=0) (m:=3) (rl:=rl) (L:=L) (I:=I) (O:=O) (R:=R) (M:=M) (by decide) h
 unfold MB at st ⊢
 generalize mB L I O R=tt at *
 simp -implicitDefEqProofs [EO,st,-vM,lT]
end
def Wl (M:List UInt8) (p:Nat) (n:Int):Int:=if n=1 then(((M.getD p 0).toNat:Nat):Int) else(((M.getD p 0).toNat+256*(M.getD (p+1) 0).toNat+65536*(M.getD (p+2) 0).toNat+16777216*(M.getD (p+3) 0).toNat:Nat):Int)
section
variable {L I O R:Nat}(hL:L≤262144) (hI:I≤65536) (hO:O≤65536) (hR:R≤65536) (M:List UInt8) (hM:M.length=mB L I O R) {a:Int}(a0:0≤a) (a1:a<4294967296) {n:Int}(hn:n=1∨n=4)
include hL hI hO hR hM a0 a1 hn
theorem aC2 {p:Nat}(hp:p+n.toNat≤mB L I O R) (rl:List mZ):nP (EO KK 3) ([.int .i64 0,.int .i64 0,.int .i64 0,.vslice 2 (mB L I O R) p n.toNat 1,.int .i64 n,.int .i64 0],MB 0 rl L I O R M) =
  some (.exit 0,[.int .i64 0,.int .i64 0,.int .i64 (Wl M p n),.vslice 2 (mB L I O R) p n.toNat 1,.int .i64 n,.int .i64 n],MB 0 rl L I O R M):=by
 have h0:=(M.getD p 0).toNat_lt
 have h1:=(M.getD (p+1) 0).toNat_lt
 have h2:=(M.getD (p+2) 0).toNat_lt
 have h3:=(M.getD (p+3) 0).toNat_lt
 rcases hn with rfl | rfl
 ·have s0:=s83 (L:=L) (I:=I) (O:=O) (R:=R) (rl:=rl) (M:=M) (p:=p) (N:=1) (i:=0) (v:=0) (by decide) (by decide) (by decide) (by decide) (by rw [hM];exact hp)
  refine(nK s0).trans ((s7 (e83 (N:=1))).trans ?_)
  unfold Wl
  simp
 ·have hp':p+4≤M.length:=by rw [hM];exact hp
  have s0:=s83 (L:=L) (I:=I) (O:=O) (R:=R) (rl:=rl) (M:=M) (p:=p) (N:=4) (i:=0) (v:=0) (by decide) (by decide) (by decide) (by decide) hp'
  have s1:=s83 (L:=L) (I:=I) (O:=O) (R:=R) (rl:=rl) (M:=M) (p:=p) (N:=4) (i:=1) (v:=(M.getD (p+0) 0).toNat*2^(8*0)+0) (by decide) (by decide) (by decide) (by simp only [aq9,Nat.mul_zero,Nat.pow_zero,Nat.mul_one,show(2:Nat)^(8*1)=256 from rfl,show(2:Nat)^(8*2)=65536 from rfl,show(2:Nat)^(8*3)=16777216 from rfl];omega) hp'
  have s2:=s83 (L:=L) (I:=I) (O:=O) (R:=R) (rl:=rl) (M:=M) (p:=p) (N:=4) (i:=2) (v:=(M.getD (p+1) 0).toNat*2^(8*1)+((M.getD (p+0) 0).toNat*2^(8*0)+0)) (by decide) (by decide) (by decide) (by simp only [aq9,Nat.mul_zero,Nat.pow_zero,Nat.mul_one,show(2:Nat)^(8*1)=256 from rfl,show(2:Nat)^(8*2)=65536 from rfl,show(2:Nat)^(8*3)=16777216 from rfl];omega) hp'
  have s3:=s83 (L:=L) (I:=I) (O:=O) (R:=R) (rl:=rl) (M:=M) (p:=p) (N:=4) (i:=3) (v:=(M.getD (p+2) 0).toNat*2^(8*2)+((M.getD (p+1) 0).toNat*2^(8*1)+((M.getD (p+0) 0).toNat*2^(8*0)+0))) (by decide) (by decide) (by decide) (by simp only [aq9,Nat.mul_zero,Nat.pow_zero,Nat.mul_one,show(2:Nat)^(8*1)=256 from rfl,show(2:Nat)^(8*2)=65536 from rfl,show(2:Nat)^(8*3)=16777216 from rfl];omega) hp'
  refine(nK s0).trans ((nK s1).trans ((nK s2).trans ((nK s3).trans ((s7 (e83 (N:=4))).trans ?_))))
  have:(((M.getD (p+3) 0).toNat*2^(8*3)+((M.getD (p+2) 0).toNat*2^(8*2)+((M.getD (p+1) 0).toNat*2^(8*1)+((M.getD (p+0) 0).toNat*2^(8*0)+0))):Nat):Int)=Wl M p 4:=by
   unfold Wl
   rw [if_neg (by decide),aq9 p]
   omega
  rw [this];rfl
theorem c83:C8 Tryz.prog mJ nP (Ag Tryz.prog mJ) 83 [.ptr 0 0,.int .i64 a,.int .i64 n] (MB 0 (pZ (nO I O R) L) L I O R M)=some (.ret (match Kt L I O R false a n with | some p=>.tuple [.int .i64 (Wl M p n),.int .i64 0] | none=>.tuple [.int .i64 0,.int .i64 8]),MB 0 (pZ (nO I O R) L) L I O R M):=by
 refine(alA ..).trans ?_
 have st:=fun h=>BI (b:=0) (m:=3) (rl:=pZ (nO I O R) L) (L:=L) (I:=I) (O:=O) (R:=R) (M:=M) (by decide) h
 have len3:(MB 0 (pZ (nO I O R) L) L I O R M).length=3:=rfl
 have tk:(MB 0 (pZ (nO I O R) L) L I O R M).take 3=MB 0 (pZ (nO I O R) L) L I O R M:=rfl
 have e5:((n.toNat:Nat):Int)=n:=by omega
 cases hf:Kt L I O R false a n with
 | some p =>
  obtain⟨k,hp⟩:=Ki hL hI hO hR M a0 a1 hn false hf
  have lp:=aC2 hL hI hO hR M hM a0 a1 hn hp (pZ (nO I O R) L)
  have al:s5 (.vslice 2 (mB L I O R) p n.toNat 1)=some (.int .i64 n):=by simp only [s5,e5]
  simp -implicitDefEqProofs [m83,k,lp,al,st,len3,tk,-Jz,lT]
 | none =>
  have k:=Kh hL hI hO hR M a0 a1 hn false hf
  simp -implicitDefEqProofs [m83,k,st,len3,tk]
theorem c82 (v:Int):C8 Tryz.prog mJ nP (Ag Tryz.prog mJ) 82 [.ptr 0 0,.int .i64 a,.int .i64 n,.int .i64 v] (MB 0 (pZ (nO I O R) L) L I O R M)=some (.ret (.int .i64 (match Kt L I O R true a n with | some _=>0 | none=>8)),MB 0 (pZ (nO I O R) L) L I O R (match Kt L I O R true a n with | some p=>Bv M p ((wB v).take n.toNat) | none=>M)):=by
 refine(ak9 ..).trans ?_
 have len3:(MB 0 (pZ (nO I O R) L) L I O R M).length=3:=rfl
 have tk:∀M,(MB 0 (pZ (nO I O R) L) L I O R M).take 3=MB 0 (pZ (nO I O R) L) L I O R M:=fun _=>rfl
 have st:=fun M h=>BI (b:=0) (m:=3) (rl:=pZ (nO I O R) L) (L:=L) (I:=I) (O:=O) (R:=R) (M:=M) (by decide) h
 have k119:=fun h=>aB2 v h
 cases hf:Kt L I O R true a n with
 | some p =>
  obtain⟨k,hp⟩:=Ki hL hI hO hR M a0 a1 hn true hf
  have hl:((wB v).take n.toNat).length=n.toNat:=by rw [al4,C7];omega
  have cp:zA (MB 0 (pZ (nO I O R) L) L I O R M) (.vslice 2 (mB L I O R) p n.toNat 1) (.str (wB v))=some (.int .i64 ((min (wB v).length n.toNat:Nat):Int),MB 0 (pZ (nO I O R) L) L I O R (Bv M p ((wB v).take n.toNat))):=by
   have e:((wB v).take n.toNat).map (fun b=>kN.int .u8 (b.toNat:Int))=((wB v).take n.toNat).map bC:=rfl
   unfold MB
   simp only [zA,Bh,Bi,List.length_map,e,TL,hM]
   rw [if_pos (by simp [hp])]
   rfl
  simp -implicitDefEqProofs [m82,k,k119,cp,st,len3,tk]
 | none =>
  have k:=Kh hL hI hO hR M a0 a1 hn true hf
  simp -implicitDefEqProofs [m82,k,st,len3,tk]
end
end
section
open Go Hk
def AT (b:Nat) (hd:Hd) (f:List UInt8) (s:St) (dn:Bool) (kn:Nat→Bool) (n:Nat) (rl:List mZ) (L I O R:Nat) (M:List UInt8):kO :=
 [.cells (MC hd f (.ptr (b+1) 0) s dn (.vslice (b+2) n 0 n 11)),.cells [.slice (Rw mZ.cells rl) .no,.vslice (b+3) 7 0 7 1],.vec n 11 (Ba f kn n),.vec 7 1 (vP (b+4) (mB L I O R) (oY L I O R)),.vec (mB L I O R) 1 (M.map bC)]
section
variable {hd:Hd}{f:List UInt8}{s s':St}{dn dn':Bool}{kn kn':Nat→Bool}{n:Nat}{rl:List mZ}{L I O R:Nat}{M M':List UInt8}
theorem ahQ {p:Nat→Bool}{i o:Nat}:kN.ok p (.ptr i o)=p i:=rfl
theorem VT {F:Nat→Nat}{i o:Nat}:kN.pO F (.ptr i o)=.ptr (F i) o:=rfl
theorem okt {p:Nat→Bool}{i o:Nat}{k:IntKind}{x:Int}:kN.ok p (.tuple [.ptr i o,.int k x])=(p i&&true):=by simp [kN.ok]
theorem aEa {F:Nat→Nat}{i o:Nat}{k:IntKind}{x:Int}:kN.pO F (.tuple [.ptr i o,.int k x])=.tuple [.ptr (F i) o,.int k x]:=rfl
theorem P2 {tt id:Nat}:lN.refs (.vec 7 1 (vP id tt (oY L I O R)))=[id,id,id,id,id,id,id]:=rfl
theorem P3 {tt:Nat}:lN.refs (.vec tt 1 (M.map bC))=[]:=Fh
theorem VR:lN.refs (.vec n 11 (Ba f kn n))=[]:=KG OJ n
theorem P4 {i:Nat}:lN.refs (.cells [.slice (Rw mZ.cells rl) .no,.vslice i 7 0 7 1])=[i]:=rfl
theorem VS {i j:Nat}:lN.refs (.cells (MC hd f (.ptr i 0) s dn (.vslice j n 0 n 11)))=[i,j]:=rfl
theorem PZ {tt id:Nat}{p:Nat→Bool}:lN.ok p (.vec 7 1 (vP id tt (oY L I O R)))=(p id&&(p id&&(p id&&(p id&&(p id&&(p id&&(p id&&true))))))):=rfl
theorem P0 {tt:Nat}{p:Nat→Bool}:lN.ok p (.vec tt 1 (M.map bC))=true:=DA
theorem VP {p:Nat→Bool}:lN.ok p (.vec n 11 (Ba f kn n))=true:=KF V5 n
theorem P1 {i:Nat}{p:Nat→Bool}:lN.ok p (.cells [.slice (Rw mZ.cells rl) .no,.vslice i 7 0 7 1])=(p i&&true):=by simp [lN.ok]
theorem VQ {i j:Nat}{p:Nat→Bool}:lN.ok p (.cells (MC hd f (.ptr i 0) s dn (.vslice j n 0 n 11)))=(p i&&(p j&&true)):=by simp [lN.ok,MC,Sc]
theorem HG {tt id:Nat}{F:Nat→Nat}:lN.pO F (.vec 7 1 (vP id tt (oY L I O R)))=.vec 7 1 (vP (F id) tt (oY L I O R)):=by simp only [lN.pO,vP,oY,List.map_cons,List.map_nil,kN.xC]
theorem HH {tt:Nat}{F:Nat→Nat}:lN.pO F (.vec tt 1 (M.map bC))=.vec tt 1 (M.map bC):=by simp only [lN.pO,B1]
theorem OD {F:Nat→Nat}:lN.pO F (.vec n 11 (Ba f kn n))=.vec n 11 (Ba f kn n):=by simp only [lN.pO];rw [show(Ba f kn n).map (kN.xC F)=Ba f kn n from PI Tv n]
theorem HJ {i:Nat}{F:Nat→Nat}:lN.pO F (.cells [.slice (Rw mZ.cells rl) .no,.vslice i 7 0 7 1])=.cells [.slice (Rw mZ.cells rl) .no,.vslice (F i) 7 0 7 1]:=by simp [lN.pO]
theorem OE {i j:Nat}{F:Nat→Nat}:lN.pO F (.cells (MC hd f (.ptr i 0) s dn (.vslice j n 0 n 11)))=.cells (MC hd f (.ptr (F i) 0) s dn (.vslice (F j) n 0 n 11)):=by simp [lN.pO,MC,Sc]
theorem ahH (F:lN):tR true [F] (.ret (.tuple [.ptr 0 0,.int .i64 0]),AT 0 hd f s dn kn n rl L I O R M)=some (.ret (.tuple [.ptr 1 0,.int .i64 0]),F::AT 1 hd f s dn kn n rl L I O R M):=by
 unfold AT
 generalize mB L I O R=tt
 simp [-qN,-oD,-sI,-pG,-uG,-qM,-kN.ok,-kN.pO,tR,P1,PZ,P0,VP,VQ,HG,HH,OD,HJ,OE,okt,aEa]
variable {fn:Nat}{ar:List kN}{v:kN}(hp:mJ.pure fn=false) (hs:mJ.sub fn=true) (hA:ar.flatMap kN.refs=[]) (hB:∀p,ar.all (kN.ok p)=true) (hC:∀F,ar.map (kN.pO F)=ar) (hv1:∀p,v.ok p=true) (hv2:∀F,v.pO F=v)
include hp hs hA hB hC hv1 hv2
theorem Xw (he:C8 Tryz.prog mJ nP (Ag Tryz.prog mJ) fn (.ptr 0 0::ar) (MB 0 rl L I O R M)=some (.ret v,MB 0 rl L I O R M')) (l:kO):KK fn (.ptr 1 0::ar) (MH hd f s dn kn n rl L I O R M++l)=some (.ret v,MH hd f s dn kn n rl L I O R M'++l):=by
 unfold MH
 unfold MB at he
 generalize mB L I O R=tt at *
 have hr:reach ([.cells (MC hd f (.ptr 1 0) s dn (.vslice 2 n 0 n 11)),.cells [.slice (Rw mZ.cells rl) .no,.vslice 3 7 0 7 1],.vec n 11 (Ba f kn n),.vec 7 1 (vP 4 tt (oY L I O R)),.vec tt 1 (M.map bC)]++l) (.ptr 1 0::ar)=[1,3,4]:=by
  unfold reach
  rw [List.flatMap_cons,hA]
  simp [-qN,-oD,-sI,-pG,-uG,-qM,-kN.ok,-kN.pO,P2,P3,P4]
 exact Ky (P:=Tryz.prog) (A:=mJ) (x:=some ()) (v:=fun _=>v) (v':=fun _=>v) (ids:=[1,3,4]) (h1:=fun _=>_) (h2:=fun _=>_) hp hs hr (by simp [-qN,-oD,-sI,-pG,-uG,-qM,-kN.ok,-kN.pO,ahQ,P1,PZ,P0,hB]) (by simp [-qN,-oD,-sI,-pG,-uG,-qM,-kN.ok,-kN.pO,VT,hC]) (by simp [-qN,-oD,-sI,-pG,-uG,-qM,-kN.ok,-kN.pO,HJ,HG,HH]) he rfl (fun _=>by simp [-qN,-oD,-sI,-pG,-uG,-qM,-kN.ok,-kN.pO,P1,PZ,P0,hv1,hv2,HJ,HG,HH])
theorem afP (he:C8 Tryz.prog mJ nP (Ag Tryz.prog mJ) fn (.ptr 0 0::ar) (AT 0 hd f s dn kn n rl L I O R M)=some (.ret v,AT 0 hd f s' dn' kn' n rl L I O R M')) (l:kO):KK fn (.ptr 0 0::ar) ((AT 0 hd f s dn kn n rl L I O R M++l))=some (.ret v,(AT 0 hd f s' dn' kn' n rl L I O R M'++l)):=by
 unfold AT at he ⊢
 generalize mB L I O R=tt at *
 have hr:reach (([.cells (MC hd f (.ptr 1 0) s dn (.vslice 2 n 0 n 11)),.cells [.slice (Rw mZ.cells rl) .no,.vslice 3 7 0 7 1],.vec n 11 (Ba f kn n),.vec 7 1 (vP 4 tt (oY L I O R)),.vec tt 1 (M.map bC)]++l)) (.ptr 0 0::ar)=[0,1,2,3,4]:=by
  unfold reach
  rw [List.flatMap_cons,hA]
  simp [-qN,-oD,-sI,-pG,-uG,-qM,-kN.ok,-kN.pO,P2,P3,P4,VR,VS]
 exact Ky (P:=Tryz.prog) (A:=mJ) (x:=some ()) (v:=fun _=>v) (v':=fun _=>v) (ids:=[0,1,2,3,4]) (h1:=fun _=>_) (h2:=fun _=>_) hp hs hr (by simp [-qN,-oD,-sI,-pG,-uG,-qM,-kN.ok,-kN.pO,ahQ,P1,PZ,P0,VP,VQ,hB]) (by simp [-qN,-oD,-sI,-pG,-uG,-qM,-kN.ok,-kN.pO,VT,hC]) (by simp [-qN,-oD,-sI,-pG,-uG,-qM,-kN.ok,-kN.pO,HJ,HG,HH,OD,OE]) he rfl (fun _=>by simp [-qN,-oD,-sI,-pG,-uG,-qM,-kN.ok,-kN.pO,P1,PZ,P0,VP,VQ,hv1,hv2,HJ,HG,HH,OD,OE])
theorem ay3 (he:C8 Tryz.prog mJ nP (Ag Tryz.prog mJ) fn (.ptr 0 0::ar) (AT 0 hd f s dn kn n rl L I O R M)=some (.ret v,AT 0 hd f s' dn' kn' n rl L I O R M')) (F:lN) (l:kO):KK fn (.ptr 1 0::ar) (F::(AT 1 hd f s dn kn n rl L I O R M++l))=some (.ret v,F::(AT 1 hd f s' dn' kn' n rl L I O R M'++l)):=by
 unfold AT at he ⊢
 generalize mB L I O R=tt at *
 have hr:reach (F::([.cells (MC hd f (.ptr 2 0) s dn (.vslice 3 n 0 n 11)),.cells [.slice (Rw mZ.cells rl) .no,.vslice 4 7 0 7 1],.vec n 11 (Ba f kn n),.vec 7 1 (vP 5 tt (oY L I O R)),.vec tt 1 (M.map bC)]++l)) (.ptr 1 0::ar)=[1,2,3,4,5]:=by
  unfold reach
  rw [List.flatMap_cons,hA]
  simp [-qN,-oD,-sI,-pG,-uG,-qM,-kN.ok,-kN.pO,P2,P3,P4,VR,VS]
 exact Ky (P:=Tryz.prog) (A:=mJ) (x:=some ()) (v:=fun _=>v) (v':=fun _=>v) (ids:=[1,2,3,4,5]) (h1:=fun _=>_) (h2:=fun _=>_) hp hs hr (by simp [-qN,-oD,-sI,-pG,-uG,-qM,-kN.ok,-kN.pO,ahQ,P1,PZ,P0,VP,VQ,hB]) (by simp [-qN,-oD,-sI,-pG,-uG,-qM,-kN.ok,-kN.pO,VT,hC]) (by simp [-qN,-oD,-sI,-pG,-uG,-qM,-kN.ok,-kN.pO,HJ,HG,HH,OD,OE]) he rfl (fun _=>by simp [-qN,-oD,-sI,-pG,-uG,-qM,-kN.ok,-kN.pO,P1,PZ,P0,VP,VQ,hv1,hv2,HJ,HG,HH,OD,OE])
end
end
noncomputable section
open Go Hk
def m39 (K:kT) (a0 a1:kN) (h0:kO):OH :=
 (kW (lR 4 h0 a1) fun t0 h1=>fq 0 t0 h1 fun t3=>(lF .eql t3 (2:Int)).bind fun t4=>(kV t4 ((kQ 2 t0).bind fun t5=>(kY false 1 h1 t5).bind fun t6=>fq 2 t0 h1 fun t8=>(lM a0).bind fun t9=>(kQ 8 t9).bind fun t10=>(kQ 0 t10).bind fun aQ=>(lQ 15 1 aQ t8).bind fun aR=>(kY false 1 h1 aR).bind fun t13=>fq 3 t0 h1 fun t15=>(lM a0).bind fun t16=>(kQ 8 t16).bind fun t17=>(kQ 0 t17).bind fun t18=>yG K 55 t13 t15 (oR (lA [0] [t5]) h1) fun aS aD=>(lQ 15 1 t18 t6).bind fun aT=>(kR 1 (lO (lA [0] [t5]) h1 aD) aT aS).bind fun aE=>kZ (aa5 h1) .normal ([]:List kN) aE) ((lF .eql t3 (3:Int)).bind fun aU=>(kV aU ((lM a0).bind fun t24=>(kQ 8 t24).bind fun aA=>fq 3 t0 h1 fun t27=>(lF .eql t27 zO).bind fun aV=>(kV aV ((lM aA).bind fun t29=>fq 16 t29 h1 fun t31=>(vN .not t31).bind fun t32=>(lM aA).bind fun t33=>(kQ 16 t33).bind fun aW=>(kR 1 h1 aW t32).bind fun aF=>kZ (aa5 h1) .normal ([]:List kN) aF) ((lF .eql t27 (1:Int)).bind fun t36=>(kV t36 ((lM aA).bind fun aX=>fq 17 aX h1 fun aY=>(vN .not aY).bind fun aZ=>(lM aA).bind fun a_=>(kQ 17 a_).bind fun t42=>(kR 1 h1 t42 aZ).bind fun aG=>kZ (aa5 h1) .normal ([]:List kN) aG) ((lF .eql t27 (2:Int)).bind fun bA=>(kV bA ((lM aA).bind fun t45=>fq 18 t45 h1 fun bB=>(vN .not bB).bind fun t48=>(lM aA).bind fun t49=>(kQ 18 t49).bind fun bD=>(kR 1 h1 bD t48).bind fun aH=>kZ (aa5 h1) .normal ([]:List kN) aH) ((lF .eql t27 (3:Int)).bind fun t52=>(kV t52 ((lM aA).bind fun t53=>fq 19 t53 h1 fun t55=>(vN .not t55).bind fun bE=>(lM aA).bind fun t57=>(kQ 19 t57).bind fun bF=>(kR 1 h1 bF bE).bind fun aI=>kZ (aa5 h1) .normal ([]:List kN) aI) (kZ (aa5 h1) .normal ([]:List kN) h1)).bind fun aB=>(fun aJ=>Ex.pR aB.1 (kZ (aa5 h1) .normal ([]:List kN) aJ))  aB.2.2)).bind fun F0=>(fun aK=>Ex.pR F0.1 (kZ (aa5 h1) .normal ([]:List kN) aK))  F0.2.2)).bind fun Og=>(fun aL=>Ex.pR Og.1 (kZ (aa5 h1) .normal ([]:List kN) aL))  Og.2.2)).bind fun Xd=>(fun aM=>Ex.pR Xd.1 (kZ (aa5 h1) .normal ([]:List kN) aM))  Xd.2.2) (kZ (aa5 h1) .normal ([]:List kN) h1)).bind fun JT=>(fun aN=>Ex.pR JT.1 (kZ (aa5 h1) .normal ([]:List kN) aN))  JT.2.2)).bind fun aC=>(fun aO=>Ex.pR aC.1 (some (.normal,([]:List kN),aO)))  aC.2.2).bind fun PE=>(fun aP=>Ex.oH PE.1 (oM (aa5 h0) (.tuple []) aP))  PE.2.2
theorem aj4 K a0 a1 h0:nN K 39 [a0,a1] h0=m39 (lG mJ K) a0 a1 h0:=by kernel_rfl
end
section
open Go Hk
theorem Gu {i o:Nat}:(kN.ptr i o).lS=true:=rfl
theorem PL {hd:Hd}{f:List UInt8}{s:St}{dn:Bool}{kn:Nat→Bool}{n:Nat}{rl:List mZ}{L I O R:Nat}{M:List UInt8}:AT 0 hd f s dn kn n rl L I O R M=MH hd f s dn kn n rl L I O R M:=rfl
section
variable {hd:Hd}{f:List UInt8}{p:kN}{s s':St}{dn:Bool}{c:kN}{m:Nat}{h:kO}
@[simp] theorem aAo:(MC hd f p s dn c).length=30:=(rfl)
@[simp] theorem aE6 {hh:1<(MC hd f p s dn c).length}:(MC hd f p s dn c)[1]'hh=.int .i64 hd.handler:=(rfl)
@[simp] theorem aFa {hh:6<(MC hd f p s dn c).length}:(MC hd f p s dn c)[6]'hh=.str f:=(rfl)
@[simp] theorem aFb {hh:7<(MC hd f p s dn c).length}:(MC hd f p s dn c)[7]'hh=p:=(rfl)
@[simp] theorem aBE {hh:23<(MC hd f p s dn c).length}:(MC hd f p s dn c)[23]'hh=.int .i64 s.pc:=(rfl)
@[simp] theorem aBF {hh:28<(MC hd f p s dn c).length}:(MC hd f p s dn c)[28]'hh=.bool dn:=(rfl)
@[simp] theorem aBG {hh:29<(MC hd f p s dn c).length}:(MC hd f p s dn c)[29]'hh=c:=(rfl)
@[simp] theorem aFc:((MC hd f p s dn c).drop 8).take 20=Sc s:=(rfl)
theorem ar5 {x:Int}:kU (MC hd f p s dn c) 23 [.int .i64 x]=MC hd f p { s with pc:=x } dn c:=(rfl)
theorem PK:kU (MC hd f p s dn c) 8 (Sc s')=MC hd f p s' dn c:=(rfl)
theorem Vp {b:Bool}:kU (MC hd f p s dn c) 28 [.bool b]=MC hd f p s b c:=(rfl)
theorem rL {k:IntKind}{x:Int}{l:List kN}:nQ h l [.int k x]=[.int k x]:=sA _ _ (by simp [kN.isNil])
theorem sB {x:Bool}{l:List kN}:nQ h l [.bool x]=[.bool x]:=sA _ _ (by simp [kN.isNil])
theorem rK {l:List kN}:nQ h l (Sc s)=Sc s:=sA _ _ (by simp [Sc,kN.isNil])
theorem oO {n i j:Nat}(hi:i<m) (hj:j<m):mI m h (MC hd f (.ptr i 0) s dn (.vslice j n 0 n 11))=some (MC hd f (.ptr i 0) s dn (.vslice j n 0 n 11)):=by
 simp [MC,Sc,nJ hi,lT hj,Gu]
theorem oP {kn:Nat→Bool}{n:Nat}:mI m h (Ba f kn n)=some (Ba f kn n):=Vi Zk n
end
section
variable {hd:Hd}{f:List UInt8}{s:St}{dn:Bool}{kn:Nat→Bool}{n:Nat}{rl:List mZ}{L I O R:Nat}{M:List UInt8}
theorem ahL:C8 Tryz.prog mJ nP (Ag Tryz.prog mJ) 37 [.ptr 0 0] (AT 0 hd f s dn kn n rl L I O R M)=some (.ret (.bool dn),AT 0 hd f s dn kn n rl L I O R M):=by
 refine(aj2 ..).trans ?_
 rw [PL]
 unfold MH
 generalize mB L I O R=tt at *
 have sv:=fun m (hm:4<m) h=>sK (id:=4) (tot:=tt) (m:=m) (h:=h) hm (l:=oY L I O R)
 simp -implicitDefEqProofs [m37,np0,oO,oP,mG,sv,lT]
theorem ahM:C8 Tryz.prog mJ nP (Ag Tryz.prog mJ) 39 [.ptr 0 0,.agg [.int .i64 0,.int .i64 0,.int .i64 0,.int .i64 0]] (AT 0 hd f s dn kn n rl L I O R M)=some (.ret (.tuple []),AT 0 hd f s dn kn n rl L I O R M):=by
 refine(aj4 ..).trans ?_
 rw [PL]
 unfold MH
 generalize mB L I O R=tt at *
 have sv:=fun m (hm:4<m) h=>sK (id:=4) (tot:=tt) (m:=m) (h:=h) hm (l:=oY L I O R)
 simp -implicitDefEqProofs [m39,np0,oO,oP,mG,sv,lT]
end
end
section
open Go Hk
def E6 (pc:Int):kO:=[.cells [.ptr 0 0],.cells [.int .i64 0,.int .i64 0,.int .i64 0,.int .i64 0],.cells [.int .i64 0,.int .i64 0,.int .i64 0,.int .i64 0],.cells [.bool false],.cells [.int .i64 0,.int .i64 0,.int .i64 0,.int .i64 0],.cells [.int .i64 0,.int .i64 pc,.int .i64 0,.int .i64 0]]
theorem k79 (s:List UInt8) (h:kO):KK 79 [.str s] h=some (.ret (.tuple [.agg [.int .i64 (mY s).1.op,.int .i64 (mY s).1.rd,.int .i64 (mY s).1.rn,.int .i64 (mY s).1.rm,.int .i64 (mY s).1.ra,.int .i64 (mY s).1.imm,.int .i64 (mY s).1.cond,.bool (mY s).1.wide],.int .i64 (mY s).2.1,.int .i64 (mY s).2.2]),h):=c79 s h
section
variable {m:Nat}{h:kO}
@[simp] theorem asS {t:Nat}{w:kN}{kp:kN→kO→Option R}:Aj (.iface t w) h kp=kp (.iface t w) h:=(rfl)
@[simp] theorem aCn {v:kN}:OO m v h=(vT m h).map fun h'=>(.pan (v.vS m h).kP,h'):=(rfl)
@[simp] theorem aEk {x:Int}:kN.vS m h (.iface 103 (.agg [.int .i64 x]))=.iface 103 (.agg [.int .i64 x]):=(rfl)
theorem Nh {n o:Nat}(hm:2<m):kN.vS m h (.vptr 2 n o)=.vptr 2 n o:=by simp [kN.vS,kN.oW,kN.rI,kN.sC,tS,hm]
@[simp] theorem aAc {x:Int}:kN.kP (.iface 103 (.agg [.int .i64 x]))=.iface 103 (.agg [.int .i64 x]):=(rfl)
end
section
variable {hd:Hd}{f:List UInt8}{s:St}{dn:Bool}{kn:Nat→Bool}{n:Nat}{rl:List mZ}{L I O R:Nat}{M:List UInt8}
theorem KA (p:Int):rC .i64 p 1=p%2:=by rw [show(1:Int)=((2^1-1:Nat):Int) from rfl,uC p 1 (by decide)];rfl
theorem Ze (hb:s.pc%2≠0∨(f.length:Int)≤s.pc):KK 56 [.ptr 0 0] (MH hd f s dn kn n rl L I O R M++E6 s.pc)=some (.pan (.iface 103 (.agg [.int .i64 0])),MH hd f s dn kn n rl L I O R M++E6 s.pc):=by
 refine Dm rfl rfl (WA ..) ?_
 unfold MH E6
 generalize mB L I O R=tt at *
 have sv:=fun m (hm:4<m) h=>sK (id:=4) (tot:=tt) (m:=m) (h:=h) hm (l:=oY L I O R)
 by_cases h2:s.pc%2=0
 ·have h3:(f.length:Int)≤s.pc:=by omega
  simp -implicitDefEqProofs [m56,KA,h2,h3,oO,oP,mG,sv,lT,nJ,Gu]
 ·simp -implicitDefEqProofs [m56,KA,h2,oO,oP,mG,sv,lT,nJ,Gu]
theorem aeE {i:Nat}(h:kn i=true):HM f kn i=enD (f.drop (2*i)):=by unfold HM;rw [if_pos h]
theorem atF {i:Nat}(h:kn i=false):HM f kn i=en0:=by unfold HM;rw [h];rfl
theorem P7 {i j:Nat}(hi:i<n) (hj:j<11):(Ba f kn n)[i*11+j]?=(HM f kn i)[j]?:=by
 rw [Nat.mul_comm];exact Vg Gv hj hi
theorem V3:(Ba f kn n).length=11*n:=G7 Gv n
theorem ahZ {i:Nat}(hi:i<n):((Ba f kn n).drop (i*11)).take 8=(HM f kn i).take 8:=by
 have:=Vf (F:=HM f kn) Gv hi
 rw [Nat.mul_comm,←this,List.take_take];rfl
theorem ah0 {i:Nat}(hi:i<n):kU (Ba f kn n) (i*11) (enD (f.drop (2*i)))=Ba f (fun k=>if k=i then true else kn k) n:=by
 unfold Ba
 rw [Nat.mul_comm,Vh Gv rfl hi]
 congr 1
 funext k
 unfold HM
 by_cases h:k=i
 ·subst h;simp
 ·simp [h]
theorem c56 {i:Nat}(hp:s.pc=((2*i:Nat):Int)) (hl:2*i<f.length) (hn:i<n) (hf:f.length<1000000):KK 56 [.ptr 0 0] (MH hd f s dn kn n rl L I O R M++E6 s.pc) =
  some (if (mY (f.drop (2*i))).2.2=0 then .ret (.tuple [.agg (mY (f.drop (2*i))).1.cells,.int .i64 (mY (f.drop (2*i))).2.1]) else .pan (.iface 103 (.agg [.int .i64 0])),MH hd f s dn (fun k=>if k=i then true else kn k) n rl L I O R M++E6 s.pc):=by
 refine Dm rfl rfl (WA ..) ?_
 have h1:s.pc%2=0:=by omega
 have h2:¬(f.length:Int)≤s.pc:=by omega
 have tq:A0 .i64 s.pc 2=some ((i:Nat):Int):=by rw [uR (by omega) (by decide),lP _ (by omega) (by omega)];congr 1;omega
 have ix:mD 11 (.vslice 2 n 0 n 11) (.int .i64 ((i:Nat):Int))=some (.vptr 2 n (i*11)):=by
  simp only [mD];rw [if_pos ⟨by omega,by omega,by trivial⟩];simp
 have sl:nT (.str f) (some (.int .i64 s.pc)) none=some (.str (f.drop (2*i))):=by
  rw [hp]
  simp only [nT,pU,if_pos (Int.natCast_nonneg _),Jh]
  rw [if_pos ⟨by omega,by omega⟩,List.take_of_length_le (by simp)]
 have st:=ah0 (f:=f) (kn:=kn) hn
 have g9:=P7 (f:=f) (kn:=kn) hn (j:=9) (by decide)
 have k1:(fun k=>if k=i then true else kn k) i=true:=by simp
 have ln:=V3 (f:=f) (kn:=kn) (n:=n)
 have ln':=V3 (f:=f) (kn:=fun k=>if k=i then true else kn k) (n:=n)
 have g8':=P7 (f:=f) (kn:=fun k=>if k=i then true else kn k) hn (j:=8) (by decide)
 have g10':=P7 (f:=f) (kn:=fun k=>if k=i then true else kn k) hn (j:=10) (by decide)
 have gi':=ahZ (f:=f) (kn:=fun k=>if k=i then true else kn k) hn
 rw [aeE k1] at g8' g10' gi'
 have same:kn i=true→(fun k=>if k=i then true else kn k)=kn:=fun h=>by
  funext k
  by_cases hk:k=i
  ·rw [if_pos hk,hk,h]
  ·rw [if_neg hk]
 have b1:i*11+8≤11*n:=by omega
 have b2:i*11+11≤11*n:=by omega
 generalize hD:f.drop (2*i)=D at *
 generalize hk':(fun k=>if k=i then true else kn k)=kn' at *
 have e8:(enD D)[8]?=some (.int .i64 (mY D).2.1):=rfl
 have e10:(enD D)[10]?=some (.bool (!decide ((mY D).2.2=0))):=rfl
 have ei:(enD D).take 8=[.int .i64 (mY D).1.op,.int .i64 (mY D).1.rd,.int .i64 (mY D).1.rn,.int .i64 (mY D).1.rm,.int .i64 (mY D).1.ra,.int .i64 (mY D).1.imm,.int .i64 (mY D).1.cond,.bool (mY D).1.wide]:=rfl
 rw [e8] at g8'
 rw [e10] at g10'
 rw [ei] at gi'
 have k79:=fun h=>k79 D h
 unfold enD at st
 unfold MH E6
 generalize mB L I O R=tt at *
 have sv:=fun m (hm:4<m) h=>sK (id:=4) (tot:=tt) (m:=m) (h:=h) hm (l:=oY L I O R)
 generalize mY D=d at *
 obtain⟨ins,sz,er⟩:=d
 dsimp only at *
 cases hki:kn i with
 | false =>
  rw [atF hki] at g9
  have e9:en0[9]?=some (.bool false):=rfl
  rw [e9] at g9
  by_cases he:er=0
  ·subst he
   simp only [decide_true,Bool.not_true] at st g10'
   simp -implicitDefEqProofs [m56,KA,h1,h2,tq,ix,g9,g8',g10',gi',ln,ln',b1,b2,sl,k79,st,oO,oP,mG,sv,lT,nJ,Gu,-oT,-pH,-rU,-tZ,-kU,lU,lV,Nh]
  ·rw [mT he,Bool.not_false] at st g10'
   simp -implicitDefEqProofs [m56,KA,h1,h2,tq,ix,g9,g8',g10',gi',ln,ln',b1,b2,sl,k79,st,he,oO,oP,mG,sv,lT,nJ,Gu,-oT,-pH,-rU,-tZ,-kU,lU,lV,Nh]
 | true =>
  have sm:=same hki
  subst sm
  rw [aeE hki,hD] at g9
  have e9:(enD D)[9]?=some (.bool true):=rfl
  rw [e9] at g9
  by_cases he:er=0
  ·subst he
   simp only [decide_true,Bool.not_true] at g10'
   simp -implicitDefEqProofs [m56,KA,h1,h2,tq,ix,g9,g8',g10',gi',ln',b1,b2,oO,oP,mG,sv,lT,nJ,Gu,-oT,-pH,-rU,-tZ,-kU,lU,lV,Nh]
  ·rw [mT he,Bool.not_false] at g10'
   simp -implicitDefEqProofs [m56,KA,h1,h2,tq,ix,g9,g8',g10',gi',ln',b1,b2,he,oO,oP,mG,sv,lT,nJ,Gu,-oT,-pH,-rU,-tZ,-kU,lU,lV,Nh]
end
end
section
open Go Hk
def Hq (L I O R:Nat) (M:List UInt8) (a:Acc):Option (Int×List UInt8) :=
 if a.write=true then(match Kt L I O R true a.addr a.size with | some p=>some (0,Bv M p ((wB a.value).take a.size.toNat)) | none=>none)
 else(match Kt L I O R false a.addr a.size with | some p=>some (Wl M p a.size,M) | none=>none)
@[simp] theorem ayV {m:Nat}{h:kO}:pW m h .gone=some .gone:=(rfl)
def E8 (pc:Int) (i:lL):kO:=E6 pc++[.cells i.cells,.gone]
section
variable {hd:Hd}{f:List UInt8}{s:St}{dn:Bool}{kn:Nat→Bool}{n:Nat}{L I O R:Nat}(hL:L≤262144) (hI:I≤65536) (hO:O≤65536) (hR:R≤65536) {M:List UInt8}(hM:M.length=mB L I O R) {a:Acc}(a0:0≤a.addr) (a1:a.addr<4294967296) (hn:a.size=1∨a.size=4) {pc:Int}{i:lL}
include hL hI hO hR hM a0 a1 hn
theorem c59:KK 59 [.ptr 0 0,.agg a.cells] (MH hd f s dn kn n (pZ (nO I O R) L) L I O R M++E8 pc i) =
  some (match Hq L I O R M a with | some r=>.ret (.int .i64 r.1) | none=>.pan (.iface 103 (.agg [.int .i64 a.addr])),MH hd f s dn kn n (pZ (nO I O R) L) L I O R (match Hq L I O R M a with | some r=>r.2 | none=>M)++E8 pc i):=by
 refine Dm rfl rfl (akM ..) ?_
 have cl:=c83 hL hI hO hR M hM a0 a1 hn
 have cs:=c82 hL hI hO hR M hM a0 a1 hn a.value
 have kl:=fun l=>Xw (hd:=hd) (f:=f) (s:=s) (dn:=dn) (kn:=kn) (n:=n) (fn:=83) (ar:=[.int .i64 a.addr,.int .i64 a.size]) rfl rfl rfl (fun p=>rfl) (fun F=>rfl) (by intro p;split <;> rfl) (by intro F;split <;> rfl) cl l
 have ks:=fun l=>Xw (hd:=hd) (f:=f) (s:=s) (dn:=dn) (kn:=kn) (n:=n) (fn:=82) (ar:=[.int .i64 a.addr,.int .i64 a.size,.int .i64 a.value]) rfl rfl rfl (fun p=>rfl) (fun F=>rfl) (by intro p;split <;> rfl) (by intro F;split <;> rfl) cs l
 unfold MH at kl ks ⊢
 unfold E8 E6
 generalize pZ (nO I O R) L=rl at *
 unfold Hq
 generalize mB L I O R=tt at *
 have sv:=fun m (hm:4<m) h=>sK (id:=4) (tot:=tt) (m:=m) (h:=h) hm (l:=oY L I O R)
 obtain⟨ad,sz,vl,wr⟩:=a
 dsimp only at *
 cases wr with
 | true =>
  rw [if_pos rfl]
  cases hp:Kt L I O R true ad sz with
  | some p =>
   rw [hp] at ks
   simp only [aq6,ar0] at ks
   simp -implicitDefEqProofs [m59,ks,oO,oP,mG,sv,lT,nJ,Gu,-oT,-pH,-rU,-tZ]
  | none =>
   rw [hp] at ks
   simp only [aq6,ar0] at ks
   simp -implicitDefEqProofs [m59,ks,oO,oP,mG,sv,lT,nJ,Gu,-oT,-pH,-rU,-tZ]
 | false =>
  rw [if_neg (by simp)]
  cases hp:Kt L I O R false ad sz with
  | some p =>
   rw [hp] at kl
   simp only [aq6,ar0] at kl
   simp -implicitDefEqProofs [m59,kl,oO,oP,mG,sv,lT,nJ,Gu,-oT,-pH,-rU,-tZ]
  | none =>
   rw [hp] at kl
   simp only [aq6,ar0] at kl
   simp -implicitDefEqProofs [m59,kl,oO,oP,mG,sv,lT,nJ,Gu,-oT,-pH,-rU,-tZ]
end
end
section
open Go Hk
def FK (b:Nat):UInt8:=UInt8.ofNat (48+b)
def tJ (n:Nat):Nat→List UInt8
 | 0=>[]
 | j+1=>FK (n/2^j%2)::tJ n j
theorem B7 (n:Nat):∀j,(tJ n j).length=j
 | 0=>rfl
 | j+1=>by rw [tJ,List.length_cons,B7 n j]
theorem ac7 {b:Nat}(hb:b<2):tby [IntKind.u8.wrap (IntKind.i64.wrap (48+(b:Int)))]=[FK b]:=by
 match b,hb with
 | 0,_=>rfl
 | 1,_=>rfl
theorem azZ (n:Nat) (hn:n<65536):t89 (n:Int)=some (tJ n 16):=by
 have key:∀d j:Nat,j+d=16→rX CY (((n/2^j:Nat):Int),tJ n j,(j:Int))=some (.x 0,((n/2^16:Nat):Int),tJ n 16,16):=by
  intro d
  induction d with
  | zero =>
   intro j hj
   obtain rfl:j=16:=by omega
   refine mV ?_ (by simp)
   simp [CY]
  | succ d ih =>
   intro j hj
   have h1:((j:Int)<16):=by omega
   have e2:n/2^(j+1)=n/2^j/2:=by rw [Nat.pow_succ,Nat.div_div_eq_div_mul]
   have hle:=Nat.div_le_self n (2^j)
   have hb:n/2^j%2<2:=aq2 _ (by decide)
   have hl:=B7 n j
   rw [←ih (j+1) (by omega)]
   refine oB ?_
   simp only [CY,h1,decide_true,lD]
   rw [e2,tJ]
   generalize n/2^j=q at *
   rw [pE (Int.natCast_nonneg _) (by decide),kS,show((q:Int)%2)=((q%2:Nat):Int) from by omega,ac7 hb]
   have ec:C0 [FK (q%2)] (tJ n j)=some (FK (q%2)::tJ n j):=by unfold C0;rw [if_pos (by simp [hl];omega)];rfl
   rw [ec,kS,uR (Int.natCast_nonneg _) (by decide),kS,lP _ (by omega) (by omega),lP _ (by omega) (by omega)]
   simp
 have h:=key 16 0 (by omega)
 unfold t89
 rw [show n/2^0=n from by simp,show tJ n 0=[] from rfl,show((0:Nat):Int)=0 from rfl] at h
 rw [h]
 simp [uL,vO]
theorem XP (s:List UInt8) (n:Nat) (hn:n<1000) (hl:2*n+2≤s.length):t64 s (n:Int)=some (tJ (wS s n) 16):=by
 have e1:IntKind.i64.wrap (2*(n:Int))=((2*n:Nat):Int):=by rw [lP _ (by omega) (by omega)];omega
 have e2:IntKind.i64.wrap (((2*n:Nat):Int)+1)=((2*n+1:Nat):Int):=by rw [lP _ (by omega) (by omega)];omega
 have h1:=(s.getD (2*n) 0).toNat_lt
 have h2:=(s.getD (2*n+1) 0).toNat_lt
 have hlt:=zD s n
 have e5:IntKind.i64.wrap (IntKind.i64.wrap (((s.getD (2*n) 0).toNat:Nat):Int)+IntKind.i64.wrap (256*IntKind.i64.wrap (((s.getD (2*n+1) 0).toNat:Nat):Int)))=((wS s n:Nat):Int):=by
  unfold wS
  generalize (s.getD (2*n) 0).toNat=a at *
  generalize (s.getD (2*n+1) 0).toNat=b at *
  rw [lP (a:Int) (by omega) (by omega),lP (b:Int) (by omega) (by omega),lP (256*(b:Int)) (by omega) (by omega),lP _ (by omega) (by omega)]
  omega
 unfold t64
 rw [e1,yD s _ (by omega),kS,e2,yD s _ (by omega),kS,e5,azZ _ hlt];rfl
theorem Bb {a b:Nat}(ha:a<2) (hb:b<2):FK a=FK b↔a=b:=by
 match a,b,ha,hb with
 | 0,0,_,_=>simp
 | 0,1,_,_=>simp [FK]
 | 1,0,_,_=>simp [FK]
 | 1,1,_,_=>simp
theorem aCa:(48:UInt8)=FK 0:=rfl
theorem aCb:(49:UInt8)=FK 1:=rfl
theorem azW (s:List UInt8):t63 s=some (Xx s):=by
 unfold t63 Xx
 by_cases h2:s.length<2
 ·rw [if_pos h2,decide_eq_true (by omega)];rfl
 ·rw [if_neg h2,decide_eq_false (by omega),kX,show(0:Int)=((0:Nat):Int) from rfl,XP s 0 (by decide) (by omega),kS]
  have hlt:=zD s 0
  generalize wS s 0=w at *
  have e:zP (tJ w 16) none (some 5)=some [FK (w/32768%2),FK (w/16384%2),FK (w/8192%2),FK (w/4096%2),FK (w/2048%2)]:=by
   simp [zP,JZ,tJ]
  rw [e,kS]
  have b4:w/32768%2<2:=by omega
  have b3:w/16384%2<2:=by omega
  have b2:w/8192%2<2:=by omega
  have b1:w/4096%2<2:=by omega
  have b0:w/2048%2<2:=by omega
  have i0:(0:Nat)<2:=by decide
  have i1:(1:Nat)<2:=by decide
  simp only [aCa,aCb,List.cons.injEq,and_true,Bb b4 i1,Bb b3 i1,Bb b2 i1,Bb b1 i1,Bb b0 i1,Bb b1 i0,Bb b0 i0,Bb b2 i0,IE,IF,Jd]
  by_cases h3:29≤w/2048
  ·rw [if_pos h3]
   have:w/2048=29∨w/2048=30∨w/2048=31:=by omega
   rcases this with h | h | h
   ·rw [if_pos (by omega)];rfl
   ·rw [if_neg (by omega),if_pos (by omega)];rfl
   ·rw [if_neg (by omega),if_neg (by omega),if_pos (by omega)]
  ·rw [if_neg h3,if_neg (by omega),if_neg (by omega),if_neg (by omega)]
end
section
open Go Hk
structure RS where
 x:Int
 y:Int
 t:Int
 i:lL
 w:Int
def CL (c:Nat) (b:Int) (i:lL):lL :=
 if c=100 then { i with rd:=2*i.rd+b } else if c=110 then { i with rn:=2*i.rn+b } else if c=109 then { i with rm:=2*i.rm+b } else if c=97 then { i with ra:=2*i.ra+b }
 else if c=99 then { i with cond:=2*i.cond+b } else if c=119∨c=120∨c=121∨c=48∨c=49 then i else { i with imm:=i.imm+b*((2^(c-65):Nat):Int) }
def Ci (c:Nat) (b:Int) (s:RS):RS :=
 ⟨if c=120 then b else s.x,if c=121 then b else s.y,if c=89 then b else s.t,CL c b s.i,if c=119 then 2*s.w+b else s.w⟩
def Bq (c:Nat):Bool:=c == 48 || c == 49 || c == 97 || c == 99 || c == 100 || c == 109 || c == 110 || c == 119 || c == 120 || c == 121 || (decide (65≤c)&&decide (c≤89))
def rW:List UInt8→List Nat→Bool
 | c::p,b::bs=>(!(c.toNat == 48 || c.toNat == 49) || c.toNat == 48+b)&&rW p bs
 | _,_=>true
def nA:List UInt8→List Nat→RS→RS
 | c::p,b::bs,s=>nA p bs (Ci c.toNat (b:Int) s)
 | _,_,s=>s
def Ug (m:Int) (s:RS):Prop:=0≤s.i.rd∧s.i.rd≤m∧0≤s.i.rn∧s.i.rn≤m∧0≤s.i.rm∧s.i.rm≤m∧0≤s.i.ra∧s.i.ra≤m∧0≤s.i.cond∧s.i.cond≤m∧0≤s.w∧s.w≤m∧0≤s.i.imm∧s.i.imm≤m
theorem XT (n:Nat) (hn:n≤61):t93 (n:Int)=some ((2^n:Nat):Int):=Po n hn
theorem w2b {m a b:Int}(hm:m≤4611686018427387904) (h0:0≤a) (h1:a≤m/2) (hb0:0≤b) (hb1:b≤1):IntKind.i64.wrap (IntKind.i64.wrap (2*a)+b)=2*a+b:=by
 rw [lP (2*a) (by omega) (by omega),lP _ (by omega) (by omega)]
theorem apF (s:RS) (c:Nat) (hc:Bq c=true) (b:Int) (hb0:0≤b) (hb1:b≤1) (h:Ug 1152921504606846976 s) :
  t91 s.i.op s.i.rd s.i.rn s.i.rm s.i.ra s.i.imm s.i.cond s.i.wide (c:Int) b s.w=some (CL c b s.i,if c=119 then 2*s.w+b else s.w):=by
 obtain⟨h1,h2,h3,h4,h5,h6,h7,h8,h9,h10,h11,h12,h13,h14⟩:=h
 have hm:(2305843009213693952:Int)≤4611686018427387904:=by decide
 have key:∀k:Nat,((c:Int)=(k:Int))=(c=k):=fun k=>propext Int.ofNat_inj
 have k100:((c:Int)=100)=(c=100):=key 100
 have aiV:((c:Int)=110)=(c=110):=key 110
 have k109:((c:Int)=109)=(c=109):=key 109
 have k97:((c:Int)=97)=(c=97):=key 97
 have k99:((c:Int)=99)=(c=99):=key 99
 have k119:((c:Int)=119)=(c=119):=key 119
 have k120:((c:Int)=120)=(c=120):=key 120
 have k121:((c:Int)=121)=(c=121):=key 121
 have k48:((c:Int)=48)=(c=48):=key 48
 have k49:((c:Int)=49)=(c=49):=key 49
 unfold t91 NK NL NM NN NO NP NQ NR NS NT CL
 simp only [k100,aiV,k109,k97,k99,k119,k120,k121,k48,k49]
 by_cases c1:c=100
 ·subst c1;simp [w2b hm h1 (by omega) hb0 hb1]
 by_cases c2:c=110
 ·subst c2;simp [w2b hm h3 (by omega) hb0 hb1]
 by_cases c3:c=109
 ·subst c3;simp [w2b hm h5 (by omega) hb0 hb1]
 by_cases c4:c=97
 ·subst c4;simp [w2b hm h7 (by omega) hb0 hb1]
 by_cases c5:c=99
 ·subst c5;simp [w2b hm h9 (by omega) hb0 hb1]
 by_cases c6:c=119
 ·subst c6;simp [w2b hm h11 (by omega) hb0 hb1]
 by_cases c7:c=120
 ·subst c7;simp
 by_cases c8:c=121
 ·subst c8;simp
 by_cases c9:c=48
 ·subst c9;simp
 by_cases c10:c=49
 ·subst c10;simp
 have hr:65≤c∧c≤89:=by
  unfold Bq at hc
  simp only [Bool.or_eq_true,ae7,beq_iff_eq,decide_eq_true_eq] at hc
  omega
 have e1:IntKind.i64.wrap (IntKind.u8.wrap ((c:Int)-65))=((c-65:Nat):Int):=by rw [Tl,lP _ (by omega) (by omega)];omega
 have hp:2^(c-65)≤16777216:=by
  have:2^(c-65)≤2^24:=al2 (by decide) (by omega)
  simpa using this
 have e2:=XT (c-65) (by omega)
 generalize 2^(c-65)=q at hp e2 ⊢
 have e3:IntKind.i64.wrap (s.i.imm+IntKind.i64.wrap (b*(q:Int)))=s.i.imm+b*(q:Int):=by
  have hbb:b=0∨b=1:=by omega
  rcases hbb with rfl | rfl
  ·rw [Int.zero_mul,lP 0 (by decide) (by decide),lP _ (by omega) (by omega)]
  ·rw [Int.one_mul,lP (q:Int) (by omega) (by omega),lP _ (by omega) (by omega)]
 simp [c1,c2,c3,c4,c5,c6,c7,c8,c9,c10,e1,e2,e3]
end
section
open Go Hk
def Yf (s:RS) (k:Int):Int×Int×Int×Int×lL×Int:=(s.x,s.y,s.t,k,s.i,s.w)
theorem af9 {m:Int}{s:RS}{c:Nat}{b:Int}(hm:16777216≤m) (hc:Bq c=true) (hb0:0≤b) (hb1:b≤1) (h:Ug m s):Ug (2*m+1) (Ci c b s):=by
 obtain⟨h1,h2,h3,h4,h5,h6,h7,h8,h9,h10,h11,h12,h13,h14⟩:=h
 unfold Ug Ci CL
 by_cases c1:c=100
 ·subst c1;simp;omega
 by_cases c2:c=110
 ·subst c2;simp;omega
 by_cases c3:c=109
 ·subst c3;simp;omega
 by_cases c4:c=97
 ·subst c4;simp;omega
 by_cases c5:c=99
 ·subst c5;simp;omega
 by_cases c6:c=119
 ·subst c6;simp;omega
 by_cases c7:c=120
 ·subst c7;simp;omega
 by_cases c8:c=121
 ·subst c8;simp;omega
 by_cases c9:c=48
 ·subst c9;simp;omega
 by_cases c10:c=49
 ·subst c10;simp;omega
 have hr:65≤c∧c≤89:=by
  unfold Bq at hc
  simp only [Bool.or_eq_true,ae7,beq_iff_eq,decide_eq_true_eq] at hc
  omega
 have hp:2^(c-65)≤16777216:=by
  have:2^(c-65)≤2^24:=al2 (by decide) (by omega)
  simpa using this
 generalize 2^(c-65)=q at hp ⊢
 have hbb:b=0∨b=1:=by omega
 rcases hbb with rfl | rfl
 ·simp [c1,c2,c3,c4,c5,c6,c7,c8,c9,c10];omega
 ·simp [c1,c2,c3,c4,c5,c6,c7,c8,c9,c10];omega
theorem Zh {b:Nat}(hb:b<2):(FK b).toNat=48+b:=by
 match b,hb with
 | 0,_=>rfl
 | 1,_=>rfl
theorem Wk (p:List UInt8) (bs:List Nat) (hl:p.length=bs.length) (hp:p.length≤32) (k:Nat) (hk:k<p.length) (hc:Bq p[k].toNat=true) (hb:bs[k]<2) (s:RS) (h:Ug 1152921504606846976 s) :
  AI (bs.map FK) p (Yf s k)=if (!(p[k].toNat == 48 || p[k].toNat == 49) || p[k].toNat == 48+bs[k]) then some (.n,Yf (Ci p[k].toNat (bs[k]:Int) s) ((k+1:Nat):Int)) else some (.r,Yf s k):=by
 have h1:((k:Int)<((p.length:Nat):Int)):=by omega
 have hkb:k<bs.length:=by omega
 have ht1:uU p (k:Int)=some ((p[k].toNat:Nat):Int):=by rw [yD p k hk];simp [hk]
 have ht2:uU (bs.map FK) (k:Int)=some ((48+bs[k]:Nat):Int):=by
  rw [yD _ k (by simpa using hkb)]
  simp [hkb,Zh hb]
 have e1:IntKind.i64.wrap (IntKind.u8.wrap (((48+bs[k]:Nat):Int)-48))=((bs[k]:Nat):Int):=by rw [Tl,lP _ (by omega) (by omega)];omega
 have e2:IntKind.i64.wrap ((k:Int)+1)=((k+1:Nat):Int):=by rw [lP _ (by omega) (by omega)];omega
 have e3:=apF s p[k].toNat hc (bs[k]:Int) (by omega) (by omega) h
 generalize p[k].toNat=c at *
 generalize bs[k]=b at *
 have key:∀q:Nat,((c:Int)=(q:Int))=(c=q):=fun q=>propext Int.ofNat_inj
 have k120:((c:Int)=120)=(c=120):=key 120
 have k121:((c:Int)=121)=(c=121):=key 121
 have k89:((c:Int)=89)=(c=89):=key 89
 have k48:((c:Int)=48)=(c=48):=key 48
 have k49:((c:Int)=49)=(c=49):=key 49
 have kb:((c:Int)=((48+b:Nat):Int))=(c=48+b):=key (48+b)
 simp only [AI,Yf,h1,decide_true,lD,ht1,ht2,kS,e1,IG,IH,NH,NI,NJ,k120,k121,k89,k48,k49,kb,e2,e3]
 unfold Ci
 by_cases c1:c=48
 ·subst c1
  by_cases c2:(48:Nat)=48+b
  ·simp [←c2]
  ·have c3:¬b=0:=by omega
   simp [c3]
 ·by_cases c4:c=49
  ·subst c4
   by_cases c2:(49:Nat)=48+b
   ·simp [←c2]
   ·simp [c2]
  ·by_cases d1:c=120
   ·subst d1;simp
   ·by_cases d2:c=121
    ·subst d2;simp
    ·by_cases d3:c=89
     ·subst d3;simp
     ·simp [c1,c4,d1,d2,d3]
end
noncomputable section
open Go Hk
theorem Ug.mono {m m':Int}{s:RS}(hm:m≤m') (h:Ug m s):Ug m' s:=by unfold Ug at *;omega
theorem aw8 {k:Nat}(hk:k≤32):((2^(25+k):Nat):Int)-1≤1152921504606846976∧16777216≤((2^(25+k):Nat):Int)-1:=by
 have h1:2^(25+k)≤2^57:=al2 (by decide) (by omega)
 have h2:2^25≤2^(25+k):=al2 (by decide) (by omega)
 generalize 2^(25+k)=q at *
 omega
theorem ZB (p:List UInt8) (bs:List Nat) (hl:p.length=bs.length) (hp:p.length≤32) (hc:∀c∈p,Bq c.toNat=true) (hb:∀b∈bs,b<2):∀(n k:Nat) (s:RS),k+n=p.length→Ug (((2^(25+k):Nat):Int)-1) s →
  (rW (p.drop k) (bs.drop k)=true→rX (AI (bs.map FK) p) (Yf s k)=some (.x 0,Yf (nA (p.drop k) (bs.drop k) s) p.length)) ∧
  (rW (p.drop k) (bs.drop k)=false→∃s',rX (AI (bs.map FK) p) (Yf s k)=some (.r,s')):=by
 intro n
 induction n with
 | zero =>
  intro k s hk h
  obtain rfl:k=p.length:=by omega
  rw [List.drop_length,show bs.drop p.length=[] from by rw [hl];simp]
  refine⟨fun _=>?_,fun h=>by cases h⟩
  refine mV ?_ (by simp)
  have h1:¬((p.length:Nat):Int)<((p.length:Nat):Int):=by omega
  simp [AI,Yf,nA]
 | succ n ih =>
  intro k s hk h
  have hlt:k<p.length:=by omega
  have hltb:k<bs.length:=by omega
  have hp57:=aw8 (k:=k) (by omega)
  have hck:=hc p[k] (List.getElem_mem hlt)
  have hbk:=hb bs[k] (List.getElem_mem hltb)
  have st:=Wk p bs hl hp k hlt hck hbk s (h.mono hp57.1)
  have hB:Ug (((2^(25+(k+1)):Nat):Int)-1) (Ci p[k].toNat (bs[k]:Int) s):=by
   have:=af9 hp57.2 hck (Int.natCast_nonneg bs[k]) (by omega) h
   refine this.mono ?_
   rw [show 25+(k+1)=(25+k)+1 from rfl,Nat.pow_succ]
   generalize 2^(25+k)=q
   omega
  obtain⟨ih1,ih2⟩:=ih (k+1) _ (by omega) hB
  have d1:p.drop k=p[k]::p.drop (k+1):=al3 hlt
  have d2:bs.drop k=bs[k]::bs.drop (k+1):=al3 hltb
  rw [d1,d2,rW,nA]
  cases hm:(!(p[k].toNat == 48 || p[k].toNat == 49) || p[k].toNat == 48+bs[k])
  ·rw [hm] at st
   refine⟨fun h=>(by rw [Bool.false_and] at h;cases h),fun _=>⟨_,mV st (by simp)⟩⟩
  ·rw [hm] at st
   rw [Bool.true_and,oB st]
   exact⟨ih1,ih2⟩
def pL (op:Int) (w:Bool) (s:RS):Option lL :=
 oS (decide (op=18)) s.i.op s.i.rd s.i.rn s.i.rm s.i.ra s.i.imm s.i.cond s.i.wide s.w op w s.x s.t s.y
def r_ (op:Int) (w:Bool):RS:=⟨0,0,0,⟨op,0,0,0,0,0,0,w⟩,0⟩
theorem ac4 {op:Int}{w:Bool}{p:List UInt8}(hP:t90 op w=some p) (hne:p≠[]) (bs:List Nat) (hl:p.length=bs.length) (hp:p.length≤32) (hc:∀c∈p,Bq c.toNat=true) (hb:∀b∈bs,b<2) :
  (rW p bs=false→t65 op w (bs.map FK)=some (sO,false)) ∧
  (rW p bs=true→∀i e,pL op w (nA p bs (r_ op w))=some i→t66 i=some e→t65 op w (bs.map FK)=some (i,decide (e=0))):=by
 have hB:Ug (((2^(25+0):Nat):Int)-1) (r_ op w):=by unfold Ug r_;simp
 obtain⟨h1,h2⟩:=ZB p bs hl hp hc hb p.length 0 (r_ op w) (by omega) hB
 rw [List.drop_zero,List.drop_zero] at h1 h2
 have hl':((p.length:Nat):Int)=(((bs.map FK).length:Nat):Int):=by simp [hl]
 unfold t65 Fq
 rw [hP,kS,decide_eq_true hl',Bool.not_true,kX,decide_eq_false hne,kX]
 have en:((0:Int),(0:Int),(0:Int),(0:Int),(⟨op,0,0,0,0,0,0,w⟩:lL),(0:Int))=Yf (r_ op w) ((0:Nat):Int):=rfl
 rw [en]
 refine⟨fun h=>?_,fun h i e hi he=>?_⟩
 ·obtain⟨s',hs⟩:=h2 h
  rw [hs]
  simp [uL,vO,Ao,sO]
 ·rw [h1 h]
  have hi':=hi
  unfold pL at hi'
  simp [uL,vO,Yf,hi',he]
theorem ac5 {op:Int}{w:Bool}{p:List UInt8}(hP:t90 op w=some p) (b:List UInt8) (hl:p.length≠b.length):t65 op w b=some (sO,false):=by
 unfold t65 Fq
 rw [hP,kS,decide_eq_false (by omega),Bool.not_false,lD,lD];rfl
end
section
open Go Hk
def MO:List UInt8:=[49,48,49,49,49,49,49,49,48,48,48,48,48,48,48,48]
theorem UW (b15 b14 b13 b12 b11 b10 b9 b8 b7 b6 b5 b4 b3 b2 b1 b0:Nat):nA MO [b15,b14,b13,b12,b11,b10,b9,b8,b7,b6,b5,b4,b3,b2,b1,b0] (r_ 1 false)=⟨0,0,0,⟨1,0,0,0,0,0,0,false⟩,0⟩:=by
 simp [MO,nA,Ci,CL,r_]
 try omega
theorem mt1 (b15 b14 b13 b12 b11 b10 b9 b8 b7 b6 b5 b4 b3 b2 b1 b0:Nat):(rW MO [b15,b14,b13,b12,b11,b10,b9,b8,b7,b6,b5,b4,b3,b2,b1,b0]=true)=(b15=1∧b14=0∧b13=1∧b12=1∧b11=1∧b10=1∧b9=1∧b8=1∧b7=0∧b6=0∧b5=0∧b4=0∧b3=0∧b2=0∧b1=0∧b0=0):=by
 simp [MO,rW]
 try omega
def MP:List UInt8:=[49,48,49,49,49,49,49,48,72,71,70,69,68,67,66,65]
theorem aEb (b15 b14 b13 b12 b11 b10 b9 b8 b7 b6 b5 b4 b3 b2 b1 b0:Nat):nA MP [b15,b14,b13,b12,b11,b10,b9,b8,b7,b6,b5,b4,b3,b2,b1,b0] (r_ 2 false)=⟨0,0,0,⟨2,0,0,0,0,128*b7+64*b6+32*b5+16*b4+8*b3+4*b2+2*b1+1*b0,0,false⟩,0⟩:=by
 simp [MP,nA,Ci,CL,r_]
 try omega
theorem mt2 (b15 b14 b13 b12 b11 b10 b9 b8 b7 b6 b5 b4 b3 b2 b1 b0:Nat):(rW MP [b15,b14,b13,b12,b11,b10,b9,b8,b7,b6,b5,b4,b3,b2,b1,b0]=true)=(b15=1∧b14=0∧b13=1∧b12=1∧b11=1∧b10=1∧b9=1∧b8=0):=by
 simp [MP,rW]
 try omega
def MQ:List UInt8:=[49,49,49,49,48,76,49,48,48,49,48,48,80,79,78,77,48,75,74,73,100,100,100,100,72,71,70,69,68,67,66,65]
theorem aEc (b31 b30 b29 b28 b27 b26 b25 b24 b23 b22 b21 b20 b19 b18 b17 b16 b15 b14 b13 b12 b11 b10 b9 b8 b7 b6 b5 b4 b3 b2 b1 b0:Nat):nA MQ [b31,b30,b29,b28,b27,b26,b25,b24,b23,b22,b21,b20,b19,b18,b17,b16,b15,b14,b13,b12,b11,b10,b9,b8,b7,b6,b5,b4,b3,b2,b1,b0] (r_ 3 false)=⟨0,0,0,⟨3,8*b11+4*b10+2*b9+b8,0,0,0,2048*b26+32768*b19+16384*b18+8192*b17+4096*b16+1024*b14+512*b13+256*b12+128*b7+64*b6+32*b5+16*b4+8*b3+4*b2+2*b1+1*b0,0,false⟩,0⟩:=by
 simp [MQ,nA,Ci,CL,r_]
 try omega
theorem mt3 (b31 b30 b29 b28 b27 b26 b25 b24 b23 b22 b21 b20 b19 b18 b17 b16 b15 b14 b13 b12 b11 b10 b9 b8 b7 b6 b5 b4 b3 b2 b1 b0:Nat):(rW MQ [b31,b30,b29,b28,b27,b26,b25,b24,b23,b22,b21,b20,b19,b18,b17,b16,b15,b14,b13,b12,b11,b10,b9,b8,b7,b6,b5,b4,b3,b2,b1,b0]=true)=(b31=1∧b30=1∧b29=1∧b28=1∧b27=0∧b25=1∧b24=0∧b23=0∧b22=1∧b21=0∧b20=0∧b15=0):=by
 simp [MQ,rW]
 try omega
def MR:List UInt8:=[49,49,49,49,48,76,49,48,49,49,48,48,80,79,78,77,48,75,74,73,100,100,100,100,72,71,70,69,68,67,66,65]
theorem aEd (b31 b30 b29 b28 b27 b26 b25 b24 b23 b22 b21 b20 b19 b18 b17 b16 b15 b14 b13 b12 b11 b10 b9 b8 b7 b6 b5 b4 b3 b2 b1 b0:Nat):nA MR [b31,b30,b29,b28,b27,b26,b25,b24,b23,b22,b21,b20,b19,b18,b17,b16,b15,b14,b13,b12,b11,b10,b9,b8,b7,b6,b5,b4,b3,b2,b1,b0] (r_ 4 false)=⟨0,0,0,⟨4,8*b11+4*b10+2*b9+b8,0,0,0,2048*b26+32768*b19+16384*b18+8192*b17+4096*b16+1024*b14+512*b13+256*b12+128*b7+64*b6+32*b5+16*b4+8*b3+4*b2+2*b1+1*b0,0,false⟩,0⟩:=by
 simp [MR,nA,Ci,CL,r_]
 try omega
theorem mt4 (b31 b30 b29 b28 b27 b26 b25 b24 b23 b22 b21 b20 b19 b18 b17 b16 b15 b14 b13 b12 b11 b10 b9 b8 b7 b6 b5 b4 b3 b2 b1 b0:Nat):(rW MR [b31,b30,b29,b28,b27,b26,b25,b24,b23,b22,b21,b20,b19,b18,b17,b16,b15,b14,b13,b12,b11,b10,b9,b8,b7,b6,b5,b4,b3,b2,b1,b0]=true)=(b31=1∧b30=1∧b29=1∧b28=1∧b27=0∧b25=1∧b24=0∧b23=1∧b22=1∧b21=0∧b20=0∧b15=0):=by
 simp [MR,rW]
 try omega
def MS:List UInt8:=[49,49,49,48,49,48,49,48,48,49,48,48,49,49,49,49,48,69,68,67,100,100,100,100,66,65,48,48,109,109,109,109]
theorem aEe (b31 b30 b29 b28 b27 b26 b25 b24 b23 b22 b21 b20 b19 b18 b17 b16 b15 b14 b13 b12 b11 b10 b9 b8 b7 b6 b5 b4 b3 b2 b1 b0:Nat):nA MS [b31,b30,b29,b28,b27,b26,b25,b24,b23,b22,b21,b20,b19,b18,b17,b16,b15,b14,b13,b12,b11,b10,b9,b8,b7,b6,b5,b4,b3,b2,b1,b0] (r_ 5 false)=⟨0,0,0,⟨5,8*b11+4*b10+2*b9+b8,0,8*b3+4*b2+2*b1+b0,0,16*b14+8*b13+4*b12+2*b7+1*b6,0,false⟩,0⟩:=by
 simp [MS,nA,Ci,CL,r_]
 try omega
theorem mt5 (b31 b30 b29 b28 b27 b26 b25 b24 b23 b22 b21 b20 b19 b18 b17 b16 b15 b14 b13 b12 b11 b10 b9 b8 b7 b6 b5 b4 b3 b2 b1 b0:Nat):(rW MS [b31,b30,b29,b28,b27,b26,b25,b24,b23,b22,b21,b20,b19,b18,b17,b16,b15,b14,b13,b12,b11,b10,b9,b8,b7,b6,b5,b4,b3,b2,b1,b0]=true)=(b31=1∧b30=1∧b29=1∧b28=0∧b27=1∧b26=0∧b25=1∧b24=0∧b23=0∧b22=1∧b21=0∧b20=0∧b19=1∧b18=1∧b17=1∧b16=1∧b15=0∧b5=0∧b4=0):=by
 simp [MS,rW]
 try omega
def MT:List UInt8:=[49,49,49,48,49,48,49,48,48,49,48,48,49,49,49,49,48,69,68,67,100,100,100,100,66,65,48,49,109,109,109,109]
theorem aEf (b31 b30 b29 b28 b27 b26 b25 b24 b23 b22 b21 b20 b19 b18 b17 b16 b15 b14 b13 b12 b11 b10 b9 b8 b7 b6 b5 b4 b3 b2 b1 b0:Nat):nA MT [b31,b30,b29,b28,b27,b26,b25,b24,b23,b22,b21,b20,b19,b18,b17,b16,b15,b14,b13,b12,b11,b10,b9,b8,b7,b6,b5,b4,b3,b2,b1,b0] (r_ 6 false)=⟨0,0,0,⟨6,8*b11+4*b10+2*b9+b8,0,8*b3+4*b2+2*b1+b0,0,16*b14+8*b13+4*b12+2*b7+1*b6,0,false⟩,0⟩:=by
 simp [MT,nA,Ci,CL,r_]
 try omega
theorem mt6 (b31 b30 b29 b28 b27 b26 b25 b24 b23 b22 b21 b20 b19 b18 b17 b16 b15 b14 b13 b12 b11 b10 b9 b8 b7 b6 b5 b4 b3 b2 b1 b0:Nat):(rW MT [b31,b30,b29,b28,b27,b26,b25,b24,b23,b22,b21,b20,b19,b18,b17,b16,b15,b14,b13,b12,b11,b10,b9,b8,b7,b6,b5,b4,b3,b2,b1,b0]=true)=(b31=1∧b30=1∧b29=1∧b28=0∧b27=1∧b26=0∧b25=1∧b24=0∧b23=0∧b22=1∧b21=0∧b20=0∧b19=1∧b18=1∧b17=1∧b16=1∧b15=0∧b5=0∧b4=1):=by
 simp [MT,rW]
 try omega
def MU:List UInt8:=[49,49,49,48,49,48,49,48,48,49,48,48,49,49,49,49,48,69,68,67,100,100,100,100,66,65,49,48,109,109,109,109]
theorem aEg (b31 b30 b29 b28 b27 b26 b25 b24 b23 b22 b21 b20 b19 b18 b17 b16 b15 b14 b13 b12 b11 b10 b9 b8 b7 b6 b5 b4 b3 b2 b1 b0:Nat):nA MU [b31,b30,b29,b28,b27,b26,b25,b24,b23,b22,b21,b20,b19,b18,b17,b16,b15,b14,b13,b12,b11,b10,b9,b8,b7,b6,b5,b4,b3,b2,b1,b0] (r_ 7 false)=⟨0,0,0,⟨7,8*b11+4*b10+2*b9+b8,0,8*b3+4*b2+2*b1+b0,0,16*b14+8*b13+4*b12+2*b7+1*b6,0,false⟩,0⟩:=by
 simp [MU,nA,Ci,CL,r_]
 try omega
theorem mt7 (b31 b30 b29 b28 b27 b26 b25 b24 b23 b22 b21 b20 b19 b18 b17 b16 b15 b14 b13 b12 b11 b10 b9 b8 b7 b6 b5 b4 b3 b2 b1 b0:Nat):(rW MU [b31,b30,b29,b28,b27,b26,b25,b24,b23,b22,b21,b20,b19,b18,b17,b16,b15,b14,b13,b12,b11,b10,b9,b8,b7,b6,b5,b4,b3,b2,b1,b0]=true)=(b31=1∧b30=1∧b29=1∧b28=0∧b27=1∧b26=0∧b25=1∧b24=0∧b23=0∧b22=1∧b21=0∧b20=0∧b19=1∧b18=1∧b17=1∧b16=1∧b15=0∧b5=1∧b4=0):=by
 simp [MU,rW]
 try omega
def MV:List UInt8:=[49,49,49,48,49,48,49,48,48,49,48,48,49,49,49,49,48,69,68,67,100,100,100,100,66,65,49,49,109,109,109,109]
theorem aEh (b31 b30 b29 b28 b27 b26 b25 b24 b23 b22 b21 b20 b19 b18 b17 b16 b15 b14 b13 b12 b11 b10 b9 b8 b7 b6 b5 b4 b3 b2 b1 b0:Nat):nA MV [b31,b30,b29,b28,b27,b26,b25,b24,b23,b22,b21,b20,b19,b18,b17,b16,b15,b14,b13,b12,b11,b10,b9,b8,b7,b6,b5,b4,b3,b2,b1,b0] (r_ 8 false)=⟨0,0,0,⟨8,8*b11+4*b10+2*b9+b8,0,8*b3+4*b2+2*b1+b0,0,16*b14+8*b13+4*b12+2*b7+1*b6,0,false⟩,0⟩:=by
 simp [MV,nA,Ci,CL,r_]
 try omega
theorem mt8 (b31 b30 b29 b28 b27 b26 b25 b24 b23 b22 b21 b20 b19 b18 b17 b16 b15 b14 b13 b12 b11 b10 b9 b8 b7 b6 b5 b4 b3 b2 b1 b0:Nat):(rW MV [b31,b30,b29,b28,b27,b26,b25,b24,b23,b22,b21,b20,b19,b18,b17,b16,b15,b14,b13,b12,b11,b10,b9,b8,b7,b6,b5,b4,b3,b2,b1,b0]=true)=(b31=1∧b30=1∧b29=1∧b28=0∧b27=1∧b26=0∧b25=1∧b24=0∧b23=0∧b22=1∧b21=0∧b20=0∧b19=1∧b18=1∧b17=1∧b16=1∧b15=0∧b5=1∧b4=1):=by
 simp [MV,rW]
 try omega
def MW:List UInt8:=[49,49,49,48,49,48,49,48,48,49,49,48,49,49,49,49,48,48,48,48,100,100,100,100,48,48,48,48,109,109,109,109]
theorem aEi (b31 b30 b29 b28 b27 b26 b25 b24 b23 b22 b21 b20 b19 b18 b17 b16 b15 b14 b13 b12 b11 b10 b9 b8 b7 b6 b5 b4 b3 b2 b1 b0:Nat):nA MW [b31,b30,b29,b28,b27,b26,b25,b24,b23,b22,b21,b20,b19,b18,b17,b16,b15,b14,b13,b12,b11,b10,b9,b8,b7,b6,b5,b4,b3,b2,b1,b0] (r_ 9 false)=⟨0,0,0,⟨9,8*b11+4*b10+2*b9+b8,0,8*b3+4*b2+2*b1+b0,0,0,0,false⟩,0⟩:=by
 simp [MW,nA,Ci,CL,r_]
 try omega
theorem mt9 (b31 b30 b29 b28 b27 b26 b25 b24 b23 b22 b21 b20 b19 b18 b17 b16 b15 b14 b13 b12 b11 b10 b9 b8 b7 b6 b5 b4 b3 b2 b1 b0:Nat):(rW MW [b31,b30,b29,b28,b27,b26,b25,b24,b23,b22,b21,b20,b19,b18,b17,b16,b15,b14,b13,b12,b11,b10,b9,b8,b7,b6,b5,b4,b3,b2,b1,b0]=true)=(b31=1∧b30=1∧b29=1∧b28=0∧b27=1∧b26=0∧b25=1∧b24=0∧b23=0∧b22=1∧b21=1∧b20=0∧b19=1∧b18=1∧b17=1∧b16=1∧b15=0∧b14=0∧b13=0∧b12=0∧b7=0∧b6=0∧b5=0∧b4=0):=by
 simp [MW,rW]
 try omega
def DD:List UInt8:=[49,49,49,48,49,48,49,48,48,48,48,48,110,110,110,110,48,48,48,48,100,100,100,100,48,48,48,48,109,109,109,109]
theorem ax4 (b31 b30 b29 b28 b27 b26 b25 b24 b23 b22 b21 b20 b19 b18 b17 b16 b15 b14 b13 b12 b11 b10 b9 b8 b7 b6 b5 b4 b3 b2 b1 b0:Nat):nA DD [b31,b30,b29,b28,b27,b26,b25,b24,b23,b22,b21,b20,b19,b18,b17,b16,b15,b14,b13,b12,b11,b10,b9,b8,b7,b6,b5,b4,b3,b2,b1,b0] (r_ 10 false)=⟨0,0,0,⟨10,8*b11+4*b10+2*b9+b8,8*b19+4*b18+2*b17+b16,8*b3+4*b2+2*b1+b0,0,0,0,false⟩,0⟩:=by
 simp [DD,nA,Ci,CL,r_]
 try omega
theorem aDq (b31 b30 b29 b28 b27 b26 b25 b24 b23 b22 b21 b20 b19 b18 b17 b16 b15 b14 b13 b12 b11 b10 b9 b8 b7 b6 b5 b4 b3 b2 b1 b0:Nat):(rW DD [b31,b30,b29,b28,b27,b26,b25,b24,b23,b22,b21,b20,b19,b18,b17,b16,b15,b14,b13,b12,b11,b10,b9,b8,b7,b6,b5,b4,b3,b2,b1,b0]=true)=(b31=1∧b30=1∧b29=1∧b28=0∧b27=1∧b26=0∧b25=1∧b24=0∧b23=0∧b22=0∧b21=0∧b20=0∧b15=0∧b14=0∧b13=0∧b12=0∧b7=0∧b6=0∧b5=0∧b4=0):=by
 simp [DD,rW]
 try omega
def DE:List UInt8:=[49,49,49,48,49,48,49,48,48,48,49,48,110,110,110,110,48,48,48,48,100,100,100,100,48,48,48,48,109,109,109,109]
theorem ax5 (b31 b30 b29 b28 b27 b26 b25 b24 b23 b22 b21 b20 b19 b18 b17 b16 b15 b14 b13 b12 b11 b10 b9 b8 b7 b6 b5 b4 b3 b2 b1 b0:Nat):nA DE [b31,b30,b29,b28,b27,b26,b25,b24,b23,b22,b21,b20,b19,b18,b17,b16,b15,b14,b13,b12,b11,b10,b9,b8,b7,b6,b5,b4,b3,b2,b1,b0] (r_ 11 false)=⟨0,0,0,⟨11,8*b11+4*b10+2*b9+b8,8*b19+4*b18+2*b17+b16,8*b3+4*b2+2*b1+b0,0,0,0,false⟩,0⟩:=by
 simp [DE,nA,Ci,CL,r_]
 try omega
theorem aDr (b31 b30 b29 b28 b27 b26 b25 b24 b23 b22 b21 b20 b19 b18 b17 b16 b15 b14 b13 b12 b11 b10 b9 b8 b7 b6 b5 b4 b3 b2 b1 b0:Nat):(rW DE [b31,b30,b29,b28,b27,b26,b25,b24,b23,b22,b21,b20,b19,b18,b17,b16,b15,b14,b13,b12,b11,b10,b9,b8,b7,b6,b5,b4,b3,b2,b1,b0]=true)=(b31=1∧b30=1∧b29=1∧b28=0∧b27=1∧b26=0∧b25=1∧b24=0∧b23=0∧b22=0∧b21=1∧b20=0∧b15=0∧b14=0∧b13=0∧b12=0∧b7=0∧b6=0∧b5=0∧b4=0):=by
 simp [DE,rW]
 try omega
def DF:List UInt8:=[49,49,49,48,49,48,49,48,48,49,48,48,110,110,110,110,48,48,48,48,100,100,100,100,48,48,48,48,109,109,109,109]
theorem ax6 (b31 b30 b29 b28 b27 b26 b25 b24 b23 b22 b21 b20 b19 b18 b17 b16 b15 b14 b13 b12 b11 b10 b9 b8 b7 b6 b5 b4 b3 b2 b1 b0:Nat):nA DF [b31,b30,b29,b28,b27,b26,b25,b24,b23,b22,b21,b20,b19,b18,b17,b16,b15,b14,b13,b12,b11,b10,b9,b8,b7,b6,b5,b4,b3,b2,b1,b0] (r_ 12 false)=⟨0,0,0,⟨12,8*b11+4*b10+2*b9+b8,8*b19+4*b18+2*b17+b16,8*b3+4*b2+2*b1+b0,0,0,0,false⟩,0⟩:=by
 simp [DF,nA,Ci,CL,r_]
 try omega
theorem aDs (b31 b30 b29 b28 b27 b26 b25 b24 b23 b22 b21 b20 b19 b18 b17 b16 b15 b14 b13 b12 b11 b10 b9 b8 b7 b6 b5 b4 b3 b2 b1 b0:Nat):(rW DF [b31,b30,b29,b28,b27,b26,b25,b24,b23,b22,b21,b20,b19,b18,b17,b16,b15,b14,b13,b12,b11,b10,b9,b8,b7,b6,b5,b4,b3,b2,b1,b0]=true)=(b31=1∧b30=1∧b29=1∧b28=0∧b27=1∧b26=0∧b25=1∧b24=0∧b23=0∧b22=1∧b21=0∧b20=0∧b15=0∧b14=0∧b13=0∧b12=0∧b7=0∧b6=0∧b5=0∧b4=0):=by
 simp [DF,rW]
 try omega
def DG:List UInt8:=[49,49,49,48,49,48,49,48,49,48,48,48,110,110,110,110,48,48,48,48,100,100,100,100,48,48,48,48,109,109,109,109]
theorem ax7 (b31 b30 b29 b28 b27 b26 b25 b24 b23 b22 b21 b20 b19 b18 b17 b16 b15 b14 b13 b12 b11 b10 b9 b8 b7 b6 b5 b4 b3 b2 b1 b0:Nat):nA DG [b31,b30,b29,b28,b27,b26,b25,b24,b23,b22,b21,b20,b19,b18,b17,b16,b15,b14,b13,b12,b11,b10,b9,b8,b7,b6,b5,b4,b3,b2,b1,b0] (r_ 13 false)=⟨0,0,0,⟨13,8*b11+4*b10+2*b9+b8,8*b19+4*b18+2*b17+b16,8*b3+4*b2+2*b1+b0,0,0,0,false⟩,0⟩:=by
 simp [DG,nA,Ci,CL,r_]
 try omega
theorem aDt (b31 b30 b29 b28 b27 b26 b25 b24 b23 b22 b21 b20 b19 b18 b17 b16 b15 b14 b13 b12 b11 b10 b9 b8 b7 b6 b5 b4 b3 b2 b1 b0:Nat):(rW DG [b31,b30,b29,b28,b27,b26,b25,b24,b23,b22,b21,b20,b19,b18,b17,b16,b15,b14,b13,b12,b11,b10,b9,b8,b7,b6,b5,b4,b3,b2,b1,b0]=true)=(b31=1∧b30=1∧b29=1∧b28=0∧b27=1∧b26=0∧b25=1∧b24=0∧b23=1∧b22=0∧b21=0∧b20=0∧b15=0∧b14=0∧b13=0∧b12=0∧b7=0∧b6=0∧b5=0∧b4=0):=by
 simp [DG,rW]
 try omega
def DH:List UInt8:=[49,49,49,48,49,48,49,49,48,48,48,48,110,110,110,110,48,48,48,48,100,100,100,100,48,48,48,48,109,109,109,109]
theorem ax8 (b31 b30 b29 b28 b27 b26 b25 b24 b23 b22 b21 b20 b19 b18 b17 b16 b15 b14 b13 b12 b11 b10 b9 b8 b7 b6 b5 b4 b3 b2 b1 b0:Nat):nA DH [b31,b30,b29,b28,b27,b26,b25,b24,b23,b22,b21,b20,b19,b18,b17,b16,b15,b14,b13,b12,b11,b10,b9,b8,b7,b6,b5,b4,b3,b2,b1,b0] (r_ 14 false)=⟨0,0,0,⟨14,8*b11+4*b10+2*b9+b8,8*b19+4*b18+2*b17+b16,8*b3+4*b2+2*b1+b0,0,0,0,false⟩,0⟩:=by
 simp [DH,nA,Ci,CL,r_]
 try omega
theorem aDu (b31 b30 b29 b28 b27 b26 b25 b24 b23 b22 b21 b20 b19 b18 b17 b16 b15 b14 b13 b12 b11 b10 b9 b8 b7 b6 b5 b4 b3 b2 b1 b0:Nat):(rW DH [b31,b30,b29,b28,b27,b26,b25,b24,b23,b22,b21,b20,b19,b18,b17,b16,b15,b14,b13,b12,b11,b10,b9,b8,b7,b6,b5,b4,b3,b2,b1,b0]=true)=(b31=1∧b30=1∧b29=1∧b28=0∧b27=1∧b26=0∧b25=1∧b24=1∧b23=0∧b22=0∧b21=0∧b20=0∧b15=0∧b14=0∧b13=0∧b12=0∧b7=0∧b6=0∧b5=0∧b4=0):=by
 simp [DH,rW]
 try omega
def DI:List UInt8:=[49,49,49,48,49,48,49,49,49,48,49,48,110,110,110,110,48,48,48,48,100,100,100,100,48,48,48,48,109,109,109,109]
theorem ax9 (b31 b30 b29 b28 b27 b26 b25 b24 b23 b22 b21 b20 b19 b18 b17 b16 b15 b14 b13 b12 b11 b10 b9 b8 b7 b6 b5 b4 b3 b2 b1 b0:Nat):nA DI [b31,b30,b29,b28,b27,b26,b25,b24,b23,b22,b21,b20,b19,b18,b17,b16,b15,b14,b13,b12,b11,b10,b9,b8,b7,b6,b5,b4,b3,b2,b1,b0] (r_ 15 false)=⟨0,0,0,⟨15,8*b11+4*b10+2*b9+b8,8*b19+4*b18+2*b17+b16,8*b3+4*b2+2*b1+b0,0,0,0,false⟩,0⟩:=by
 simp [DI,nA,Ci,CL,r_]
 try omega
theorem aDv (b31 b30 b29 b28 b27 b26 b25 b24 b23 b22 b21 b20 b19 b18 b17 b16 b15 b14 b13 b12 b11 b10 b9 b8 b7 b6 b5 b4 b3 b2 b1 b0:Nat):(rW DI [b31,b30,b29,b28,b27,b26,b25,b24,b23,b22,b21,b20,b19,b18,b17,b16,b15,b14,b13,b12,b11,b10,b9,b8,b7,b6,b5,b4,b3,b2,b1,b0]=true)=(b31=1∧b30=1∧b29=1∧b28=0∧b27=1∧b26=0∧b25=1∧b24=1∧b23=1∧b22=0∧b21=1∧b20=0∧b15=0∧b14=0∧b13=0∧b12=0∧b7=0∧b6=0∧b5=0∧b4=0):=by
 simp [DI,rW]
 try omega
def DJ:List UInt8:=[49,49,49,49,49,48,49,49,48,48,48,48,110,110,110,110,49,49,49,49,100,100,100,100,48,48,48,48,109,109,109,109]
theorem ayA (b31 b30 b29 b28 b27 b26 b25 b24 b23 b22 b21 b20 b19 b18 b17 b16 b15 b14 b13 b12 b11 b10 b9 b8 b7 b6 b5 b4 b3 b2 b1 b0:Nat):nA DJ [b31,b30,b29,b28,b27,b26,b25,b24,b23,b22,b21,b20,b19,b18,b17,b16,b15,b14,b13,b12,b11,b10,b9,b8,b7,b6,b5,b4,b3,b2,b1,b0] (r_ 16 false)=⟨0,0,0,⟨16,8*b11+4*b10+2*b9+b8,8*b19+4*b18+2*b17+b16,8*b3+4*b2+2*b1+b0,0,0,0,false⟩,0⟩:=by
 simp [DJ,nA,Ci,CL,r_]
 try omega
theorem aDw (b31 b30 b29 b28 b27 b26 b25 b24 b23 b22 b21 b20 b19 b18 b17 b16 b15 b14 b13 b12 b11 b10 b9 b8 b7 b6 b5 b4 b3 b2 b1 b0:Nat):(rW DJ [b31,b30,b29,b28,b27,b26,b25,b24,b23,b22,b21,b20,b19,b18,b17,b16,b15,b14,b13,b12,b11,b10,b9,b8,b7,b6,b5,b4,b3,b2,b1,b0]=true)=(b31=1∧b30=1∧b29=1∧b28=1∧b27=1∧b26=0∧b25=1∧b24=1∧b23=0∧b22=0∧b21=0∧b20=0∧b15=1∧b14=1∧b13=1∧b12=1∧b7=0∧b6=0∧b5=0∧b4=0):=by
 simp [DJ,rW]
 try omega
def DK:List UInt8:=[49,49,49,49,49,48,49,49,49,48,49,48,110,110,110,110,100,100,100,100,97,97,97,97,48,48,48,48,109,109,109,109]
theorem ayB (b31 b30 b29 b28 b27 b26 b25 b24 b23 b22 b21 b20 b19 b18 b17 b16 b15 b14 b13 b12 b11 b10 b9 b8 b7 b6 b5 b4 b3 b2 b1 b0:Nat):nA DK [b31,b30,b29,b28,b27,b26,b25,b24,b23,b22,b21,b20,b19,b18,b17,b16,b15,b14,b13,b12,b11,b10,b9,b8,b7,b6,b5,b4,b3,b2,b1,b0] (r_ 17 false)=⟨0,0,0,⟨17,8*b15+4*b14+2*b13+b12,8*b19+4*b18+2*b17+b16,8*b3+4*b2+2*b1+b0,8*b11+4*b10+2*b9+b8,0,0,false⟩,0⟩:=by
 simp [DK,nA,Ci,CL,r_]
 try omega
theorem aDx (b31 b30 b29 b28 b27 b26 b25 b24 b23 b22 b21 b20 b19 b18 b17 b16 b15 b14 b13 b12 b11 b10 b9 b8 b7 b6 b5 b4 b3 b2 b1 b0:Nat):(rW DK [b31,b30,b29,b28,b27,b26,b25,b24,b23,b22,b21,b20,b19,b18,b17,b16,b15,b14,b13,b12,b11,b10,b9,b8,b7,b6,b5,b4,b3,b2,b1,b0]=true)=(b31=1∧b30=1∧b29=1∧b28=1∧b27=1∧b26=0∧b25=1∧b24=1∧b23=1∧b22=0∧b21=1∧b20=0∧b7=0∧b6=0∧b5=0∧b4=0):=by
 simp [DK,rW]
 try omega
def DL:List UInt8:=[49,49,49,49,48,48,49,49,48,49,49,48,110,110,110,110,48,69,68,67,100,100,100,100,66,65,48,119,119,119,119,119]
theorem ayC (b31 b30 b29 b28 b27 b26 b25 b24 b23 b22 b21 b20 b19 b18 b17 b16 b15 b14 b13 b12 b11 b10 b9 b8 b7 b6 b5 b4 b3 b2 b1 b0:Nat):nA DL [b31,b30,b29,b28,b27,b26,b25,b24,b23,b22,b21,b20,b19,b18,b17,b16,b15,b14,b13,b12,b11,b10,b9,b8,b7,b6,b5,b4,b3,b2,b1,b0] (r_ 18 false)=⟨0,0,0,⟨18,8*b11+4*b10+2*b9+b8,8*b19+4*b18+2*b17+b16,0,0,16*b14+8*b13+4*b12+2*b7+1*b6,0,false⟩,16*b4+8*b3+4*b2+2*b1+b0⟩:=by
 simp [DL,nA,Ci,CL,r_]
 try omega
theorem aDy (b31 b30 b29 b28 b27 b26 b25 b24 b23 b22 b21 b20 b19 b18 b17 b16 b15 b14 b13 b12 b11 b10 b9 b8 b7 b6 b5 b4 b3 b2 b1 b0:Nat):(rW DL [b31,b30,b29,b28,b27,b26,b25,b24,b23,b22,b21,b20,b19,b18,b17,b16,b15,b14,b13,b12,b11,b10,b9,b8,b7,b6,b5,b4,b3,b2,b1,b0]=true)=(b31=1∧b30=1∧b29=1∧b28=1∧b27=0∧b26=0∧b25=1∧b24=1∧b23=0∧b22=1∧b21=1∧b20=0∧b15=0∧b5=0):=by
 simp [DL,rW]
 try omega
def DM:List UInt8:=[48,49,49,48,49,48,48,48,48,48,110,110,110,100,100,100]
theorem ayD (b15 b14 b13 b12 b11 b10 b9 b8 b7 b6 b5 b4 b3 b2 b1 b0:Nat):nA DM [b15,b14,b13,b12,b11,b10,b9,b8,b7,b6,b5,b4,b3,b2,b1,b0] (r_ 19 false)=⟨0,0,0,⟨19,4*b2+2*b1+b0,4*b5+2*b4+b3,0,0,0,0,false⟩,0⟩:=by
 simp [DM,nA,Ci,CL,r_]
 try omega
theorem aDz (b15 b14 b13 b12 b11 b10 b9 b8 b7 b6 b5 b4 b3 b2 b1 b0:Nat):(rW DM [b15,b14,b13,b12,b11,b10,b9,b8,b7,b6,b5,b4,b3,b2,b1,b0]=true)=(b15=0∧b14=1∧b13=1∧b12=0∧b11=1∧b10=0∧b9=0∧b8=0∧b7=0∧b6=0):=by
 simp [DM,rW]
 try omega
def DN:List UInt8:=[48,49,49,48,48,48,48,48,48,48,110,110,110,100,100,100]
theorem ayE (b15 b14 b13 b12 b11 b10 b9 b8 b7 b6 b5 b4 b3 b2 b1 b0:Nat):nA DN [b15,b14,b13,b12,b11,b10,b9,b8,b7,b6,b5,b4,b3,b2,b1,b0] (r_ 20 false)=⟨0,0,0,⟨20,4*b2+2*b1+b0,4*b5+2*b4+b3,0,0,0,0,false⟩,0⟩:=by
 simp [DN,nA,Ci,CL,r_]
 try omega
theorem aDA (b15 b14 b13 b12 b11 b10 b9 b8 b7 b6 b5 b4 b3 b2 b1 b0:Nat):(rW DN [b15,b14,b13,b12,b11,b10,b9,b8,b7,b6,b5,b4,b3,b2,b1,b0]=true)=(b15=0∧b14=1∧b13=1∧b12=0∧b11=0∧b10=0∧b9=0∧b8=0∧b7=0∧b6=0):=by
 simp [DN,rW]
 try omega
def DO:List UInt8:=[48,49,49,49,49,48,48,48,48,48,110,110,110,100,100,100]
theorem ayF (b15 b14 b13 b12 b11 b10 b9 b8 b7 b6 b5 b4 b3 b2 b1 b0:Nat):nA DO [b15,b14,b13,b12,b11,b10,b9,b8,b7,b6,b5,b4,b3,b2,b1,b0] (r_ 21 false)=⟨0,0,0,⟨21,4*b2+2*b1+b0,4*b5+2*b4+b3,0,0,0,0,false⟩,0⟩:=by
 simp [DO,nA,Ci,CL,r_]
 try omega
theorem aDB (b15 b14 b13 b12 b11 b10 b9 b8 b7 b6 b5 b4 b3 b2 b1 b0:Nat):(rW DO [b15,b14,b13,b12,b11,b10,b9,b8,b7,b6,b5,b4,b3,b2,b1,b0]=true)=(b15=0∧b14=1∧b13=1∧b12=1∧b11=1∧b10=0∧b9=0∧b8=0∧b7=0∧b6=0):=by
 simp [DO,rW]
 try omega
def DP:List UInt8:=[48,49,49,49,48,48,48,48,48,48,110,110,110,100,100,100]
theorem ayG (b15 b14 b13 b12 b11 b10 b9 b8 b7 b6 b5 b4 b3 b2 b1 b0:Nat):nA DP [b15,b14,b13,b12,b11,b10,b9,b8,b7,b6,b5,b4,b3,b2,b1,b0] (r_ 22 false)=⟨0,0,0,⟨22,4*b2+2*b1+b0,4*b5+2*b4+b3,0,0,0,0,false⟩,0⟩:=by
 simp [DP,nA,Ci,CL,r_]
 try omega
theorem aDC (b15 b14 b13 b12 b11 b10 b9 b8 b7 b6 b5 b4 b3 b2 b1 b0:Nat):(rW DP [b15,b14,b13,b12,b11,b10,b9,b8,b7,b6,b5,b4,b3,b2,b1,b0]=true)=(b15=0∧b14=1∧b13=1∧b12=1∧b11=0∧b10=0∧b9=0∧b8=0∧b7=0∧b6=0):=by
 simp [DP,rW]
 try omega
def DQ:List UInt8:=[48,49,48,48,48,48,49,48,49,48,109,109,109,110,110,110]
theorem ayH (b15 b14 b13 b12 b11 b10 b9 b8 b7 b6 b5 b4 b3 b2 b1 b0:Nat):nA DQ [b15,b14,b13,b12,b11,b10,b9,b8,b7,b6,b5,b4,b3,b2,b1,b0] (r_ 23 false)=⟨0,0,0,⟨23,0,4*b2+2*b1+b0,4*b5+2*b4+b3,0,0,0,false⟩,0⟩:=by
 simp [DQ,nA,Ci,CL,r_]
 try omega
theorem aDD (b15 b14 b13 b12 b11 b10 b9 b8 b7 b6 b5 b4 b3 b2 b1 b0:Nat):(rW DQ [b15,b14,b13,b12,b11,b10,b9,b8,b7,b6,b5,b4,b3,b2,b1,b0]=true)=(b15=0∧b14=1∧b13=0∧b12=0∧b11=0∧b10=0∧b9=1∧b8=0∧b7=1∧b6=0):=by
 simp [DQ,rW]
 try omega
def DR:List UInt8:=[49,49,49,48,48,76,75,74,73,72,71,70,69,68,67,66]
theorem ayI (b15 b14 b13 b12 b11 b10 b9 b8 b7 b6 b5 b4 b3 b2 b1 b0:Nat):nA DR [b15,b14,b13,b12,b11,b10,b9,b8,b7,b6,b5,b4,b3,b2,b1,b0] (r_ 24 false)=⟨0,0,0,⟨24,0,0,0,0,2048*b10+1024*b9+512*b8+256*b7+128*b6+64*b5+32*b4+16*b3+8*b2+4*b1+2*b0,0,false⟩,0⟩:=by
 simp [DR,nA,Ci,CL,r_]
 try omega
theorem aDE (b15 b14 b13 b12 b11 b10 b9 b8 b7 b6 b5 b4 b3 b2 b1 b0:Nat):(rW DR [b15,b14,b13,b12,b11,b10,b9,b8,b7,b6,b5,b4,b3,b2,b1,b0]=true)=(b15=1∧b14=1∧b13=1∧b12=0∧b11=0):=by
 simp [DR,rW]
 try omega
def Av:List UInt8:=[49,49,49,49,48,89,86,85,84,83,82,81,80,79,78,77,49,48,120,49,121,76,75,74,73,72,71,70,69,68,67,66]
theorem aoQ (b31 b30 b29 b28 b27 b26 b25 b24 b23 b22 b21 b20 b19 b18 b17 b16 b15 b14 b13 b12 b11 b10 b9 b8 b7 b6 b5 b4 b3 b2 b1 b0:Nat):nA Av [b31,b30,b29,b28,b27,b26,b25,b24,b23,b22,b21,b20,b19,b18,b17,b16,b15,b14,b13,b12,b11,b10,b9,b8,b7,b6,b5,b4,b3,b2,b1,b0] (r_ 24 true)=⟨b13,b11,b26,⟨24,0,0,0,0,16777216*b26+2097152*b25+1048576*b24+524288*b23+262144*b22+131072*b21+65536*b20+32768*b19+16384*b18+8192*b17+4096*b16+2048*b10+1024*b9+512*b8+256*b7+128*b6+64*b5+32*b4+16*b3+8*b2+4*b1+2*b0,0,true⟩,0⟩:=by
 simp [Av,nA,Ci,CL,r_]
 try omega
theorem awH (b31 b30 b29 b28 b27 b26 b25 b24 b23 b22 b21 b20 b19 b18 b17 b16 b15 b14 b13 b12 b11 b10 b9 b8 b7 b6 b5 b4 b3 b2 b1 b0:Nat):(rW Av [b31,b30,b29,b28,b27,b26,b25,b24,b23,b22,b21,b20,b19,b18,b17,b16,b15,b14,b13,b12,b11,b10,b9,b8,b7,b6,b5,b4,b3,b2,b1,b0]=true)=(b31=1∧b30=1∧b29=1∧b28=1∧b27=0∧b15=1∧b14=0∧b12=1):=by
 simp [Av,rW]
 try omega
def DS:List UInt8:=[49,49,48,49,99,99,99,99,73,72,71,70,69,68,67,66]
theorem ayJ (b15 b14 b13 b12 b11 b10 b9 b8 b7 b6 b5 b4 b3 b2 b1 b0:Nat):nA DS [b15,b14,b13,b12,b11,b10,b9,b8,b7,b6,b5,b4,b3,b2,b1,b0] (r_ 25 false)=⟨0,0,0,⟨25,0,0,0,0,256*b7+128*b6+64*b5+32*b4+16*b3+8*b2+4*b1+2*b0,8*b11+4*b10+2*b9+b8,false⟩,0⟩:=by
 simp [DS,nA,Ci,CL,r_]
 try omega
theorem aDF (b15 b14 b13 b12 b11 b10 b9 b8 b7 b6 b5 b4 b3 b2 b1 b0:Nat):(rW DS [b15,b14,b13,b12,b11,b10,b9,b8,b7,b6,b5,b4,b3,b2,b1,b0]=true)=(b15=1∧b14=1∧b13=0∧b12=1):=by
 simp [DS,rW]
 try omega
def Aw:List UInt8:=[49,49,49,49,48,85,99,99,99,99,82,81,80,79,78,77,49,48,83,48,84,76,75,74,73,72,71,70,69,68,67,66]
theorem aoR (b31 b30 b29 b28 b27 b26 b25 b24 b23 b22 b21 b20 b19 b18 b17 b16 b15 b14 b13 b12 b11 b10 b9 b8 b7 b6 b5 b4 b3 b2 b1 b0:Nat):nA Aw [b31,b30,b29,b28,b27,b26,b25,b24,b23,b22,b21,b20,b19,b18,b17,b16,b15,b14,b13,b12,b11,b10,b9,b8,b7,b6,b5,b4,b3,b2,b1,b0] (r_ 25 true)=⟨0,0,0,⟨25,0,0,0,0,1048576*b26+131072*b21+65536*b20+32768*b19+16384*b18+8192*b17+4096*b16+262144*b13+524288*b11+2048*b10+1024*b9+512*b8+256*b7+128*b6+64*b5+32*b4+16*b3+8*b2+4*b1+2*b0,8*b25+4*b24+2*b23+b22,true⟩,0⟩:=by
 simp [Aw,nA,Ci,CL,r_]
 try omega
theorem awI (b31 b30 b29 b28 b27 b26 b25 b24 b23 b22 b21 b20 b19 b18 b17 b16 b15 b14 b13 b12 b11 b10 b9 b8 b7 b6 b5 b4 b3 b2 b1 b0:Nat):(rW Aw [b31,b30,b29,b28,b27,b26,b25,b24,b23,b22,b21,b20,b19,b18,b17,b16,b15,b14,b13,b12,b11,b10,b9,b8,b7,b6,b5,b4,b3,b2,b1,b0]=true)=(b31=1∧b30=1∧b29=1∧b28=1∧b27=0∧b15=1∧b14=0∧b12=0):=by
 simp [Aw,rW]
 try omega
end
noncomputable section
open Go Hk
def sE (x:Nat):List Nat:=[x/32768%2,x/16384%2,x/8192%2,x/4096%2,x/2048%2,x/1024%2,x/512%2,x/256%2,x/128%2,x/64%2,x/32%2,x/16%2,x/8%2,x/4%2,x/2%2,x%2]
theorem rG (x:Nat) (hx:x<65536) {C:Prop}(k:∀c0 c1 c2 c3 c4 c5 c6 c7 c8 c9 c10 c11 c12 c13 c14 c15 d1 d2 d3 d4 d5 d6 d7 d8 d9 d10 d11 d12 d13 d14 d15:Nat,(x%2=c0∧x/2%2=c1∧x/4%2=c2∧x/8%2=c3∧x/16%2=c4∧x/32%2=c5∧x/64%2=c6∧x/128%2=c7∧x/256%2=c8∧x/512%2=c9∧x/1024%2=c10∧x/2048%2=c11∧x/4096%2=c12∧x/8192%2=c13∧x/16384%2=c14∧x/32768%2=c15)→(x/2=d1∧x/4=d2∧x/8=d3∧x/16=d4∧x/32=d5∧x/64=d6∧x/128=d7∧x/256=d8∧x/512=d9∧x/1024=d10∧x/2048=d11∧x/4096=d12∧x/8192=d13∧x/16384=d14∧x/32768=d15)→(2*d1+c0=x∧2*d2+c1=d1∧2*d3+c2=d2∧2*d4+c3=d3∧2*d5+c4=d4∧2*d6+c5=d5∧2*d7+c6=d6∧2*d8+c7=d7∧2*d9+c8=d8∧2*d10+c9=d9∧2*d11+c10=d10∧2*d12+c11=d11∧2*d13+c12=d12∧2*d14+c13=d13∧2*d15+c14=d14∧c15=d15∧c0<2∧c1<2∧c2<2∧c3<2∧c4<2∧c5<2∧c6<2∧c7<2∧c8<2∧c9<2∧c10<2∧c11<2∧c12<2∧c13<2∧c14<2∧c15<2)→C):C :=
 k _ _ _ _ _ _ _ _ _ _ _ _ _ _ _ _ _ _ _ _ _ _ _ _ _ _ _ _ _ _ _ ⟨rfl,rfl,rfl,rfl,rfl,rfl,rfl,rfl,rfl,rfl,rfl,rfl,rfl,rfl,rfl,rfl⟩ ⟨rfl,rfl,rfl,rfl,rfl,rfl,rfl,rfl,rfl,rfl,rfl,rfl,rfl,rfl,rfl⟩ ⟨by omega,by omega,by omega,by omega,by omega,by omega,by omega,by omega,by omega,by omega,by omega,by omega,by omega,by omega,by omega,by omega,aq2 _ (by decide),aq2 _ (by decide),aq2 _ (by decide),aq2 _ (by decide),aq2 _ (by decide),aq2 _ (by decide),aq2 _ (by decide),aq2 _ (by decide),aq2 _ (by decide),aq2 _ (by decide),aq2 _ (by decide),aq2 _ (by decide),aq2 _ (by decide),aq2 _ (by decide),aq2 _ (by decide),aq2 _ (by decide)⟩
def nM (x y:Nat):List Nat:=[x/32768%2,x/16384%2,x/8192%2,x/4096%2,x/2048%2,x/1024%2,x/512%2,x/256%2,x/128%2,x/64%2,x/32%2,x/16%2,x/8%2,x/4%2,x/2%2,x%2,y/32768%2,y/16384%2,y/8192%2,y/4096%2,y/2048%2,y/1024%2,y/512%2,y/256%2,y/128%2,y/64%2,y/32%2,y/16%2,y/8%2,y/4%2,y/2%2,y%2]
theorem p9 {a1 a2 a3 a4 a5 a6 a7 b1 b2 b3 b4 b5 b6 b7:Int}{a8 b8:Bool}(h1:a1=b1) (h2:a2=b2) (h3:a3=b3) (h4:a4=b4) (h5:a5=b5) (h6:a6=b6) (h7:a7=b7) (h8:a8=b8) :
  some (⟨a1,a2,a3,a4,a5,a6,a7,a8⟩:lL)=some ⟨b1,b2,b3,b4,b5,b6,b7,b8⟩:=by subst h1 h2 h3 h4 h5 h6 h7 h8;rfl
theorem TY (v n:Nat) (hn:n≤30) (hv:v<4611686018427387904):t92 (v:Int) (n:Int)=some (if 2^n≤v then(v:Int)-2*((2^n:Nat):Int) else v):=by
 have hp:2^n≤2^30:=al2 (by decide) hn
 have hp0:0<2^n:=Nat.pow_pos (by decide)
 have key:∀d j:Nat,j+d=n→rX (CZ (n:Int)) (((2^j:Nat):Int),(j:Int))=some (.x 0,((2^n:Nat):Int),(n:Int)):=by
  intro d
  induction d with
  | zero =>
   intro j hj
   obtain rfl:j=n:=by omega
   refine mV ?_ (by simp)
   simp [CZ]
  | succ d ih =>
   intro j hj
   rw [oB (s':=(((2^(j+1):Nat):Int),((j+1:Nat):Int)))]
   ·exact ih (j+1) (by omega)
   ·have h1:((j:Int)<(n:Int)):=by omega
    simp only [CZ,h1,decide_true,lD,aa9,Prod.mk.injEq,true_and]
    refine⟨?_,?_⟩
    ·have hq:2^j≤2^60:=al2 (by decide) (by omega)
     rw [Nat.pow_succ]
     generalize 2^j=q at hq
     rw [lP _ (by omega) (by omega)];simp
    ·rw [lP _ (by omega) (by omega)];simp
 have h:=key n 0 (by omega)
 unfold t92
 have e:((1:Int),(0:Int))=(((2^0:Nat):Int),((0:Nat):Int)):=rfl
 rw [e,h]
 simp only [kS,uL,vO,beq_self_eq_true,if_true]
 generalize 2^n=q at *
 by_cases hc:q≤v
 ·have hc':(q:Int)≤(v:Int):=by omega
  rw [if_pos hc]
  simp only [hc',decide_true,lD]
  rw [lP (2*_) (by omega) (by omega),lP _ (by omega) (by omega)];rfl
 ·have hc':¬(q:Int)≤(v:Int):=by omega
  rw [if_neg hc]
  simp only [hc',decide_false,kX];rfl
def pM1 (x:Nat):Prop:=x=48896
def UH (x:Nat):lL:=⟨1,0,0,0,0,0,0,false⟩
theorem mm1 (x:Nat) (hx:x<65536):(rW MO (sE x)=true)↔pM1 x:=by
 unfold sE pM1
 rw [mt1]
 refine rG x hx ?_;intros;rename_i e g r;(try simp only [e]);(try simp only [g]);clear e g
 omega
theorem fx1 (x:Nat) (hx:x<65536):pL 1 false (nA MO (sE x) (r_ 1 false))=some (UH x):=by
 unfold sE
 rw [UW]
 simp only [pL,oS,oX,nR,nW,nS,nX,nY,ae2,decide_false,kX,kS,UH]
def pM2 (x:Nat):Prop:=x/256=190
def UI (x:Nat):lL:=⟨2,0,0,0,0,(x%256:Nat),0,false⟩
theorem mm2 (x:Nat) (hx:x<65536):(rW MP (sE x)=true)↔pM2 x:=by
 unfold sE pM2
 rw [mt2]
 refine rG x hx ?_;intros;rename_i e g r;(try simp only [e]);(try simp only [g]);clear e g
 omega
theorem fx2 (x:Nat) (hx:x<65536):pL 2 false (nA MP (sE x) (r_ 2 false))=some (UI x):=by
 unfold sE
 rw [aEb]
 simp only [pL,oS,oX,nR,nW,nS,nX,nY,ae2,decide_false,kX,kS,UI]
 refine rG x hx ?_;intros;rename_i e g r;(try simp only [e]);(try simp only [g]);clear e g
 refine p9 ?_ ?_ ?_ ?_ ?_ ?_ ?_ ?_ <;> first | rfl | omega
def Sr (x:Nat):Prop:=x/64=416
def E0 (x:Nat):lL:=⟨19,(x%8:Nat),(x/8%8:Nat),0,0,0,0,false⟩
theorem aDj (x:Nat) (hx:x<65536):(rW DM (sE x)=true)↔Sr x:=by
 unfold sE Sr
 rw [aDz]
 refine rG x hx ?_;intros;rename_i e g r;(try simp only [e]);(try simp only [g]);clear e g
 omega
theorem aCz (x:Nat) (hx:x<65536):pL 19 false (nA DM (sE x) (r_ 19 false))=some (E0 x):=by
 unfold sE
 rw [ayD]
 simp only [pL,oS,oX,nR,nW,nS,nX,nY,ae2,decide_false,kX,kS,E0]
 refine rG x hx ?_;intros;rename_i e g r;(try simp only [e]);(try simp only [g]);clear e g
 refine p9 ?_ ?_ ?_ ?_ ?_ ?_ ?_ ?_ <;> first | rfl | omega
def Ss (x:Nat):Prop:=x/64=384
def E5 (x:Nat):lL:=⟨20,(x%8:Nat),(x/8%8:Nat),0,0,0,0,false⟩
theorem aDk (x:Nat) (hx:x<65536):(rW DN (sE x)=true)↔Ss x:=by
 unfold sE Ss
 rw [aDA]
 refine rG x hx ?_;intros;rename_i e g r;(try simp only [e]);(try simp only [g]);clear e g
 omega
theorem aCA (x:Nat) (hx:x<65536):pL 20 false (nA DN (sE x) (r_ 20 false))=some (E5 x):=by
 unfold sE
 rw [ayE]
 simp only [pL,oS,oX,nR,nW,nS,nX,nY,ae2,decide_false,kX,kS,E5]
 refine rG x hx ?_;intros;rename_i e g r;(try simp only [e]);(try simp only [g]);clear e g
 refine p9 ?_ ?_ ?_ ?_ ?_ ?_ ?_ ?_ <;> first | rfl | omega
def Su (x:Nat):Prop:=x/64=480
def E7 (x:Nat):lL:=⟨21,(x%8:Nat),(x/8%8:Nat),0,0,0,0,false⟩
theorem aDl (x:Nat) (hx:x<65536):(rW DO (sE x)=true)↔Su x:=by
 unfold sE Su
 rw [aDB]
 refine rG x hx ?_;intros;rename_i e g r;(try simp only [e]);(try simp only [g]);clear e g
 omega
theorem aCB (x:Nat) (hx:x<65536):pL 21 false (nA DO (sE x) (r_ 21 false))=some (E7 x):=by
 unfold sE
 rw [ayF]
 simp only [pL,oS,oX,nR,nW,nS,nX,nY,ae2,decide_false,kX,kS,E7]
 refine rG x hx ?_;intros;rename_i e g r;(try simp only [e]);(try simp only [g]);clear e g
 refine p9 ?_ ?_ ?_ ?_ ?_ ?_ ?_ ?_ <;> first | rfl | omega
def Sv (x:Nat):Prop:=x/64=448
def E9 (x:Nat):lL:=⟨22,(x%8:Nat),(x/8%8:Nat),0,0,0,0,false⟩
theorem aDm (x:Nat) (hx:x<65536):(rW DP (sE x)=true)↔Sv x:=by
 unfold sE Sv
 rw [aDC]
 refine rG x hx ?_;intros;rename_i e g r;(try simp only [e]);(try simp only [g]);clear e g
 omega
theorem aCC (x:Nat) (hx:x<65536):pL 22 false (nA DP (sE x) (r_ 22 false))=some (E9 x):=by
 unfold sE
 rw [ayG]
 simp only [pL,oS,oX,nR,nW,nS,nX,nY,ae2,decide_false,kX,kS,E9]
 refine rG x hx ?_;intros;rename_i e g r;(try simp only [e]);(try simp only [g]);clear e g
 refine p9 ?_ ?_ ?_ ?_ ?_ ?_ ?_ ?_ <;> first | rfl | omega
def Sw (x:Nat):Prop:=x/64=266
def E_ (x:Nat):lL:=⟨23,0,(x%8:Nat),(x/8%8:Nat),0,0,0,false⟩
theorem aDn (x:Nat) (hx:x<65536):(rW DQ (sE x)=true)↔Sw x:=by
 unfold sE Sw
 rw [aDD]
 refine rG x hx ?_;intros;rename_i e g r;(try simp only [e]);(try simp only [g]);clear e g
 omega
theorem aCD (x:Nat) (hx:x<65536):pL 23 false (nA DQ (sE x) (r_ 23 false))=some (E_ x):=by
 unfold sE
 rw [ayH]
 simp only [pL,oS,oX,nR,nW,nS,nX,nY,ae2,decide_false,kX,kS,E_]
 refine rG x hx ?_;intros;rename_i e g r;(try simp only [e]);(try simp only [g]);clear e g
 refine p9 ?_ ?_ ?_ ?_ ?_ ?_ ?_ ?_ <;> first | rfl | omega
def Sx (x:Nat):Prop:=x/2048=28
def Fa (x:Nat):lL:=⟨24,0,0,0,0,2*xV (x%2048) 11,0,false⟩
theorem aDo (x:Nat) (hx:x<65536):(rW DR (sE x)=true)↔Sx x:=by
 unfold sE Sx
 rw [aDE]
 refine rG x hx ?_;intros;rename_i e g r;(try simp only [e]);(try simp only [g]);clear e g
 omega
def Sy (x:Nat):Prop:=x/4096=13
def Fb (x:Nat):lL:=⟨25,0,0,0,0,2*xV (x%256) 8,(x/256%16:Nat),false⟩
theorem aDp (x:Nat) (hx:x<65536):(rW DS (sE x)=true)↔Sy x:=by
 unfold sE Sy
 rw [aDF]
 refine rG x hx ?_;intros;rename_i e g r;(try simp only [e]);(try simp only [g]);clear e g
 omega
end
noncomputable section
open Go Hk
def pM3 (x y:Nat):Prop:=x/2048=30∧x/16%64=36∧y/32768=0
def UJ (x y:Nat):lL:=⟨3,(y/256%16:Nat),0,0,0,(JQ x y:Nat),0,false⟩
theorem mm3 (x y:Nat) (hx:x<65536) (hy:y<65536):(rW MQ (nM x y)=true)↔pM3 x y:=by
 unfold nM pM3
 rw [mt3]
 refine rG x hx ?_;intros;rename_i e g r;(try simp only [e]);(try simp only [g]);clear e g;refine rG y hy ?_;intros;rename_i e g s;(try simp only [e]);(try simp only [g]);clear e g
 omega
theorem fx3 (x y:Nat) (hx:x<65536) (hy:y<65536):pL 3 false (nA MQ (nM x y) (r_ 3 false))=some (UJ x y):=by
 unfold nM
 rw [aEc]
 simp only [pL,oS,oX,nR,nW,nS,nX,nY,ae2,decide_false,kX,kS,UJ,JQ]
 refine rG x hx ?_;intros;rename_i e g r;(try simp only [e]);(try simp only [g]);clear e g;refine rG y hy ?_;intros;rename_i e g s;(try simp only [e]);(try simp only [g]);clear e g
 refine p9 ?_ ?_ ?_ ?_ ?_ ?_ ?_ ?_ <;> first | rfl | omega
def pM4 (x y:Nat):Prop:=x/2048=30∧x/16%64=44∧y/32768=0
def UK (x y:Nat):lL:=⟨4,(y/256%16:Nat),0,0,0,(JQ x y:Nat),0,false⟩
theorem mm4 (x y:Nat) (hx:x<65536) (hy:y<65536):(rW MR (nM x y)=true)↔pM4 x y:=by
 unfold nM pM4
 rw [mt4]
 refine rG x hx ?_;intros;rename_i e g r;(try simp only [e]);(try simp only [g]);clear e g;refine rG y hy ?_;intros;rename_i e g s;(try simp only [e]);(try simp only [g]);clear e g
 omega
theorem fx4 (x y:Nat) (hx:x<65536) (hy:y<65536):pL 4 false (nA MR (nM x y) (r_ 4 false))=some (UK x y):=by
 unfold nM
 rw [aEd]
 simp only [pL,oS,oX,nR,nW,nS,nX,nY,ae2,decide_false,kX,kS,UK,JQ]
 refine rG x hx ?_;intros;rename_i e g r;(try simp only [e]);(try simp only [g]);clear e g;refine rG y hy ?_;intros;rename_i e g s;(try simp only [e]);(try simp only [g]);clear e g
 refine p9 ?_ ?_ ?_ ?_ ?_ ?_ ?_ ?_ <;> first | rfl | omega
def pM5 (x y:Nat):Prop:=x=59983∧y/32768=0∧y/16%4=0
def UL (x y:Nat):lL:=⟨5,(y/256%16:Nat),0,(y%16:Nat),0,(nU y:Nat),0,false⟩
theorem mm5 (x y:Nat) (hx:x<65536) (hy:y<65536):(rW MS (nM x y)=true)↔pM5 x y:=by
 unfold nM pM5
 rw [mt5]
 refine rG x hx ?_;intros;rename_i e g r;(try simp only [e]);(try simp only [g]);clear e g;refine rG y hy ?_;intros;rename_i e g s;(try simp only [e]);(try simp only [g]);clear e g
 omega
theorem fx5 (x y:Nat) (hx:x<65536) (hy:y<65536):pL 5 false (nA MS (nM x y) (r_ 5 false))=some (UL x y):=by
 unfold nM
 rw [aEe]
 simp only [pL,oS,oX,nR,nW,nS,nX,nY,ae2,decide_false,kX,kS,UL,nU]
 refine rG x hx ?_;intros;rename_i e g r;(try simp only [e]);(try simp only [g]);clear e g;refine rG y hy ?_;intros;rename_i e g s;(try simp only [e]);(try simp only [g]);clear e g
 refine p9 ?_ ?_ ?_ ?_ ?_ ?_ ?_ ?_ <;> first | rfl | omega
def pM6 (x y:Nat):Prop:=x=59983∧y/32768=0∧y/16%4=1
def UM (x y:Nat):lL:=⟨6,(y/256%16:Nat),0,(y%16:Nat),0,(nU y:Nat),0,false⟩
theorem mm6 (x y:Nat) (hx:x<65536) (hy:y<65536):(rW MT (nM x y)=true)↔pM6 x y:=by
 unfold nM pM6
 rw [mt6]
 refine rG x hx ?_;intros;rename_i e g r;(try simp only [e]);(try simp only [g]);clear e g;refine rG y hy ?_;intros;rename_i e g s;(try simp only [e]);(try simp only [g]);clear e g
 omega
theorem fx6 (x y:Nat) (hx:x<65536) (hy:y<65536):pL 6 false (nA MT (nM x y) (r_ 6 false))=some (UM x y):=by
 unfold nM
 rw [aEf]
 simp only [pL,oS,oX,nR,nW,nS,nX,nY,ae2,decide_false,kX,kS,UM,nU]
 refine rG x hx ?_;intros;rename_i e g r;(try simp only [e]);(try simp only [g]);clear e g;refine rG y hy ?_;intros;rename_i e g s;(try simp only [e]);(try simp only [g]);clear e g
 refine p9 ?_ ?_ ?_ ?_ ?_ ?_ ?_ ?_ <;> first | rfl | omega
def pM7 (x y:Nat):Prop:=x=59983∧y/32768=0∧y/16%4=2
def UN (x y:Nat):lL:=⟨7,(y/256%16:Nat),0,(y%16:Nat),0,(nU y:Nat),0,false⟩
theorem mm7 (x y:Nat) (hx:x<65536) (hy:y<65536):(rW MU (nM x y)=true)↔pM7 x y:=by
 unfold nM pM7
 rw [mt7]
 refine rG x hx ?_;intros;rename_i e g r;(try simp only [e]);(try simp only [g]);clear e g;refine rG y hy ?_;intros;rename_i e g s;(try simp only [e]);(try simp only [g]);clear e g
 omega
theorem fx7 (x y:Nat) (hx:x<65536) (hy:y<65536):pL 7 false (nA MU (nM x y) (r_ 7 false))=some (UN x y):=by
 unfold nM
 rw [aEg]
 simp only [pL,oS,oX,nR,nW,nS,nX,nY,ae2,decide_false,kX,kS,UN,nU]
 refine rG x hx ?_;intros;rename_i e g r;(try simp only [e]);(try simp only [g]);clear e g;refine rG y hy ?_;intros;rename_i e g s;(try simp only [e]);(try simp only [g]);clear e g
 refine p9 ?_ ?_ ?_ ?_ ?_ ?_ ?_ ?_ <;> first | rfl | omega
def pM8 (x y:Nat):Prop:=x=59983∧y/32768=0∧y/16%4=3
def UO (x y:Nat):lL:=⟨8,(y/256%16:Nat),0,(y%16:Nat),0,(nU y:Nat),0,false⟩
theorem mm8 (x y:Nat) (hx:x<65536) (hy:y<65536):(rW MV (nM x y)=true)↔pM8 x y:=by
 unfold nM pM8
 rw [mt8]
 refine rG x hx ?_;intros;rename_i e g r;(try simp only [e]);(try simp only [g]);clear e g;refine rG y hy ?_;intros;rename_i e g s;(try simp only [e]);(try simp only [g]);clear e g
 omega
theorem fx8 (x y:Nat) (hx:x<65536) (hy:y<65536):pL 8 false (nA MV (nM x y) (r_ 8 false))=some (UO x y):=by
 unfold nM
 rw [aEh]
 simp only [pL,oS,oX,nR,nW,nS,nX,nY,ae2,decide_false,kX,kS,UO,nU]
 refine rG x hx ?_;intros;rename_i e g r;(try simp only [e]);(try simp only [g]);clear e g;refine rG y hy ?_;intros;rename_i e g s;(try simp only [e]);(try simp only [g]);clear e g
 refine p9 ?_ ?_ ?_ ?_ ?_ ?_ ?_ ?_ <;> first | rfl | omega
def pM9 (x y:Nat):Prop:=x=60015∧y/4096=0∧y/16%16=0
def UP (x y:Nat):lL:=⟨9,(y/256%16:Nat),0,(y%16:Nat),0,0,0,false⟩
theorem mm9 (x y:Nat) (hx:x<65536) (hy:y<65536):(rW MW (nM x y)=true)↔pM9 x y:=by
 unfold nM pM9
 rw [mt9]
 refine rG x hx ?_;intros;rename_i e g r;(try simp only [e]);(try simp only [g]);clear e g;refine rG y hy ?_;intros;rename_i e g s;(try simp only [e]);(try simp only [g]);clear e g
 omega
theorem fx9 (x y:Nat) (hx:x<65536) (hy:y<65536):pL 9 false (nA MW (nM x y) (r_ 9 false))=some (UP x y):=by
 unfold nM
 rw [aEi]
 simp only [pL,oS,oX,nR,nW,nS,nX,nY,ae2,decide_false,kX,kS,UP]
 refine rG x hx ?_;intros;rename_i e g r;(try simp only [e]);(try simp only [g]);clear e g;refine rG y hy ?_;intros;rename_i e g s;(try simp only [e]);(try simp only [g]);clear e g
 refine p9 ?_ ?_ ?_ ?_ ?_ ?_ ?_ ?_ <;> first | rfl | omega
def MD (x y:Nat):Prop:=x/16=3744∧y/4096=0∧y/16%16=0
def ER (x y:Nat):lL:=⟨10,(y/256%16:Nat),(x%16:Nat),(y%16:Nat),0,0,0,false⟩
theorem aDa (x y:Nat) (hx:x<65536) (hy:y<65536):(rW DD (nM x y)=true)↔MD x y:=by
 unfold nM MD
 rw [aDq]
 refine rG x hx ?_;intros;rename_i e g r;(try simp only [e]);(try simp only [g]);clear e g;refine rG y hy ?_;intros;rename_i e g s;(try simp only [e]);(try simp only [g]);clear e g
 omega
theorem aCq (x y:Nat) (hx:x<65536) (hy:y<65536):pL 10 false (nA DD (nM x y) (r_ 10 false))=some (ER x y):=by
 unfold nM
 rw [ax4]
 simp only [pL,oS,oX,nR,nW,nS,nX,nY,ae2,decide_false,kX,kS,ER]
 refine rG x hx ?_;intros;rename_i e g r;(try simp only [e]);(try simp only [g]);clear e g;refine rG y hy ?_;intros;rename_i e g s;(try simp only [e]);(try simp only [g]);clear e g
 refine p9 ?_ ?_ ?_ ?_ ?_ ?_ ?_ ?_ <;> first | rfl | omega
def ME (x y:Nat):Prop:=x/16=3746∧y/4096=0∧y/16%16=0
def ES (x y:Nat):lL:=⟨11,(y/256%16:Nat),(x%16:Nat),(y%16:Nat),0,0,0,false⟩
theorem aDb (x y:Nat) (hx:x<65536) (hy:y<65536):(rW DE (nM x y)=true)↔ME x y:=by
 unfold nM ME
 rw [aDr]
 refine rG x hx ?_;intros;rename_i e g r;(try simp only [e]);(try simp only [g]);clear e g;refine rG y hy ?_;intros;rename_i e g s;(try simp only [e]);(try simp only [g]);clear e g
 omega
theorem aCr (x y:Nat) (hx:x<65536) (hy:y<65536):pL 11 false (nA DE (nM x y) (r_ 11 false))=some (ES x y):=by
 unfold nM
 rw [ax5]
 simp only [pL,oS,oX,nR,nW,nS,nX,nY,ae2,decide_false,kX,kS,ES]
 refine rG x hx ?_;intros;rename_i e g r;(try simp only [e]);(try simp only [g]);clear e g;refine rG y hy ?_;intros;rename_i e g s;(try simp only [e]);(try simp only [g]);clear e g
 refine p9 ?_ ?_ ?_ ?_ ?_ ?_ ?_ ?_ <;> first | rfl | omega
def MF (x y:Nat):Prop:=x/16=3748∧y/4096=0∧y/16%16=0
def ET (x y:Nat):lL:=⟨12,(y/256%16:Nat),(x%16:Nat),(y%16:Nat),0,0,0,false⟩
theorem aDc (x y:Nat) (hx:x<65536) (hy:y<65536):(rW DF (nM x y)=true)↔MF x y:=by
 unfold nM MF
 rw [aDs]
 refine rG x hx ?_;intros;rename_i e g r;(try simp only [e]);(try simp only [g]);clear e g;refine rG y hy ?_;intros;rename_i e g s;(try simp only [e]);(try simp only [g]);clear e g
 omega
theorem aCs (x y:Nat) (hx:x<65536) (hy:y<65536):pL 12 false (nA DF (nM x y) (r_ 12 false))=some (ET x y):=by
 unfold nM
 rw [ax6]
 simp only [pL,oS,oX,nR,nW,nS,nX,nY,ae2,decide_false,kX,kS,ET]
 refine rG x hx ?_;intros;rename_i e g r;(try simp only [e]);(try simp only [g]);clear e g;refine rG y hy ?_;intros;rename_i e g s;(try simp only [e]);(try simp only [g]);clear e g
 refine p9 ?_ ?_ ?_ ?_ ?_ ?_ ?_ ?_ <;> first | rfl | omega
def MG (x y:Nat):Prop:=x/16=3752∧y/4096=0∧y/16%16=0
def EU (x y:Nat):lL:=⟨13,(y/256%16:Nat),(x%16:Nat),(y%16:Nat),0,0,0,false⟩
theorem aDd (x y:Nat) (hx:x<65536) (hy:y<65536):(rW DG (nM x y)=true)↔MG x y:=by
 unfold nM MG
 rw [aDt]
 refine rG x hx ?_;intros;rename_i e g r;(try simp only [e]);(try simp only [g]);clear e g;refine rG y hy ?_;intros;rename_i e g s;(try simp only [e]);(try simp only [g]);clear e g
 omega
theorem aCt (x y:Nat) (hx:x<65536) (hy:y<65536):pL 13 false (nA DG (nM x y) (r_ 13 false))=some (EU x y):=by
 unfold nM
 rw [ax7]
 simp only [pL,oS,oX,nR,nW,nS,nX,nY,ae2,decide_false,kX,kS,EU]
 refine rG x hx ?_;intros;rename_i e g r;(try simp only [e]);(try simp only [g]);clear e g;refine rG y hy ?_;intros;rename_i e g s;(try simp only [e]);(try simp only [g]);clear e g
 refine p9 ?_ ?_ ?_ ?_ ?_ ?_ ?_ ?_ <;> first | rfl | omega
def MI (x y:Nat):Prop:=x/16=3760∧y/4096=0∧y/16%16=0
def EV (x y:Nat):lL:=⟨14,(y/256%16:Nat),(x%16:Nat),(y%16:Nat),0,0,0,false⟩
theorem aDe (x y:Nat) (hx:x<65536) (hy:y<65536):(rW DH (nM x y)=true)↔MI x y:=by
 unfold nM MI
 rw [aDu]
 refine rG x hx ?_;intros;rename_i e g r;(try simp only [e]);(try simp only [g]);clear e g;refine rG y hy ?_;intros;rename_i e g s;(try simp only [e]);(try simp only [g]);clear e g
 omega
theorem aCu (x y:Nat) (hx:x<65536) (hy:y<65536):pL 14 false (nA DH (nM x y) (r_ 14 false))=some (EV x y):=by
 unfold nM
 rw [ax8]
 simp only [pL,oS,oX,nR,nW,nS,nX,nY,ae2,decide_false,kX,kS,EV]
 refine rG x hx ?_;intros;rename_i e g r;(try simp only [e]);(try simp only [g]);clear e g;refine rG y hy ?_;intros;rename_i e g s;(try simp only [e]);(try simp only [g]);clear e g
 refine p9 ?_ ?_ ?_ ?_ ?_ ?_ ?_ ?_ <;> first | rfl | omega
def MJ (x y:Nat):Prop:=x/16=3770∧y/4096=0∧y/16%16=0
def EW (x y:Nat):lL:=⟨15,(y/256%16:Nat),(x%16:Nat),(y%16:Nat),0,0,0,false⟩
theorem aDf (x y:Nat) (hx:x<65536) (hy:y<65536):(rW DI (nM x y)=true)↔MJ x y:=by
 unfold nM MJ
 rw [aDv]
 refine rG x hx ?_;intros;rename_i e g r;(try simp only [e]);(try simp only [g]);clear e g;refine rG y hy ?_;intros;rename_i e g s;(try simp only [e]);(try simp only [g]);clear e g
 omega
theorem aCv (x y:Nat) (hx:x<65536) (hy:y<65536):pL 15 false (nA DI (nM x y) (r_ 15 false))=some (EW x y):=by
 unfold nM
 rw [ax9]
 simp only [pL,oS,oX,nR,nW,nS,nX,nY,ae2,decide_false,kX,kS,EW]
 refine rG x hx ?_;intros;rename_i e g r;(try simp only [e]);(try simp only [g]);clear e g;refine rG y hy ?_;intros;rename_i e g s;(try simp only [e]);(try simp only [g]);clear e g
 refine p9 ?_ ?_ ?_ ?_ ?_ ?_ ?_ ?_ <;> first | rfl | omega
def MK (x y:Nat):Prop:=x/16=4016∧y/4096=15∧y/16%16=0
def EX (x y:Nat):lL:=⟨16,(y/256%16:Nat),(x%16:Nat),(y%16:Nat),0,0,0,false⟩
theorem aDg (x y:Nat) (hx:x<65536) (hy:y<65536):(rW DJ (nM x y)=true)↔MK x y:=by
 unfold nM MK
 rw [aDw]
 refine rG x hx ?_;intros;rename_i e g r;(try simp only [e]);(try simp only [g]);clear e g;refine rG y hy ?_;intros;rename_i e g s;(try simp only [e]);(try simp only [g]);clear e g
 omega
theorem aCw (x y:Nat) (hx:x<65536) (hy:y<65536):pL 16 false (nA DJ (nM x y) (r_ 16 false))=some (EX x y):=by
 unfold nM
 rw [ayA]
 simp only [pL,oS,oX,nR,nW,nS,nX,nY,ae2,decide_false,kX,kS,EX]
 refine rG x hx ?_;intros;rename_i e g r;(try simp only [e]);(try simp only [g]);clear e g;refine rG y hy ?_;intros;rename_i e g s;(try simp only [e]);(try simp only [g]);clear e g
 refine p9 ?_ ?_ ?_ ?_ ?_ ?_ ?_ ?_ <;> first | rfl | omega
def ML (x y:Nat):Prop:=x/16=4026∧y/16%16=0
def EY (x y:Nat):lL:=⟨17,(y/4096:Nat),(x%16:Nat),(y%16:Nat),(y/256%16:Nat),0,0,false⟩
theorem aDh (x y:Nat) (hx:x<65536) (hy:y<65536):(rW DK (nM x y)=true)↔ML x y:=by
 unfold nM ML
 rw [aDx]
 refine rG x hx ?_;intros;rename_i e g r;(try simp only [e]);(try simp only [g]);clear e g;refine rG y hy ?_;intros;rename_i e g s;(try simp only [e]);(try simp only [g]);clear e g
 omega
theorem aCx (x y:Nat) (hx:x<65536) (hy:y<65536):pL 17 false (nA DK (nM x y) (r_ 17 false))=some (EY x y):=by
 unfold nM
 rw [ayB]
 simp only [pL,oS,oX,nR,nW,nS,nX,nY,ae2,decide_false,kX,kS,EY]
 refine rG x hx ?_;intros;rename_i e g r;(try simp only [e]);(try simp only [g]);clear e g;refine rG y hy ?_;intros;rename_i e g s;(try simp only [e]);(try simp only [g]);clear e g
 refine p9 ?_ ?_ ?_ ?_ ?_ ?_ ?_ ?_ <;> first | rfl | omega
def MM (x y:Nat):Prop:=x/16=3894∧y/32768=0∧y/32%2=0
def EZ (x y:Nat):lL:=⟨18,(y/256%16:Nat),(x%16:Nat),0,(y%32:Nat)+1-(nU y:Nat),(nU y:Nat),0,false⟩
theorem aDi (x y:Nat) (hx:x<65536) (hy:y<65536):(rW DL (nM x y)=true)↔MM x y:=by
 unfold nM MM
 rw [aDy]
 refine rG x hx ?_;intros;rename_i e g r;(try simp only [e]);(try simp only [g]);clear e g;refine rG y hy ?_;intros;rename_i e g s;(try simp only [e]);(try simp only [g]);clear e g
 omega
set_option maxHeartbeats 4000000 in
theorem aCy (x y:Nat) (hx:x<65536) (hy:y<65536):pL 18 false (nA DL (nM x y) (r_ 18 false))=some (EZ x y):=by
 have e1:16*((y/16%2:Nat):Int)+8*((y/8%2:Nat):Int)+4*((y/4%2:Nat):Int)+2*((y/2%2:Nat):Int)+((y%2:Nat):Int)=((y%32:Nat):Int):=by
  refine rG y hy ?_;intros;rename_i e g r;(try simp only [e]);(try simp only [g]);clear e g
  omega
 have e2:16*((y/16384%2:Nat):Int)+8*((y/8192%2:Nat):Int)+4*((y/4096%2:Nat):Int)+2*((y/128%2:Nat):Int)+1*((y/64%2:Nat):Int)=((nU y:Nat):Int):=by
  unfold nU
  refine rG y hy ?_;intros;rename_i e g r;(try simp only [e]);(try simp only [g]);clear e g
  omega
 have e3:8*((x/8%2:Nat):Int)+4*((x/4%2:Nat):Int)+2*((x/2%2:Nat):Int)+((x%2:Nat):Int)=((x%16:Nat):Int):=by
  refine rG x hx ?_;intros;rename_i e g r;(try simp only [e]);(try simp only [g]);clear e g
  omega
 have e4:8*((y/2048%2:Nat):Int)+4*((y/1024%2:Nat):Int)+2*((y/512%2:Nat):Int)+((y/256%2:Nat):Int)=((y/256%16:Nat):Int):=by
  refine rG y hy ?_;intros;rename_i e g r;(try simp only [e]);(try simp only [g]);clear e g
  omega
 unfold nM
 rw [ayC]
 have hw:IntKind.i64.wrap (IntKind.i64.wrap (((y%32:Nat):Int)+1)-((nU y:Nat):Int))=((y%32:Nat):Int)+1-((nU y:Nat):Int):=by
  rw [lP (((y%32:Nat):Int)+1) (by omega) (by omega),lP _ (by unfold nU;omega) (by unfold nU;omega)]
 rw [e1,e2,e3,e4]
 simp only [pL,oS,EZ,decide_true,lD,hw]
def DB (x y:Nat):Prop:=x/2048=30∧y/16384=2∧y/4096%2=1
def z_ (x y:Nat):lL:=⟨24,0,0,0,0,2*xV (Gk (x/1024%2*4+(1+y/8192%2+x/1024%2)%2*2+(1+y/2048%2+x/1024%2)%2) (x%1024) (y%2048)) 24,0,true⟩
theorem awF (x y:Nat) (hx:x<65536) (hy:y<65536):(rW Av (nM x y)=true)↔DB x y:=by
 unfold nM DB
 rw [awH]
 refine rG x hx ?_;intros;rename_i e g r;(try simp only [e]);(try simp only [g]);clear e g;refine rG y hy ?_;intros;rename_i e g s;(try simp only [e]);(try simp only [g]);clear e g
 omega
def DC (x y:Nat):Prop:=x/2048=30∧y/16384=2∧y/4096%2=0
def Aa (x y:Nat):lL:=⟨25,0,0,0,0,2*xV (C_ (x/1024%2*4+y/2048%2*2+y/8192%2) (x%64) (y%2048)) 20,(x/64%16:Nat),true⟩
theorem awG (x y:Nat) (hx:x<65536) (hy:y<65536):(rW Aw (nM x y)=true)↔DC x y:=by
 unfold nM DC
 rw [awI]
 refine rG x hx ?_;intros;rename_i e g r;(try simp only [e]);(try simp only [g]);clear e g;refine rG y hy ?_;intros;rename_i e g s;(try simp only [e]);(try simp only [g]);clear e g
 omega
end
section
open Go Hk
theorem aEm {v:Nat}(hv:v<2048):(if 2^11≤2*v then((2*v:Nat):Int)-2*((2^11:Nat):Int) else((2*v:Nat):Int))=2*xV v 11:=by
 unfold xV
 by_cases h:1024≤v
 ·rw [if_pos (by omega),if_pos (by omega)];omega
 ·rw [if_neg (by omega),if_neg (by omega)];omega
theorem sg8 {v:Nat}(hv:v<256):(if 2^8≤2*v then((2*v:Nat):Int)-2*((2^8:Nat):Int) else((2*v:Nat):Int))=2*xV v 8:=by
 unfold xV
 by_cases h:128≤v
 ·rw [if_pos (by omega),if_pos (by omega)];omega
 ·rw [if_neg (by omega),if_neg (by omega)];omega
theorem aEo {v:Nat}(hv:v<16777216):(if 2^24≤2*v then((2*v:Nat):Int)-2*((2^24:Nat):Int) else((2*v:Nat):Int))=2*xV v 24:=by
 unfold xV
 by_cases h:8388608≤v
 ·rw [if_pos (by omega),if_pos (by omega)];omega
 ·rw [if_neg (by omega),if_neg (by omega)];omega
theorem aEn {v:Nat}(hv:v<1048576):(if 2^20≤2*v then((2*v:Nat):Int)-2*((2^20:Nat):Int) else((2*v:Nat):Int))=2*xV v 20:=by
 unfold xV
 by_cases h:524288≤v
 ·rw [if_pos (by omega),if_pos (by omega)];omega
 ·rw [if_neg (by omega),if_neg (by omega)];omega
theorem aCE (x:Nat) (hx:x<65536):pL 24 false (nA DR (sE x) (r_ 24 false))=some (Fa x):=by
 have e1:2048*((x/1024%2:Nat):Int)+1024*((x/512%2:Nat):Int)+512*((x/256%2:Nat):Int)+256*((x/128%2:Nat):Int)+128*((x/64%2:Nat):Int)+64*((x/32%2:Nat):Int)+32*((x/16%2:Nat):Int)+16*((x/8%2:Nat):Int)+8*((x/4%2:Nat):Int)+4*((x/2%2:Nat):Int)+2*((x%2:Nat):Int)=((2*(x%2048):Nat):Int):=by
  refine rG x hx ?_;intros;rename_i e g r;(try simp only [e]);(try simp only [g]);clear e g
  omega
 unfold sE
 rw [ayI,e1]
 have t:=TY (2*(x%2048)) 11 (by decide) (by omega)
 rw [aEm (by omega)] at t
 have t2:t92 ((2*(x%2048):Nat):Int) 11=some (2*xV (x%2048) 11):=t
 simp only [pL,oS,oX,nR,nW,nS,nX,nY,ae2,decide_false,decide_true,kX,lD,kS,t2,Fa]
theorem aCF (x:Nat) (hx:x<65536):pL 25 false (nA DS (sE x) (r_ 25 false))=some (Fb x):=by
 have e1:256*((x/128%2:Nat):Int)+128*((x/64%2:Nat):Int)+64*((x/32%2:Nat):Int)+32*((x/16%2:Nat):Int)+16*((x/8%2:Nat):Int)+8*((x/4%2:Nat):Int)+4*((x/2%2:Nat):Int)+2*((x%2:Nat):Int)=((2*(x%256):Nat):Int):=by
  refine rG x hx ?_;intros;rename_i e g r;(try simp only [e]);(try simp only [g]);clear e g
  omega
 have e2:8*((x/2048%2:Nat):Int)+4*((x/1024%2:Nat):Int)+2*((x/512%2:Nat):Int)+((x/256%2:Nat):Int)=((x/256%16:Nat):Int):=by
  refine rG x hx ?_;intros;rename_i e g r;(try simp only [e]);(try simp only [g]);clear e g
  omega
 unfold sE
 rw [ayJ,e1,e2]
 have t:=TY (2*(x%256)) 8 (by decide) (by omega)
 rw [sg8 (by omega)] at t
 have t2:t92 ((2*(x%256):Nat):Int) 8=some (2*xV (x%256) 8):=t
 simp only [pL,oS,oX,nR,nW,nS,nX,nY,ae2,decide_false,decide_true,kX,lD,kS,t2,Fb]
end
section
open Go Hk
theorem aiJ {S J1 J2 HI LO:Nat}(hs:S<2) (h1:J1<2) (h2:J2<2) (hh:HI<1024) (hl:LO<2048) (f:Int→Option lL) :
  (tb ((qA (IntKind.wrap .i64 ((IntKind.wrap .i64 ((J1:Int)+(S:Int)))+1)) 2)) fun n239=>tb ((qA (IntKind.wrap .i64 ((IntKind.wrap .i64 ((J2:Int)+(S:Int)))+1)) 2)) fun n243=>tb ((t93 23)) fun r246=>tb ((t93 22)) fun r251 =>
   tb ((t92 (IntKind.wrap .i64 ((IntKind.wrap .i64 ((16777216*(S:Int)+((4096*HI+2*LO:Nat):Int))+(IntKind.wrap .i64 (n239*r246))))+(IntKind.wrap .i64 (n243*r251)))) 24)) fun r256=>f r256)
  = f (2*xV (Gk (S*4+(1+J1+S)%2*2+(1+J2+S)%2) HI LO) 24):=by
 have a23:t93 23=some 8388608:=XT 23 (by decide)
 have a22:t93 22=some 4194304:=XT 22 (by decide)
 have key:∀z:Nat,z<8→t92 ((2*((z*1024+HI)*2048+LO):Nat):Int) 24=some (2*xV ((z*1024+HI)*2048+LO) 24):=fun z hz=>by
  have t:=TY (2*((z*1024+HI)*2048+LO)) 24 (by decide) (by omega)
  rw [aEo (by omega)] at t
  exact t
 match S,J1,J2,hs,h1,h2 with
 | 0,0,0,_,_,_ =>
  have e1:qA (IntKind.wrap .i64 ((IntKind.wrap .i64 (((0:Nat):Int)+((0:Nat):Int)))+1)) 2=some 1:=by decide
  have e2:qA (IntKind.wrap .i64 ((IntKind.wrap .i64 (((0:Nat):Int)+((0:Nat):Int)))+1)) 2=some 1:=by decide
  have e3:IntKind.wrap .i64 (1*8388608)=8388608:=by decide
  have e4:IntKind.wrap .i64 (1*4194304)=4194304:=by decide
  have e5:IntKind.wrap .i64 (IntKind.wrap .i64 ((16777216*((0:Nat):Int)+((4096*HI+2*LO:Nat):Int))+8388608)+4194304)=((2*((3*1024+HI)*2048+LO):Nat):Int):=by
   rw [lP ((16777216*((0:Nat):Int)+((4096*HI+2*LO:Nat):Int))+8388608) (by omega) (by omega),lP _ (by omega) (by omega)];omega
  simp only [e1,e2,kS,a23,a22,e3,e4,e5,key 3 (by decide)];rfl
 | 0,0,1,_,_,_ =>
  have e1:qA (IntKind.wrap .i64 ((IntKind.wrap .i64 (((0:Nat):Int)+((0:Nat):Int)))+1)) 2=some 1:=by decide
  have e2:qA (IntKind.wrap .i64 ((IntKind.wrap .i64 (((1:Nat):Int)+((0:Nat):Int)))+1)) 2=some 0:=by decide
  have e3:IntKind.wrap .i64 (1*8388608)=8388608:=by decide
  have e4:IntKind.wrap .i64 (0*4194304)=0:=by decide
  have e5:IntKind.wrap .i64 (IntKind.wrap .i64 ((16777216*((0:Nat):Int)+((4096*HI+2*LO:Nat):Int))+8388608)+0)=((2*((2*1024+HI)*2048+LO):Nat):Int):=by
   rw [lP ((16777216*((0:Nat):Int)+((4096*HI+2*LO:Nat):Int))+8388608) (by omega) (by omega),lP _ (by omega) (by omega)];omega
  simp only [e1,e2,kS,a23,a22,e3,e4,e5,key 2 (by decide)];rfl
 | 0,1,0,_,_,_ =>
  have e1:qA (IntKind.wrap .i64 ((IntKind.wrap .i64 (((1:Nat):Int)+((0:Nat):Int)))+1)) 2=some 0:=by decide
  have e2:qA (IntKind.wrap .i64 ((IntKind.wrap .i64 (((0:Nat):Int)+((0:Nat):Int)))+1)) 2=some 1:=by decide
  have e3:IntKind.wrap .i64 (0*8388608)=0:=by decide
  have e4:IntKind.wrap .i64 (1*4194304)=4194304:=by decide
  have e5:IntKind.wrap .i64 (IntKind.wrap .i64 ((16777216*((0:Nat):Int)+((4096*HI+2*LO:Nat):Int))+0)+4194304)=((2*((1*1024+HI)*2048+LO):Nat):Int):=by
   rw [lP ((16777216*((0:Nat):Int)+((4096*HI+2*LO:Nat):Int))+0) (by omega) (by omega),lP _ (by omega) (by omega)];omega
  simp only [e1,e2,kS,a23,a22,e3,e4,e5,key 1 (by decide)];rfl
 | 0,1,1,_,_,_ =>
  have e1:qA (IntKind.wrap .i64 ((IntKind.wrap .i64 (((1:Nat):Int)+((0:Nat):Int)))+1)) 2=some 0:=by decide
  have e2:qA (IntKind.wrap .i64 ((IntKind.wrap .i64 (((1:Nat):Int)+((0:Nat):Int)))+1)) 2=some 0:=by decide
  have e3:IntKind.wrap .i64 (0*8388608)=0:=by decide
  have e4:IntKind.wrap .i64 (0*4194304)=0:=by decide
  have e5:IntKind.wrap .i64 (IntKind.wrap .i64 ((16777216*((0:Nat):Int)+((4096*HI+2*LO:Nat):Int))+0)+0)=((2*((0*1024+HI)*2048+LO):Nat):Int):=by
   rw [lP ((16777216*((0:Nat):Int)+((4096*HI+2*LO:Nat):Int))+0) (by omega) (by omega),lP _ (by omega) (by omega)];omega
  simp only [e1,e2,kS,a23,a22,e3,e4,e5,key 0 (by decide)];rfl
 | 1,0,0,_,_,_ =>
  have e1:qA (IntKind.wrap .i64 ((IntKind.wrap .i64 (((0:Nat):Int)+((1:Nat):Int)))+1)) 2=some 0:=by decide
  have e2:qA (IntKind.wrap .i64 ((IntKind.wrap .i64 (((0:Nat):Int)+((1:Nat):Int)))+1)) 2=some 0:=by decide
  have e3:IntKind.wrap .i64 (0*8388608)=0:=by decide
  have e4:IntKind.wrap .i64 (0*4194304)=0:=by decide
  have e5:IntKind.wrap .i64 (IntKind.wrap .i64 ((16777216*((1:Nat):Int)+((4096*HI+2*LO:Nat):Int))+0)+0)=((2*((4*1024+HI)*2048+LO):Nat):Int):=by
   rw [lP ((16777216*((1:Nat):Int)+((4096*HI+2*LO:Nat):Int))+0) (by omega) (by omega),lP _ (by omega) (by omega)];omega
  simp only [e1,e2,kS,a23,a22,e3,e4,e5,key 4 (by decide)];rfl
 | 1,0,1,_,_,_ =>
  have e1:qA (IntKind.wrap .i64 ((IntKind.wrap .i64 (((0:Nat):Int)+((1:Nat):Int)))+1)) 2=some 0:=by decide
  have e2:qA (IntKind.wrap .i64 ((IntKind.wrap .i64 (((1:Nat):Int)+((1:Nat):Int)))+1)) 2=some 1:=by decide
  have e3:IntKind.wrap .i64 (0*8388608)=0:=by decide
  have e4:IntKind.wrap .i64 (1*4194304)=4194304:=by decide
  have e5:IntKind.wrap .i64 (IntKind.wrap .i64 ((16777216*((1:Nat):Int)+((4096*HI+2*LO:Nat):Int))+0)+4194304)=((2*((5*1024+HI)*2048+LO):Nat):Int):=by
   rw [lP ((16777216*((1:Nat):Int)+((4096*HI+2*LO:Nat):Int))+0) (by omega) (by omega),lP _ (by omega) (by omega)];omega
  simp only [e1,e2,kS,a23,a22,e3,e4,e5,key 5 (by decide)];rfl
 | 1,1,0,_,_,_ =>
  have e1:qA (IntKind.wrap .i64 ((IntKind.wrap .i64 (((1:Nat):Int)+((1:Nat):Int)))+1)) 2=some 1:=by decide
  have e2:qA (IntKind.wrap .i64 ((IntKind.wrap .i64 (((0:Nat):Int)+((1:Nat):Int)))+1)) 2=some 0:=by decide
  have e3:IntKind.wrap .i64 (1*8388608)=8388608:=by decide
  have e4:IntKind.wrap .i64 (0*4194304)=0:=by decide
  have e5:IntKind.wrap .i64 (IntKind.wrap .i64 ((16777216*((1:Nat):Int)+((4096*HI+2*LO:Nat):Int))+8388608)+0)=((2*((6*1024+HI)*2048+LO):Nat):Int):=by
   rw [lP ((16777216*((1:Nat):Int)+((4096*HI+2*LO:Nat):Int))+8388608) (by omega) (by omega),lP _ (by omega) (by omega)];omega
  simp only [e1,e2,kS,a23,a22,e3,e4,e5,key 6 (by decide)];rfl
 | 1,1,1,_,_,_ =>
  have e1:qA (IntKind.wrap .i64 ((IntKind.wrap .i64 (((1:Nat):Int)+((1:Nat):Int)))+1)) 2=some 1:=by decide
  have e2:qA (IntKind.wrap .i64 ((IntKind.wrap .i64 (((1:Nat):Int)+((1:Nat):Int)))+1)) 2=some 1:=by decide
  have e3:IntKind.wrap .i64 (1*8388608)=8388608:=by decide
  have e4:IntKind.wrap .i64 (1*4194304)=4194304:=by decide
  have e5:IntKind.wrap .i64 (IntKind.wrap .i64 ((16777216*((1:Nat):Int)+((4096*HI+2*LO:Nat):Int))+8388608)+4194304)=((2*((7*1024+HI)*2048+LO):Nat):Int):=by
   rw [lP ((16777216*((1:Nat):Int)+((4096*HI+2*LO:Nat):Int))+8388608) (by omega) (by omega),lP _ (by omega) (by omega)];omega
  simp only [e1,e2,kS,a23,a22,e3,e4,e5,key 7 (by decide)];rfl
end
section
open Go Hk
theorem at2 (x:Nat) (hx:x<65536):2097152*((x/512%2:Nat):Int)+1048576*((x/256%2:Nat):Int)+524288*((x/128%2:Nat):Int)+262144*((x/64%2:Nat):Int)+131072*((x/32%2:Nat):Int)+65536*((x/16%2:Nat):Int)+32768*((x/8%2:Nat):Int)+16384*((x/4%2:Nat):Int)+8192*((x/2%2:Nat):Int)+4096*((x%2:Nat):Int)=((4096*(x%1024):Nat):Int):=by
 refine rG x hx ?_;intros;rename_i e g r;(try simp only [e]);(try simp only [g]);clear e g
 omega
theorem aeZ (y:Nat) (hy:y<65536):2048*((y/1024%2:Nat):Int)+1024*((y/512%2:Nat):Int)+512*((y/256%2:Nat):Int)+256*((y/128%2:Nat):Int)+128*((y/64%2:Nat):Int)+64*((y/32%2:Nat):Int)+32*((y/16%2:Nat):Int)+16*((y/8%2:Nat):Int)+8*((y/4%2:Nat):Int)+4*((y/2%2:Nat):Int)+2*((y%2:Nat):Int)=((2*(y%2048):Nat):Int):=by
 refine rG y hy ?_;intros;rename_i e g r;(try simp only [e]);(try simp only [g]);clear e g
 omega
set_option maxHeartbeats 4000000 in
theorem atX (x y:Nat) (hx:x<65536) (hy:y<65536):pL 24 true (nA Av (nM x y) (r_ 24 true))=some (z_ x y):=by
 have e1:16777216*((x/1024%2:Nat):Int)+2097152*((x/512%2:Nat):Int)+1048576*((x/256%2:Nat):Int)+524288*((x/128%2:Nat):Int)+262144*((x/64%2:Nat):Int)+131072*((x/32%2:Nat):Int)+65536*((x/16%2:Nat):Int)+32768*((x/8%2:Nat):Int)+16384*((x/4%2:Nat):Int)+8192*((x/2%2:Nat):Int)+4096*((x%2:Nat):Int)+2048*((y/1024%2:Nat):Int)+1024*((y/512%2:Nat):Int)+512*((y/256%2:Nat):Int)+256*((y/128%2:Nat):Int)+128*((y/64%2:Nat):Int)+64*((y/32%2:Nat):Int)+32*((y/16%2:Nat):Int)+16*((y/8%2:Nat):Int)+8*((y/4%2:Nat):Int)+4*((y/2%2:Nat):Int)+2*((y%2:Nat):Int)=16777216*((x/1024%2:Nat):Int)+((4096*(x%1024)+2*(y%2048):Nat):Int):=by
  have h1:=at2 x hx
  have h2:=aeZ y hy
  generalize x%1024=xR at *
  generalize x%2=xc0 at *
  generalize x/2%2=xc1 at *
  generalize x/4%2=xc2 at *
  generalize x/8%2=xc3 at *
  generalize x/16%2=xc4 at *
  generalize x/32%2=xc5 at *
  generalize x/64%2=xc6 at *
  generalize x/128%2=xc7 at *
  generalize x/256%2=xc8 at *
  generalize x/512%2=xc9 at *
  generalize x/1024%2=xc10 at *
  generalize x/2048%2=xc11 at *
  generalize x/4096%2=xc12 at *
  generalize x/8192%2=xc13 at *
  generalize x/16384%2=xc14 at *
  generalize x/32768%2=xc15 at *
  generalize y%2048=yR at *
  generalize y%2=yc0 at *
  generalize y/2%2=yc1 at *
  generalize y/4%2=yc2 at *
  generalize y/8%2=yc3 at *
  generalize y/16%2=yc4 at *
  generalize y/32%2=yc5 at *
  generalize y/64%2=yc6 at *
  generalize y/128%2=yc7 at *
  generalize y/256%2=yc8 at *
  generalize y/512%2=yc9 at *
  generalize y/1024%2=yc10 at *
  generalize y/2048%2=yc11 at *
  generalize y/4096%2=yc12 at *
  generalize y/8192%2=yc13 at *
  generalize y/16384%2=yc14 at *
  generalize y/32768%2=yc15 at *
  omega
 unfold nM
 rw [aoQ,e1]
 have t:=aiJ (S:=x/1024%2) (J1:=y/8192%2) (J2:=y/2048%2) (HI:=x%1024) (LO:=y%2048) (aq2 _ (by decide)) (aq2 _ (by decide)) (aq2 _ (by decide)) (aq2 _ (by decide)) (aq2 _ (by decide)) fun r=>some ⟨24,0,0,0,0,r,0,true⟩
 clear e1
 simp only [pL,oS,oX,nR,ae2,decide_false,decide_true,kX,lD,z_]
 simp only [t,kS]
theorem at3 (x:Nat) (hx:x<65536):131072*((x/32%2:Nat):Int)+65536*((x/16%2:Nat):Int)+32768*((x/8%2:Nat):Int)+16384*((x/4%2:Nat):Int)+8192*((x/2%2:Nat):Int)+4096*((x%2:Nat):Int)=((4096*(x%64):Nat):Int):=by
 refine rG x hx ?_;intros;rename_i e g r;(try simp only [e]);(try simp only [g]);clear e g
 omega
set_option maxHeartbeats 4000000 in
theorem atY (x y:Nat) (hx:x<65536) (hy:y<65536):pL 25 true (nA Aw (nM x y) (r_ 25 true))=some (Aa x y):=by
 have hv:C_ (x/1024%2*4+y/2048%2*2+y/8192%2) (x%64) (y%2048)<1048576:=by unfold C_;omega
 have t:=TY (2*C_ (x/1024%2*4+y/2048%2*2+y/8192%2) (x%64) (y%2048)) 20 (by decide) (by omega)
 rw [aEn hv] at t
 have t2:t92 ((2*C_ (x/1024%2*4+y/2048%2*2+y/8192%2) (x%64) (y%2048):Nat):Int) 20=some _:=t
 have e1:1048576*((x/1024%2:Nat):Int)+131072*((x/32%2:Nat):Int)+65536*((x/16%2:Nat):Int)+32768*((x/8%2:Nat):Int)+16384*((x/4%2:Nat):Int)+8192*((x/2%2:Nat):Int)+4096*((x%2:Nat):Int)+262144*((y/8192%2:Nat):Int)+524288*((y/2048%2:Nat):Int)+2048*((y/1024%2:Nat):Int)+1024*((y/512%2:Nat):Int)+512*((y/256%2:Nat):Int)+256*((y/128%2:Nat):Int)+128*((y/64%2:Nat):Int)+64*((y/32%2:Nat):Int)+32*((y/16%2:Nat):Int)+16*((y/8%2:Nat):Int)+8*((y/4%2:Nat):Int)+4*((y/2%2:Nat):Int)+2*((y%2:Nat):Int)=((2*C_ (x/1024%2*4+y/2048%2*2+y/8192%2) (x%64) (y%2048):Nat):Int):=by
  clear t t2 hv
  have h1:=at3 x hx
  have h2:=aeZ y hy
  unfold C_
  generalize x%64=xR at *
  generalize x%2=xc0 at *
  generalize x/2%2=xc1 at *
  generalize x/4%2=xc2 at *
  generalize x/8%2=xc3 at *
  generalize x/16%2=xc4 at *
  generalize x/32%2=xc5 at *
  generalize x/64%2=xc6 at *
  generalize x/128%2=xc7 at *
  generalize x/256%2=xc8 at *
  generalize x/512%2=xc9 at *
  generalize x/1024%2=xc10 at *
  generalize x/2048%2=xc11 at *
  generalize x/4096%2=xc12 at *
  generalize x/8192%2=xc13 at *
  generalize x/16384%2=xc14 at *
  generalize x/32768%2=xc15 at *
  generalize y%2048=yR at *
  generalize y%2=yc0 at *
  generalize y/2%2=yc1 at *
  generalize y/4%2=yc2 at *
  generalize y/8%2=yc3 at *
  generalize y/16%2=yc4 at *
  generalize y/32%2=yc5 at *
  generalize y/64%2=yc6 at *
  generalize y/128%2=yc7 at *
  generalize y/256%2=yc8 at *
  generalize y/512%2=yc9 at *
  generalize y/1024%2=yc10 at *
  generalize y/2048%2=yc11 at *
  generalize y/4096%2=yc12 at *
  generalize y/8192%2=yc13 at *
  generalize y/16384%2=yc14 at *
  generalize y/32768%2=yc15 at *
  omega
 have e2:8*((x/512%2:Nat):Int)+4*((x/256%2:Nat):Int)+2*((x/128%2:Nat):Int)+((x/64%2:Nat):Int)=((x/64%16:Nat):Int):=by
  clear t t2 hv e1
  refine rG x hx ?_;intros;rename_i e g r;(try simp only [e]);(try simp only [g]);clear e g
  omega
 unfold nM
 rw [aoR,e1,e2]
 simp only [pL,oS,oX,nR,nW,nS,nX,nY,ae2,decide_false,decide_true,kX,lD,kS,t2,Aa]
end
section
open Go Hk
def Dc (k:Int) (w:Bool) (b:List UInt8) (M:Prop) (I:lL):Prop:=(M→t65 k w b=some (I,true))∧(¬M→∃i,t65 k w b=some (i,false))
theorem sU {k:Int}{w:Bool}{p:List UInt8}{bs:List Nat}{M Ok:Prop}{I:lL}(hP:t90 k w=some p) (hne:p≠[]) (hl:p.length=bs.length) (hp:p.length≤32) (hc:∀c∈p,Bq c.toNat=true) (hb:∀b∈bs,b<2)
  (mm:(rW p bs=true)↔M) (fx:pL k w (nA p bs (r_ k w))=some I) (ok:∃e,t66 I=some e∧(e=0↔Ok)):Dc k w (bs.map FK) (M∧Ok) I:=by
 obtain⟨g1,g2⟩:=ac4 hP hne bs hl hp hc hb
 obtain⟨e,he,hO⟩:=ok
 refine⟨fun h=>?_,fun h=>?_⟩
 ·rw [g2 (mm.2 h.1) I e fx he,decide_eq_true (hO.2 h.2)]
 ·cases hm:rW p bs
  ·exact⟨_,g1 hm⟩
  ·refine⟨I,?_⟩
   rw [g2 hm I e fx he,decide_eq_false fun q=>h ⟨mm.1 hm,hO.1 q⟩]
theorem vD (x:Nat):(sE x).map FK=tJ x 16:=by simp [sE,tJ]
theorem pP (x y:Nat):(nM x y).map FK=tJ x 16++tJ y 16:=by simp [nM,tJ]
theorem m2 (a:Nat):a%2<2:=aq2 _ (by decide)
theorem vC (x:Nat):∀b∈sE x,b<2:=by
 intro b hb
 simp only [sE,List.mem_cons,List.not_mem_nil,or_false] at hb
 rcases hb with rfl | rfl | rfl | rfl | rfl | rfl | rfl | rfl | rfl | rfl | rfl | rfl | rfl | rfl | rfl | rfl <;> exact m2 _
theorem rE (x y:Nat):∀b∈nM x y,b<2:=by
 intro b hb
 have e:nM x y=sE x++sE y:=rfl
 rw [e,List.mem_append] at hb
 rcases hb with h | h
 ·exact vC x b h
 ·exact vC y b h
theorem aDJ:∀c∈MO,Bq c.toNat=true:=by decide
theorem rd1 (x:Nat) (hx:x<65536):Dc 1 false (tJ x 16) (pM1 x∧Yw (UH x)) (UH x):=by
 rw [←vD]
 exact sU (p:=MO) rfl (by simp [MO]) rfl (by decide) aDJ (vC x) (mm1 x hx) (fx1 x hx) ((mH (UH x)).1 rfl rfl)
theorem aDK:∀c∈MP,Bq c.toNat=true:=by decide
theorem rd2 (x:Nat) (hx:x<65536):Dc 2 false (tJ x 16) (pM2 x∧Yx (UI x)) (UI x):=by
 rw [←vD]
 exact sU (p:=MP) rfl (by simp [MP]) rfl (by decide) aDK (vC x) (mm2 x hx) (fx2 x hx) ((mH (UI x)).2.1 rfl rfl)
theorem aDL:∀c∈MQ,Bq c.toNat=true:=by decide
theorem rd3 (x y:Nat) (hx:x<65536) (hy:y<65536):Dc 3 false (tJ x 16++tJ y 16) (pM3 x y∧Vq (UJ x y)) (UJ x y):=by
 rw [←pP]
 exact sU (p:=MQ) rfl (by simp [MQ]) rfl (by decide) aDL (rE x y) (mm3 x y hx hy) (fx3 x y hx hy) ((mH (UJ x y)).2.2.1 rfl rfl)
theorem aDM:∀c∈MR,Bq c.toNat=true:=by decide
theorem rd4 (x y:Nat) (hx:x<65536) (hy:y<65536):Dc 4 false (tJ x 16++tJ y 16) (pM4 x y∧Vr (UK x y)) (UK x y):=by
 rw [←pP]
 exact sU (p:=MR) rfl (by simp [MR]) rfl (by decide) aDM (rE x y) (mm4 x y hx hy) (fx4 x y hx hy) ((mH (UK x y)).2.2.2.1 rfl rfl)
theorem aDN:∀c∈MS,Bq c.toNat=true:=by decide
theorem rd5 (x y:Nat) (hx:x<65536) (hy:y<65536):Dc 5 false (tJ x 16++tJ y 16) (pM5 x y∧Vt (UL x y)) (UL x y):=by
 rw [←pP]
 exact sU (p:=MS) rfl (by simp [MS]) rfl (by decide) aDN (rE x y) (mm5 x y hx hy) (fx5 x y hx hy) ((mH (UL x y)).2.2.2.2.1 rfl rfl)
theorem aDO:∀c∈MT,Bq c.toNat=true:=by decide
theorem rd6 (x y:Nat) (hx:x<65536) (hy:y<65536):Dc 6 false (tJ x 16++tJ y 16) (pM6 x y∧Vu (UM x y)) (UM x y):=by
 rw [←pP]
 exact sU (p:=MT) rfl (by simp [MT]) rfl (by decide) aDO (rE x y) (mm6 x y hx hy) (fx6 x y hx hy) ((mH (UM x y)).2.2.2.2.2.1 rfl rfl)
theorem aDP:∀c∈MU,Bq c.toNat=true:=by decide
theorem rd7 (x y:Nat) (hx:x<65536) (hy:y<65536):Dc 7 false (tJ x 16++tJ y 16) (pM7 x y∧Vv (UN x y)) (UN x y):=by
 rw [←pP]
 exact sU (p:=MU) rfl (by simp [MU]) rfl (by decide) aDP (rE x y) (mm7 x y hx hy) (fx7 x y hx hy) ((mH (UN x y)).2.2.2.2.2.2.1 rfl rfl)
theorem aDQ:∀c∈MV,Bq c.toNat=true:=by decide
theorem rd8 (x y:Nat) (hx:x<65536) (hy:y<65536):Dc 8 false (tJ x 16++tJ y 16) (pM8 x y∧Vw (UO x y)) (UO x y):=by
 rw [←pP]
 exact sU (p:=MV) rfl (by simp [MV]) rfl (by decide) aDQ (rE x y) (mm8 x y hx hy) (fx8 x y hx hy) ((mH (UO x y)).2.2.2.2.2.2.2.1 rfl rfl)
theorem aDR:∀c∈MW,Bq c.toNat=true:=by decide
theorem rd9 (x y:Nat) (hx:x<65536) (hy:y<65536):Dc 9 false (tJ x 16++tJ y 16) (pM9 x y∧Vx (UP x y)) (UP x y):=by
 rw [←pP]
 exact sU (p:=MW) rfl (by simp [MW]) rfl (by decide) aDR (rE x y) (mm9 x y hx hy) (fx9 x y hx hy) ((mH (UP x y)).2.2.2.2.2.2.2.2.1 rfl rfl)
theorem awP:∀c∈DD,Bq c.toNat=true:=by decide
theorem axJ (x y:Nat) (hx:x<65536) (hy:y<65536):Dc 10 false (tJ x 16++tJ y 16) (MD x y∧Ha (ER x y)) (ER x y):=by
 rw [←pP]
 exact sU (p:=DD) rfl (by simp [DD]) rfl (by decide) awP (rE x y) (aDa x y hx hy) (aCq x y hx hy) ((mH (ER x y)).2.2.2.2.2.2.2.2.2.1 rfl rfl)
theorem awQ:∀c∈DE,Bq c.toNat=true:=by decide
theorem axK (x y:Nat) (hx:x<65536) (hy:y<65536):Dc 11 false (tJ x 16++tJ y 16) (ME x y∧Hb (ES x y)) (ES x y):=by
 rw [←pP]
 exact sU (p:=DE) rfl (by simp [DE]) rfl (by decide) awQ (rE x y) (aDb x y hx hy) (aCr x y hx hy) ((mH (ES x y)).2.2.2.2.2.2.2.2.2.2.1 rfl rfl)
theorem awR:∀c∈DF,Bq c.toNat=true:=by decide
theorem axL (x y:Nat) (hx:x<65536) (hy:y<65536):Dc 12 false (tJ x 16++tJ y 16) (MF x y∧Hc (ET x y)) (ET x y):=by
 rw [←pP]
 exact sU (p:=DF) rfl (by simp [DF]) rfl (by decide) awR (rE x y) (aDc x y hx hy) (aCs x y hx hy) ((mH (ET x y)).2.2.2.2.2.2.2.2.2.2.2.1 rfl rfl)
theorem awS:∀c∈DG,Bq c.toNat=true:=by decide
theorem axM (x y:Nat) (hx:x<65536) (hy:y<65536):Dc 13 false (tJ x 16++tJ y 16) (MG x y∧He (EU x y)) (EU x y):=by
 rw [←pP]
 exact sU (p:=DG) rfl (by simp [DG]) rfl (by decide) awS (rE x y) (aDd x y hx hy) (aCt x y hx hy) ((mH (EU x y)).2.2.2.2.2.2.2.2.2.2.2.2.1 rfl rfl)
theorem awT:∀c∈DH,Bq c.toNat=true:=by decide
theorem axN (x y:Nat) (hx:x<65536) (hy:y<65536):Dc 14 false (tJ x 16++tJ y 16) (MI x y∧Hf (EV x y)) (EV x y):=by
 rw [←pP]
 exact sU (p:=DH) rfl (by simp [DH]) rfl (by decide) awT (rE x y) (aDe x y hx hy) (aCu x y hx hy) ((mH (EV x y)).2.2.2.2.2.2.2.2.2.2.2.2.2.1 rfl rfl)
theorem awU:∀c∈DI,Bq c.toNat=true:=by decide
theorem axO (x y:Nat) (hx:x<65536) (hy:y<65536):Dc 15 false (tJ x 16++tJ y 16) (MJ x y∧Hg (EW x y)) (EW x y):=by
 rw [←pP]
 exact sU (p:=DI) rfl (by simp [DI]) rfl (by decide) awU (rE x y) (aDf x y hx hy) (aCv x y hx hy) ((mH (EW x y)).2.2.2.2.2.2.2.2.2.2.2.2.2.2.1 rfl rfl)
theorem awV:∀c∈DJ,Bq c.toNat=true:=by decide
theorem axP (x y:Nat) (hx:x<65536) (hy:y<65536):Dc 16 false (tJ x 16++tJ y 16) (MK x y∧Hi (EX x y)) (EX x y):=by
 rw [←pP]
 exact sU (p:=DJ) rfl (by simp [DJ]) rfl (by decide) awV (rE x y) (aDg x y hx hy) (aCw x y hx hy) ((mH (EX x y)).2.2.2.2.2.2.2.2.2.2.2.2.2.2.2.1 rfl rfl)
theorem awW:∀c∈DK,Bq c.toNat=true:=by decide
theorem axQ (x y:Nat) (hx:x<65536) (hy:y<65536):Dc 17 false (tJ x 16++tJ y 16) (ML x y∧Hj (EY x y)) (EY x y):=by
 rw [←pP]
 exact sU (p:=DK) rfl (by simp [DK]) rfl (by decide) awW (rE x y) (aDh x y hx hy) (aCx x y hx hy) ((mH (EY x y)).2.2.2.2.2.2.2.2.2.2.2.2.2.2.2.2.1 rfl rfl)
theorem awX:∀c∈DL,Bq c.toNat=true:=by decide
theorem axR (x y:Nat) (hx:x<65536) (hy:y<65536):Dc 18 false (tJ x 16++tJ y 16) (MM x y∧Hl (EZ x y)) (EZ x y):=by
 rw [←pP]
 exact sU (p:=DL) rfl (by simp [DL]) rfl (by decide) awX (rE x y) (aDi x y hx hy) (aCy x y hx hy) ((mH (EZ x y)).2.2.2.2.2.2.2.2.2.2.2.2.2.2.2.2.2.1 rfl rfl)
theorem awY:∀c∈DM,Bq c.toNat=true:=by decide
theorem axS (x:Nat) (hx:x<65536):Dc 19 false (tJ x 16) (Sr x∧KL (E0 x)) (E0 x):=by
 rw [←vD]
 exact sU (p:=DM) rfl (by simp [DM]) rfl (by decide) awY (vC x) (aDj x hx) (aCz x hx) ((mH (E0 x)).2.2.2.2.2.2.2.2.2.2.2.2.2.2.2.2.2.2.1 rfl rfl)
theorem awZ:∀c∈DN,Bq c.toNat=true:=by decide
theorem axT (x:Nat) (hx:x<65536):Dc 20 false (tJ x 16) (Ss x∧KM (E5 x)) (E5 x):=by
 rw [←vD]
 exact sU (p:=DN) rfl (by simp [DN]) rfl (by decide) awZ (vC x) (aDk x hx) (aCA x hx) ((mH (E5 x)).2.2.2.2.2.2.2.2.2.2.2.2.2.2.2.2.2.2.2.1 rfl rfl)
theorem aw0:∀c∈DO,Bq c.toNat=true:=by decide
theorem axU (x:Nat) (hx:x<65536):Dc 21 false (tJ x 16) (Su x∧KN (E7 x)) (E7 x):=by
 rw [←vD]
 exact sU (p:=DO) rfl (by simp [DO]) rfl (by decide) aw0 (vC x) (aDl x hx) (aCB x hx) ((mH (E7 x)).2.2.2.2.2.2.2.2.2.2.2.2.2.2.2.2.2.2.2.2.1 rfl rfl)
theorem aw1:∀c∈DP,Bq c.toNat=true:=by decide
theorem axV (x:Nat) (hx:x<65536):Dc 22 false (tJ x 16) (Sv x∧KO (E9 x)) (E9 x):=by
 rw [←vD]
 exact sU (p:=DP) rfl (by simp [DP]) rfl (by decide) aw1 (vC x) (aDm x hx) (aCC x hx) ((mH (E9 x)).2.2.2.2.2.2.2.2.2.2.2.2.2.2.2.2.2.2.2.2.2.1 rfl rfl)
theorem aw2:∀c∈DQ,Bq c.toNat=true:=by decide
theorem axW (x:Nat) (hx:x<65536):Dc 23 false (tJ x 16) (Sw x∧KP (E_ x)) (E_ x):=by
 rw [←vD]
 exact sU (p:=DQ) rfl (by simp [DQ]) rfl (by decide) aw2 (vC x) (aDn x hx) (aCD x hx) ((mH (E_ x)).2.2.2.2.2.2.2.2.2.2.2.2.2.2.2.2.2.2.2.2.2.2.1 rfl rfl)
theorem aw3:∀c∈DR,Bq c.toNat=true:=by decide
theorem axX (x:Nat) (hx:x<65536):Dc 24 false (tJ x 16) (Sx x∧KQ (Fa x)) (Fa x):=by
 rw [←vD]
 exact sU (p:=DR) rfl (by simp [DR]) rfl (by decide) aw3 (vC x) (aDo x hx) (aCE x hx) ((mH (Fa x)).2.2.2.2.2.2.2.2.2.2.2.2.2.2.2.2.2.2.2.2.2.2.2.1 rfl rfl)
theorem alY:∀c∈Av,Bq c.toNat=true:=by decide
theorem afG (x y:Nat) (hx:x<65536) (hy:y<65536):Dc 24 true (tJ x 16++tJ y 16) (DB x y∧A1 (z_ x y)) (z_ x y):=by
 rw [←pP]
 exact sU (p:=Av) rfl (by simp [Av]) rfl (by decide) alY (rE x y) (awF x y hx hy) (atX x y hx hy) ((mH (z_ x y)).2.2.2.2.2.2.2.2.2.2.2.2.2.2.2.2.2.2.2.2.2.2.2.2.2.1 rfl rfl)
theorem aw4:∀c∈DS,Bq c.toNat=true:=by decide
theorem axY (x:Nat) (hx:x<65536):Dc 25 false (tJ x 16) (Sy x∧KR (Fb x)) (Fb x):=by
 rw [←vD]
 exact sU (p:=DS) rfl (by simp [DS]) rfl (by decide) aw4 (vC x) (aDp x hx) (aCF x hx) ((mH (Fb x)).2.2.2.2.2.2.2.2.2.2.2.2.2.2.2.2.2.2.2.2.2.2.2.2.1 rfl rfl)
theorem alZ:∀c∈Aw,Bq c.toNat=true:=by decide
theorem afH (x y:Nat) (hx:x<65536) (hy:y<65536):Dc 25 true (tJ x 16++tJ y 16) (DC x y∧A2 (Aa x y)) (Aa x y):=by
 rw [←pP]
 exact sU (p:=Aw) rfl (by simp [Aw]) rfl (by decide) alZ (rE x y) (awG x y hx hy) (atY x y hx hy) ((mH (Aa x y)).2.2.2.2.2.2.2.2.2.2.2.2.2.2.2.2.2.2.2.2.2.2.2.2.2.2 rfl rfl)
end
section
open Go Hk
def KJ (k:Int) (w:Bool) (b:List UInt8):Prop:=∃i,t65 k w b=some (i,false)
theorem sP {k:Int}{w:Bool}{b:List UInt8}{M:Prop}{I:lL}(h:Dc k w b M I) (hn:¬M):KJ k w b:=h.2 hn
theorem ay1 {b:List UInt8}{r z op:Int}{I:lL}(h0:0≤op) (h25:op≤25) (h1:KJ op false b) (h2:KJ op true b):rX (tT r b) (z,op,I)=rX (tT r b) (z,op+1,I):=by
 obtain⟨i1,h1⟩:=h1
 obtain⟨i2,h2⟩:=h2
 refine oB ?_
 simp only [tT,h25,decide_true,lD,h1,kS,kX,h2]
 rw [lP _ (by omega) (by omega)]
theorem qJ {b:List UInt8}{r z op:Int}{I J:lL}(h25:op≤25) (h1:t65 op false b=some (J,true)):rX (tT r b) (z,op,I)=some (.r,r,op,J):=by
 refine mV ?_ (by simp)
 simp only [tT,h25,decide_true,lD,h1,kS]
theorem TV {b:List UInt8}{r z op:Int}{I J:lL}(h25:op≤25) (h1:KJ op false b) (h2:t65 op true b=some (J,true)):rX (tT r b) (z,op,I)=some (.r,r,op,J):=by
 obtain⟨i1,h1⟩:=h1
 refine mV ?_ (by simp)
 simp only [tT,h25,decide_true,lD,h1,kS,kX,h2]
theorem Xu {b:List UInt8}{r z:Int}{I:lL}:rX (tT r b) (z,26,I)=some (.x 0,z,26,I):=by
 refine mV ?_ (by simp)
 simp [tT]
theorem WI {k:Int}{w:Bool}{p b:List UInt8}(hP:t90 k w=some p) (hl:p.length≠b.length):KJ k w b:=⟨_,ac5 hP b hl⟩
theorem zQ (x:Nat) {k:Int}{w:Bool}{p:List UInt8}(hP:t90 k w=some p) (hl:p.length≠16):KJ k w (tJ x 16):=WI hP (by rw [B7];exact hl)
theorem BJ (x y:Nat) {k:Int}{w:Bool}{p:List UInt8}(hP:t90 k w=some p) (hl:p.length≠32):KJ k w (tJ x 16++tJ y 16):=WI hP (by simp only [List.length_append,B7];exact hl)
theorem qO {b:List UInt8}{r z op q:Int}{I:lL}{c:Option (Ey×Int×Int×lL)}(e:op+1=q) (h:0≤op∧op≤25) (h1:KJ op false b) (h2:KJ op true b) (h3:rX (tT r b) (z,q,I)=c):rX (tT r b) (z,op,I)=c:=by
 rw [ay1 h.1 h.2 h1 h2,e];exact h3
end
section
open Go Hk
theorem acY (v:Nat) (hv:v<2048):-1024≤xV v 11∧xV v 11≤1023:=by
 unfold xV
 by_cases h:1024≤v
 ·rw [if_pos (by omega)];omega
 ·rw [if_neg (by omega)];omega
theorem ao2 (v:Nat) (hv:v<256):-128≤xV v 8∧xV v 8≤127:=by
 unfold xV
 by_cases h:128≤v
 ·rw [if_pos (by omega)];omega
 ·rw [if_neg (by omega)];omega
section
variable (x:Nat) (hx:x<65536)
theorem Kq:(pM1 x∧Yw (UH x))↔x=48896:=by simp [pM1,Yw,UH]
theorem Of:(pM2 x∧Yx (UI x))↔x/256=190:=by
 have:x%256<256:=aq2 _ (by decide)
 unfold pM2 Yx UI;dsimp only;omega
theorem Cd:(Sr x∧KL (E0 x))↔x/64=416:=by unfold Sr KL E0;dsimp only;omega
theorem Dz:(Ss x∧KM (E5 x))↔x/64=384:=by unfold Ss KM E5;dsimp only;omega
theorem Gl:(Su x∧KN (E7 x))↔x/64=480:=by unfold Su KN E7;dsimp only;omega
theorem JR:(Sv x∧KO (E9 x))↔x/64=448:=by unfold Sv KO E9;dsimp only;omega
theorem O4:(Sw x∧KP (E_ x))↔x/64=266:=by unfold Sw KP E_;dsimp only;omega
theorem UF:(Sx x∧KQ (Fa x))↔x/2048=28:=by
 have:=acY (x%2048) (aq2 _ (by decide))
 unfold Sx KQ Fa;dsimp only;omega
theorem aa1:(Sy x∧KR (Fb x))↔x/4096=13∧x/256%16≤13:=by
 have:=ao2 (x%256) (aq2 _ (by decide))
 unfold Sy KR Fb;dsimp only;omega
include hx
theorem ai8:rX (tT 2 (tJ x 16)) (0,1,sO)=if (mL x).2 then some (.r,2,(mL x).1.op,(mL x).1) else some (.x 0,0,26,sO):=by
 by_cases h1:pM1 x∧Yw (UH x)
 ·rw [qJ (by decide) ((rd1 x hx).1 h1)];have:=(Kq x).1 h1;simp [mL,this,UH]
 refine qO (q:=2) rfl (by decide) (sP (rd1 x hx) h1) (zQ x rfl (by decide)) ?_
 by_cases h2:pM2 x∧Yx (UI x)
 ·rw [qJ (by decide) ((rd2 x hx).1 h2)];rw [Kq] at h1;rw [Of] at h2;simp [mL,h1,h2,UI]
 refine qO (q:=3) rfl (by decide) (sP (rd2 x hx) h2) (zQ x rfl (by decide)) ?_
 refine qO (q:=4) rfl (by decide) (zQ x rfl (by decide)) (zQ x rfl (by decide)) ?_
 refine qO (q:=5) rfl (by decide) (zQ x rfl (by decide)) (zQ x rfl (by decide)) ?_
 refine qO (q:=6) rfl (by decide) (zQ x rfl (by decide)) (zQ x rfl (by decide)) ?_
 refine qO (q:=7) rfl (by decide) (zQ x rfl (by decide)) (zQ x rfl (by decide)) ?_
 refine qO (q:=8) rfl (by decide) (zQ x rfl (by decide)) (zQ x rfl (by decide)) ?_
 refine qO (q:=9) rfl (by decide) (zQ x rfl (by decide)) (zQ x rfl (by decide)) ?_
 refine qO (q:=10) rfl (by decide) (zQ x rfl (by decide)) (zQ x rfl (by decide)) ?_
 refine qO (q:=11) rfl (by decide) (zQ x rfl (by decide)) (zQ x rfl (by decide)) ?_
 refine qO (q:=12) rfl (by decide) (zQ x rfl (by decide)) (zQ x rfl (by decide)) ?_
 refine qO (q:=13) rfl (by decide) (zQ x rfl (by decide)) (zQ x rfl (by decide)) ?_
 refine qO (q:=14) rfl (by decide) (zQ x rfl (by decide)) (zQ x rfl (by decide)) ?_
 refine qO (q:=15) rfl (by decide) (zQ x rfl (by decide)) (zQ x rfl (by decide)) ?_
 refine qO (q:=16) rfl (by decide) (zQ x rfl (by decide)) (zQ x rfl (by decide)) ?_
 refine qO (q:=17) rfl (by decide) (zQ x rfl (by decide)) (zQ x rfl (by decide)) ?_
 refine qO (q:=18) rfl (by decide) (zQ x rfl (by decide)) (zQ x rfl (by decide)) ?_
 refine qO (q:=19) rfl (by decide) (zQ x rfl (by decide)) (zQ x rfl (by decide)) ?_
 by_cases h3:Sr x∧KL (E0 x)
 ·rw [qJ (by decide) ((axS x hx).1 h3)];rw [Kq] at h1;rw [Of] at h2;rw [Cd] at h3;simp [mL,h1,h2,h3,E0]
 refine qO (q:=20) rfl (by decide) (sP (axS x hx) h3) (zQ x rfl (by decide)) ?_
 by_cases h4:Ss x∧KM (E5 x)
 ·rw [qJ (by decide) ((axT x hx).1 h4)];rw [Kq] at h1;rw [Of] at h2;rw [Cd] at h3;rw [Dz] at h4;simp [mL,h1,h2,h3,h4,E5]
 refine qO (q:=21) rfl (by decide) (sP (axT x hx) h4) (zQ x rfl (by decide)) ?_
 by_cases h5:Su x∧KN (E7 x)
 ·rw [qJ (by decide) ((axU x hx).1 h5)];rw [Kq] at h1;rw [Of] at h2;rw [Cd] at h3;rw [Dz] at h4;rw [Gl] at h5;simp [mL,h1,h2,h3,h4,h5,E7]
 refine qO (q:=22) rfl (by decide) (sP (axU x hx) h5) (zQ x rfl (by decide)) ?_
 by_cases h6:Sv x∧KO (E9 x)
 ·rw [qJ (by decide) ((axV x hx).1 h6)];rw [Kq] at h1;rw [Of] at h2;rw [Cd] at h3;rw [Dz] at h4;rw [Gl] at h5;rw [JR] at h6;simp [mL,h1,h2,h3,h4,h5,h6,E9]
 refine qO (q:=23) rfl (by decide) (sP (axV x hx) h6) (zQ x rfl (by decide)) ?_
 by_cases h7:Sw x∧KP (E_ x)
 ·rw [qJ (by decide) ((axW x hx).1 h7)];rw [Kq] at h1;rw [Of] at h2;rw [Cd] at h3;rw [Dz] at h4;rw [Gl] at h5;rw [JR] at h6;rw [O4] at h7;simp [mL,h1,h2,h3,h4,h5,h6,h7,E_]
 refine qO (q:=24) rfl (by decide) (sP (axW x hx) h7) (zQ x rfl (by decide)) ?_
 by_cases h8:Sx x∧KQ (Fa x)
 ·rw [qJ (by decide) ((axX x hx).1 h8)];rw [Kq] at h1;rw [Of] at h2;rw [Cd] at h3;rw [Dz] at h4;rw [Gl] at h5;rw [JR] at h6;rw [O4] at h7;rw [UF] at h8;simp [mL,h1,h2,h3,h4,h5,h6,h7,h8,Fa]
 refine qO (q:=25) rfl (by decide) (sP (axX x hx) h8) (zQ x rfl (by decide)) ?_
 by_cases h9:Sy x∧KR (Fb x)
 ·rw [qJ (by decide) ((axY x hx).1 h9)];rw [Kq] at h1;rw [Of] at h2;rw [Cd] at h3;rw [Dz] at h4;rw [Gl] at h5;rw [JR] at h6;rw [O4] at h7;rw [UF] at h8;rw [aa1] at h9;simp [mL,h1,h2,h3,h4,h5,h6,h7,h8,h9,Fb]
 refine qO (q:=26) rfl (by decide) (sP (axY x hx) h9) (zQ x rfl (by decide)) ?_
 rw [Xu];rw [Kq] at h1;rw [Of] at h2;rw [Cd] at h3;rw [Dz] at h4;rw [Gl] at h5;rw [JR] at h6;rw [O4] at h7;rw [UF] at h8;rw [aa1] at h9
 have hz:mL x=(⟨0,0,0,0,0,0,0,false⟩,false):=by simp only [mL];rw [if_neg h1,if_neg h2,if_neg h3,if_neg h4,if_neg h5,if_neg h6,if_neg h7,if_neg h8,if_neg h9]
 rw [hz];rfl
end
end
section
open Go Hk
theorem Jf {x y:Nat}(h1:x≠59983) (h2:x≠60015) (h3:¬(x/16*16=59904∨x/16*16=59936∨x/16*16=59968∨x/16*16=60032∨x/16*16=60160∨x/16*16=60320)):(n7 x y).2=false:=by
 unfold n7
 by_cases h:y/32768=1
 ·rw [if_pos h]
 ·rw [if_neg h,if_neg h1,if_neg h2,if_neg h3]
theorem Bu {x y:Nat}(h1:x/16*16≠64256) (h2:x/16*16≠64416):(n_ x y).2=false:=by
 unfold n_
 by_cases h:y/16%16≠0
 ·rw [if_pos h]
 ·rw [if_neg h,if_neg h1,if_neg h2]
theorem TJ {x y:Nat}(h:y/32768=1):(qT x y).2=false:=by unfold qT;rw [if_pos h]
theorem TZ {x y:Nat}(h:y/32768=1):(n7 x y).2=false:=by unfold n7;rw [if_pos h]
theorem tV {x y:Nat}{i:lL}(h:n7 x y=(i,true)):nZ x y=(i,true):=by unfold nZ;rw [h];rfl
theorem Py {x y:Nat}{i:lL}(h3:(n7 x y).2=false) (h:n_ x y=(i,true)):nZ x y=(i,true):=by unfold nZ;rw [h3,h];rfl
theorem Jm {x y:Nat}{i:lL}(h3:(n7 x y).2=false) (hp:(n_ x y).2=false) (h:qT x y=(i,true)):nZ x y=(i,true):=by unfold nZ;rw [h3,hp,h];rfl
theorem Px {x y:Nat}{i:lL}(h3:(n7 x y).2=false) (hp:(n_ x y).2=false) (hn:(qT x y).2=false) (h:qS x y=(i,true)):nZ x y=(i,true):=by unfold nZ;rw [h3,hp,hn,h];rfl
section
variable (x y:Nat) (hx:x<65536) (hy:y<65536)
include hx hy
theorem w5 (h:pM5 x y∧Vt (UL x y)):nZ x y=(UL x y,true):=by
 refine tV ?_
 revert h
 unfold pM5 Vt UL n7 nU
 dsimp only
 intro h
 have t:y/16%4=0:=by omega
 rw [if_neg (by omega),if_pos (by omega),decide_eq_true (show y/256%16≤12 by omega),decide_eq_true (show y%16≤12 by omega),t]
 rfl
theorem w6 (h:pM6 x y∧Vu (UM x y)):nZ x y=(UM x y,true):=by
 refine tV ?_
 revert h
 unfold pM6 Vu UM n7 nU
 dsimp only
 intro h
 have t:y/16%4=1:=by omega
 rw [if_neg (by omega),if_pos (by omega),decide_eq_true (show y/256%16≤12 by omega),decide_eq_true (show y%16≤12 by omega),t]
 rw [decide_eq_true (show 0<y/4096%8*4+y/64%4 by omega)];rfl
theorem w7 (h:pM7 x y∧Vv (UN x y)):nZ x y=(UN x y,true):=by
 refine tV ?_
 revert h
 unfold pM7 Vv UN n7 nU
 dsimp only
 intro h
 have t:y/16%4=2:=by omega
 rw [if_neg (by omega),if_pos (by omega),decide_eq_true (show y/256%16≤12 by omega),decide_eq_true (show y%16≤12 by omega),t]
 rw [decide_eq_true (show 0<y/4096%8*4+y/64%4 by omega)];rfl
theorem w8 (h:pM8 x y∧Vw (UO x y)):nZ x y=(UO x y,true):=by
 refine tV ?_
 revert h
 unfold pM8 Vw UO n7 nU
 dsimp only
 intro h
 have t:y/16%4=3:=by omega
 rw [if_neg (by omega),if_pos (by omega),decide_eq_true (show y/256%16≤12 by omega),decide_eq_true (show y%16≤12 by omega),t]
 rw [decide_eq_true (show 0<y/4096%8*4+y/64%4 by omega)];rfl
theorem w9 (h:pM9 x y∧Vx (UP x y)):nZ x y=(UP x y,true):=by
 refine tV ?_
 revert h
 unfold pM9 Vx UP n7 nU
 dsimp only
 intro h
 rw [if_neg (by omega),if_neg (by omega),if_pos (by omega),decide_eq_true (show y/256%16≤12 by omega),decide_eq_true (show y%16≤12 by omega),decide_eq_true (show y/16%4=0 by omega),decide_eq_true (show y/4096%8*4+y/64%4=0 by omega)];rfl
theorem w10 (h:MD x y∧Ha (ER x y)):nZ x y=(ER x y,true):=by
 refine tV ?_
 revert h
 unfold MD Ha ER n7 nU
 dsimp only
 intro h
 rw [if_neg (by omega),if_neg (by omega),if_neg (by omega),if_pos (by omega),if_pos (by omega),decide_eq_true (show y/256%16≤12 by omega),decide_eq_true (show x%16≤12 by omega),decide_eq_true (show y%16≤12 by omega),decide_eq_true (show y/16%4=0 by omega),decide_eq_true (show y/4096%8*4+y/64%4=0 by omega)];rfl
theorem Ti (h:ME x y∧Hb (ES x y)):nZ x y=(ES x y,true):=by
 refine tV ?_
 revert h
 unfold ME Hb ES n7 nU
 dsimp only
 intro h
 rw [if_neg (by omega),if_neg (by omega),if_neg (by omega),if_pos (by omega),if_neg (by omega),if_pos (by omega),decide_eq_true (show y/256%16≤12 by omega),decide_eq_true (show x%16≤12 by omega),decide_eq_true (show y%16≤12 by omega),decide_eq_true (show y/16%4=0 by omega),decide_eq_true (show y/4096%8*4+y/64%4=0 by omega)];rfl
theorem w12 (h:MF x y∧Hc (ET x y)):nZ x y=(ET x y,true):=by
 refine tV ?_
 revert h
 unfold MF Hc ET n7 nU
 dsimp only
 intro h
 rw [if_neg (by omega),if_neg (by omega),if_neg (by omega),if_pos (by omega),if_neg (by omega),if_neg (by omega),if_pos (by omega),decide_eq_true (show y/256%16≤12 by omega),decide_eq_true (show x%16≤12 by omega),decide_eq_true (show y%16≤12 by omega),decide_eq_true (show y/16%4=0 by omega),decide_eq_true (show y/4096%8*4+y/64%4=0 by omega)];rfl
theorem w13 (h:MG x y∧He (EU x y)):nZ x y=(EU x y,true):=by
 refine tV ?_
 revert h
 unfold MG He EU n7 nU
 dsimp only
 intro h
 rw [if_neg (by omega),if_neg (by omega),if_neg (by omega),if_pos (by omega),if_neg (by omega),if_neg (by omega),if_neg (by omega),if_pos (by omega),decide_eq_true (show y/256%16≤12 by omega),decide_eq_true (show x%16≤12 by omega),decide_eq_true (show y%16≤12 by omega),decide_eq_true (show y/16%4=0 by omega),decide_eq_true (show y/4096%8*4+y/64%4=0 by omega)];rfl
theorem w14 (h:MI x y∧Hf (EV x y)):nZ x y=(EV x y,true):=by
 refine tV ?_
 revert h
 unfold MI Hf EV n7 nU
 dsimp only
 intro h
 rw [if_neg (by omega),if_neg (by omega),if_neg (by omega),if_pos (by omega),if_neg (by omega),if_neg (by omega),if_neg (by omega),if_neg (by omega),if_pos (by omega),decide_eq_true (show y/256%16≤12 by omega),decide_eq_true (show x%16≤12 by omega),decide_eq_true (show y%16≤12 by omega),decide_eq_true (show y/16%4=0 by omega),decide_eq_true (show y/4096%8*4+y/64%4=0 by omega)];rfl
theorem w15 (h:MJ x y∧Hg (EW x y)):nZ x y=(EW x y,true):=by
 refine tV ?_
 revert h
 unfold MJ Hg EW n7 nU
 dsimp only
 intro h
 rw [if_neg (by omega),if_neg (by omega),if_neg (by omega),if_pos (by omega),if_neg (by omega),if_neg (by omega),if_neg (by omega),if_neg (by omega),if_neg (by omega),decide_eq_true (show y/256%16≤12 by omega),decide_eq_true (show x%16≤12 by omega),decide_eq_true (show y%16≤12 by omega),decide_eq_true (show y/16%4=0 by omega),decide_eq_true (show y/4096%8*4+y/64%4=0 by omega)];rfl
theorem w16 (h:MK x y∧Hi (EX x y)):nZ x y=(EX x y,true):=by
 revert h
 unfold MK Hi EX
 dsimp only
 intro h
 refine Py (Jf (by omega) (by omega) (by omega)) ?_
 unfold n_
 rw [if_neg (by omega),if_pos (by omega),decide_eq_true (show y/4096%16=15 by omega),decide_eq_true (show y/256%16≤12 by omega),decide_eq_true (show x%16≤12 by omega),decide_eq_true (show y%16≤12 by omega)];rfl
theorem w17 (h:ML x y∧Hj (EY x y)):nZ x y=(EY x y,true):=by
 revert h
 unfold ML Hj EY
 dsimp only
 intro h
 refine Py (Jf (by omega) (by omega) (by omega)) ?_
 unfold n_
 rw [show y/4096%16=y/4096 from by omega,if_neg (by omega),if_neg (by omega),if_pos (by omega),decide_eq_true (show y/4096≠y/256%16 by omega),decide_eq_true (show y/4096≤12 by omega),decide_eq_true (show y/256%16≤12 by omega),decide_eq_true (show x%16≤12 by omega),decide_eq_true (show y%16≤12 by omega)];rfl
theorem w18 (h:MM x y∧Hl (EZ x y)):nZ x y=(EZ x y,true):=by
 revert h
 unfold MM Hl EZ
 dsimp only
 intro h
 refine Jm (Jf (by omega) (by omega) (by omega)) (Bu (by omega) (by omega)) ?_
 unfold qT
 rw [if_neg (by omega),if_pos (by omega),decide_eq_true (show y/32%2=0 by omega),decide_eq_true (show nU y≤y%32 by omega),decide_eq_true (show y/256%16≤12 by omega),decide_eq_true (show x%16≤12 by omega)];rfl
theorem w3 (h:pM3 x y∧Vq (UJ x y)):nZ x y=(UJ x y,true):=by
 revert h
 unfold pM3 Vq UJ
 dsimp only
 intro h
 refine Jm (Jf (by omega) (by omega) (by omega)) (Bu (by omega) (by omega)) ?_
 unfold qT
 have hc:Am x=62016:=by unfold Am;omega
 rw [if_neg (by omega),if_neg (by omega),if_pos hc,decide_eq_true (show y/256%16≤12 by omega)]
theorem w4 (h:pM4 x y∧Vr (UK x y)):nZ x y=(UK x y,true):=by
 revert h
 unfold pM4 Vr UK
 dsimp only
 intro h
 refine Jm (Jf (by omega) (by omega) (by omega)) (Bu (by omega) (by omega)) ?_
 unfold qT
 have hc:Am x=62144:=by unfold Am;omega
 rw [if_neg (by omega),if_neg (by omega),if_neg (by omega),if_pos hc,decide_eq_true (show y/256%16≤12 by omega)]
theorem aAj (h:DB x y∧A1 (z_ x y)):nZ x y=(z_ x y,true):=by
 revert h
 unfold DB A1 z_
 dsimp only
 intro h
 refine Px (TZ (by omega)) (Bu (by omega) (by omega)) (TJ (by omega)) ?_
 unfold qS
 rw [if_neg (by omega),if_pos (by omega)]
theorem aAk (h:DC x y∧A2 (Aa x y)):nZ x y=(Aa x y,true):=by
 revert h
 unfold DC A2 Aa
 dsimp only
 intro h
 refine Px (TZ (by omega)) (Bu (by omega) (by omega)) (TJ (by omega)) ?_
 unfold qS
 rw [if_neg (by omega),if_neg (by omega),decide_eq_true (show x/64%16≤13 by omega)]
end
end
section
open Go Hk
section
variable (x y:Nat) (hx:x<65536) (hy:y<65536)
include hx hy
theorem ac0 (v:Nat) (hv:v<16777216):-8388608≤xV v 24∧xV v 24≤8388607:=by
 unfold xV
 by_cases h:8388608≤v
 ·rw [if_pos (by omega)];omega
 ·rw [if_neg (by omega)];omega
theorem acZ (v:Nat) (hv:v<1048576):-524288≤xV v 20∧xV v 20≤524287:=by
 unfold xV
 by_cases h:524288≤v
 ·rw [if_pos (by omega)];omega
 ·rw [if_neg (by omega)];omega
theorem Jg (h:(n7 x y).2=true):(pM5 x y∧Vt (UL x y))∨(pM6 x y∧Vu (UM x y))∨(pM7 x y∧Vv (UN x y))∨(pM8 x y∧Vw (UO x y))∨(pM9 x y∧Vx (UP x y))∨(MD x y∧Ha (ER x y))∨(ME x y∧Hb (ES x y))∨(MF x y∧Hc (ET x y))∨(MG x y∧He (EU x y))∨(MI x y∧Hf (EV x y))∨(MJ x y∧Hg (EW x y)):=by
 unfold n7 nU at h
 by_cases h1:y/32768=1
 ·rw [if_pos h1] at h;cases h
 rw [if_neg h1] at h
 by_cases h2:x=59983
 ·rw [if_pos h2] at h
  simp only [ae7,Bool.or_eq_true,decide_eq_true_eq] at h
  have:y/16%4=0∨y/16%4=1∨y/16%4=2∨y/16%4=3:=by omega
  rcases this with t | t | t | t
  ·refine Or.inl ⟨?_,?_⟩
   ·unfold pM5;omega
   ·unfold Vt UL nU;dsimp only;omega
  ·refine Or.inr (Or.inl ⟨?_,?_⟩)
   ·unfold pM6;omega
   ·unfold Vu UM nU;dsimp only;omega
  ·refine Or.inr (Or.inr (Or.inl ⟨?_,?_⟩))
   ·unfold pM7;omega
   ·unfold Vv UN nU;dsimp only;omega
  ·refine Or.inr (Or.inr (Or.inr (Or.inl ⟨?_,?_⟩)))
   ·unfold pM8;omega
   ·unfold Vw UO nU;dsimp only;omega
 rw [if_neg h2] at h
 by_cases h3:x=60015
 ·rw [if_pos h3] at h
  simp only [ae7,decide_eq_true_eq] at h
  refine Or.inr (Or.inr (Or.inr (Or.inr (Or.inl ⟨?_,?_⟩))))
  ·unfold pM9;omega
  ·unfold Vx UP;dsimp only;omega
 rw [if_neg h3] at h
 by_cases h4:x/16*16=59904∨x/16*16=59936∨x/16*16=59968∨x/16*16=60032∨x/16*16=60160∨x/16*16=60320
 ·rw [if_pos h4] at h
  simp only [ae7,decide_eq_true_eq] at h
  rcases h4 with t | t | t | t | t | t
  ·refine Or.inr (Or.inr (Or.inr (Or.inr (Or.inr (Or.inl ⟨?_,?_⟩)))))
   ·unfold MD;omega
   ·unfold Ha ER;dsimp only;omega
  ·refine Or.inr (Or.inr (Or.inr (Or.inr (Or.inr (Or.inr (Or.inl ⟨?_,?_⟩))))))
   ·unfold ME;omega
   ·unfold Hb ES;dsimp only;omega
  ·refine Or.inr (Or.inr (Or.inr (Or.inr (Or.inr (Or.inr (Or.inr (Or.inl ⟨?_,?_⟩)))))))
   ·unfold MF;omega
   ·unfold Hc ET;dsimp only;omega
  ·refine Or.inr (Or.inr (Or.inr (Or.inr (Or.inr (Or.inr (Or.inr (Or.inr (Or.inl ⟨?_,?_⟩))))))))
   ·unfold MG;omega
   ·unfold He EU;dsimp only;omega
  ·refine Or.inr (Or.inr (Or.inr (Or.inr (Or.inr (Or.inr (Or.inr (Or.inr (Or.inr (Or.inl ⟨?_,?_⟩)))))))))
   ·unfold MI;omega
   ·unfold Hf EV;dsimp only;omega
  ·refine Or.inr (Or.inr (Or.inr (Or.inr (Or.inr (Or.inr (Or.inr (Or.inr (Or.inr (Or.inr (⟨?_,?_⟩))))))))))
   ·unfold MJ;omega
   ·unfold Hg EW;dsimp only;omega
 ·rw [if_neg h4] at h;cases h
theorem DU (h:(n_ x y).2=true):(MK x y∧Hi (EX x y))∨(ML x y∧Hj (EY x y)):=by
 unfold n_ at h
 by_cases h1:y/16%16≠0
 ·rw [if_pos h1] at h;cases h
 rw [if_neg h1] at h
 by_cases h2:x/16*16=64256
 ·rw [if_pos h2] at h
  simp only [ae7,decide_eq_true_eq] at h
  refine Or.inl ⟨?_,?_⟩
  ·unfold MK;omega
  ·unfold Hi EX;dsimp only;omega
 rw [if_neg h2] at h
 by_cases h3:x/16*16=64416
 ·rw [if_pos h3] at h
  simp only [ae7,decide_eq_true_eq] at h
  refine Or.inr ⟨?_,?_⟩
  ·unfold ML;omega
  ·unfold Hj EY;dsimp only;omega
 ·rw [if_neg h3] at h;cases h
theorem H6 (h:(qT x y).2=true):(MM x y∧Hl (EZ x y))∨(pM3 x y∧Vq (UJ x y))∨(pM4 x y∧Vr (UK x y)):=by
 have hsh:nU y<32:=by unfold nU;omega
 have him:JQ x y<65536:=by unfold JQ;omega
 unfold qT at h
 by_cases h1:y/32768=1
 ·rw [if_pos h1] at h;cases h
 rw [if_neg h1] at h
 by_cases h2:x/16*16=62304
 ·rw [if_pos h2] at h
  simp only [ae7,decide_eq_true_eq] at h
  refine Or.inl ⟨?_,?_⟩
  ·unfold MM;omega
  ·unfold Hl EZ;dsimp only;omega
 rw [if_neg h2] at h
 by_cases h3:Am x=62016
 ·rw [if_pos h3] at h
  simp only [decide_eq_true_eq] at h
  unfold Am at h3
  refine Or.inr (Or.inl ⟨?_,?_⟩)
  ·unfold pM3;omega
  ·unfold Vq UJ;dsimp only;omega
 rw [if_neg h3] at h
 by_cases h4:Am x=62144
 ·rw [if_pos h4] at h
  simp only [decide_eq_true_eq] at h
  unfold Am at h4
  refine Or.inr (Or.inr ⟨?_,?_⟩)
  ·unfold pM4;omega
  ·unfold Vr UK;dsimp only;omega
 ·rw [if_neg h4] at h;cases h
theorem FJ (h:(qS x y).2=true):(DB x y∧A1 (z_ x y))∨(DC x y∧A2 (Aa x y)):=by
 unfold qS at h
 by_cases h1:x/2048≠30∨y/16384≠2
 ·rw [if_pos h1] at h;cases h
 rw [if_neg h1] at h
 by_cases h2:y/4096%2=1
 ·refine Or.inl ⟨?_,?_⟩
  ·unfold DB;omega
  ·have b:=ac0 x y hx hy (Gk (x/1024%2*4+(1+y/8192%2+x/1024%2)%2*2+(1+y/2048%2+x/1024%2)%2) (x%1024) (y%2048)) (by unfold Gk;omega)
   unfold A1 z_;dsimp only
   generalize xV _ 24=G at b ⊢
   omega
 ·rw [if_neg h2] at h
  simp only [decide_eq_true_eq] at h
  refine Or.inr ⟨?_,?_⟩
  ·unfold DC;omega
  ·have b:=acZ x y hx hy (C_ (x/1024%2*4+y/2048%2*2+y/8192%2) (x%64) (y%2048)) (by unfold C_;omega)
   unfold A2 Aa;dsimp only
   generalize xV _ 20=G at b ⊢
   omega
end
end
section
open Go Hk
section
variable (x y:Nat) (hx:x<65536) (hy:y<65536)
include hx hy
theorem ajB:rX (tT 4 (tJ x 16++tJ y 16)) (0,1,sO)=if (nZ x y).2 then some (.r,4,(nZ x y).1.op,(nZ x y).1) else some (.x 0,0,26,sO):=by
 refine qO (q:=2) rfl (by decide) (BJ x y rfl (by decide)) (BJ x y rfl (by decide)) ?_
 refine qO (q:=3) rfl (by decide) (BJ x y rfl (by decide)) (BJ x y rfl (by decide)) ?_
 by_cases h3x:(pM3 x y∧Vq (UJ x y))
 ·rw [w3 x y hx hy h3x];exact(qJ (by decide) ((rd3 x y hx hy).1 h3x)).trans rfl
 refine qO (q:=4) rfl (by decide) (sP (rd3 x y hx hy) h3x) (BJ x y rfl (by decide)) ?_
 by_cases h4:(pM4 x y∧Vr (UK x y))
 ·rw [w4 x y hx hy h4];exact(qJ (by decide) ((rd4 x y hx hy).1 h4)).trans rfl
 refine qO (q:=5) rfl (by decide) (sP (rd4 x y hx hy) h4) (BJ x y rfl (by decide)) ?_
 by_cases h5:(pM5 x y∧Vt (UL x y))
 ·rw [w5 x y hx hy h5];exact(qJ (by decide) ((rd5 x y hx hy).1 h5)).trans rfl
 refine qO (q:=6) rfl (by decide) (sP (rd5 x y hx hy) h5) (BJ x y rfl (by decide)) ?_
 by_cases h6:(pM6 x y∧Vu (UM x y))
 ·rw [w6 x y hx hy h6];exact(qJ (by decide) ((rd6 x y hx hy).1 h6)).trans rfl
 refine qO (q:=7) rfl (by decide) (sP (rd6 x y hx hy) h6) (BJ x y rfl (by decide)) ?_
 by_cases h7:(pM7 x y∧Vv (UN x y))
 ·rw [w7 x y hx hy h7];exact(qJ (by decide) ((rd7 x y hx hy).1 h7)).trans rfl
 refine qO (q:=8) rfl (by decide) (sP (rd7 x y hx hy) h7) (BJ x y rfl (by decide)) ?_
 by_cases h8:(pM8 x y∧Vw (UO x y))
 ·rw [w8 x y hx hy h8];exact(qJ (by decide) ((rd8 x y hx hy).1 h8)).trans rfl
 refine qO (q:=9) rfl (by decide) (sP (rd8 x y hx hy) h8) (BJ x y rfl (by decide)) ?_
 by_cases h9:(pM9 x y∧Vx (UP x y))
 ·rw [w9 x y hx hy h9];exact(qJ (by decide) ((rd9 x y hx hy).1 h9)).trans rfl
 refine qO (q:=10) rfl (by decide) (sP (rd9 x y hx hy) h9) (BJ x y rfl (by decide)) ?_
 by_cases h10:(MD x y∧Ha (ER x y))
 ·rw [w10 x y hx hy h10];exact(qJ (by decide) ((axJ x y hx hy).1 h10)).trans rfl
 refine qO (q:=11) rfl (by decide) (sP (axJ x y hx hy) h10) (BJ x y rfl (by decide)) ?_
 by_cases h11:(ME x y∧Hb (ES x y))
 ·rw [Ti x y hx hy h11];exact(qJ (by decide) ((axK x y hx hy).1 h11)).trans rfl
 refine qO (q:=12) rfl (by decide) (sP (axK x y hx hy) h11) (BJ x y rfl (by decide)) ?_
 by_cases h12:(MF x y∧Hc (ET x y))
 ·rw [w12 x y hx hy h12];exact(qJ (by decide) ((axL x y hx hy).1 h12)).trans rfl
 refine qO (q:=13) rfl (by decide) (sP (axL x y hx hy) h12) (BJ x y rfl (by decide)) ?_
 by_cases h13:(MG x y∧He (EU x y))
 ·rw [w13 x y hx hy h13];exact(qJ (by decide) ((axM x y hx hy).1 h13)).trans rfl
 refine qO (q:=14) rfl (by decide) (sP (axM x y hx hy) h13) (BJ x y rfl (by decide)) ?_
 by_cases h14:(MI x y∧Hf (EV x y))
 ·rw [w14 x y hx hy h14];exact(qJ (by decide) ((axN x y hx hy).1 h14)).trans rfl
 refine qO (q:=15) rfl (by decide) (sP (axN x y hx hy) h14) (BJ x y rfl (by decide)) ?_
 by_cases h15:(MJ x y∧Hg (EW x y))
 ·rw [w15 x y hx hy h15];exact(qJ (by decide) ((axO x y hx hy).1 h15)).trans rfl
 refine qO (q:=16) rfl (by decide) (sP (axO x y hx hy) h15) (BJ x y rfl (by decide)) ?_
 by_cases h16:(MK x y∧Hi (EX x y))
 ·rw [w16 x y hx hy h16];exact(qJ (by decide) ((axP x y hx hy).1 h16)).trans rfl
 refine qO (q:=17) rfl (by decide) (sP (axP x y hx hy) h16) (BJ x y rfl (by decide)) ?_
 by_cases h17:(ML x y∧Hj (EY x y))
 ·rw [w17 x y hx hy h17];exact(qJ (by decide) ((axQ x y hx hy).1 h17)).trans rfl
 refine qO (q:=18) rfl (by decide) (sP (axQ x y hx hy) h17) (BJ x y rfl (by decide)) ?_
 by_cases h18:(MM x y∧Hl (EZ x y))
 ·rw [w18 x y hx hy h18];exact(qJ (by decide) ((axR x y hx hy).1 h18)).trans rfl
 refine qO (q:=19) rfl (by decide) (sP (axR x y hx hy) h18) (BJ x y rfl (by decide)) ?_
 refine qO (q:=20) rfl (by decide) (BJ x y rfl (by decide)) (BJ x y rfl (by decide)) ?_
 refine qO (q:=21) rfl (by decide) (BJ x y rfl (by decide)) (BJ x y rfl (by decide)) ?_
 refine qO (q:=22) rfl (by decide) (BJ x y rfl (by decide)) (BJ x y rfl (by decide)) ?_
 refine qO (q:=23) rfl (by decide) (BJ x y rfl (by decide)) (BJ x y rfl (by decide)) ?_
 refine qO (q:=24) rfl (by decide) (BJ x y rfl (by decide)) (BJ x y rfl (by decide)) ?_
 by_cases h24w:(DB x y∧A1 (z_ x y))
 ·rw [aAj x y hx hy h24w];exact(TV (by decide) (BJ x y rfl (by decide)) ((afG x y hx hy).1 h24w)).trans rfl
 refine qO (q:=25) rfl (by decide) (BJ x y rfl (by decide)) (sP (afG x y hx hy) h24w) ?_
 by_cases h25w:(DC x y∧A2 (Aa x y))
 ·rw [aAk x y hx hy h25w];exact(TV (by decide) (BJ x y rfl (by decide)) ((afH x y hx hy).1 h25w)).trans rfl
 have hn:(nZ x y).2=false:=by
  cases hw:(nZ x y).2
  ·rfl
  ·exfalso
   unfold nZ at hw
   cases h3:(n7 x y).2
   ·cases hp:(n_ x y).2
    ·cases hl:(qT x y).2
     ·cases hb:(qS x y).2
      ·rw [h3,hp,hl,hb] at hw;cases hw
      ·rcases FJ x y hx hy hb with h | h
       ·exact h24w h
       ·exact h25w h
     ·rcases H6 x y hx hy hl with h | h | h
      ·exact h18 h
      ·exact h3x h
      ·exact h4 h
    ·rcases DU x y hx hy hp with h | h
     ·exact h16 h
     ·exact h17 h
   ·rcases Jg x y hx hy h3 with h | h | h | h | h | h | h | h | h | h | h
    ·exact h5 h
    ·exact h6 h
    ·exact h7 h
    ·exact h8 h
    ·exact h9 h
    ·exact h10 h
    ·exact h11 h
    ·exact h12 h
    ·exact h13 h
    ·exact h14 h
    ·exact h15 h
 rw [hn]
 refine qO (q:=26) rfl (by decide) (BJ x y rfl (by decide)) (sP (afH x y hx hy) h25w) ?_
 exact Xu
end
end
section
open Go Hk
theorem azR (s:List UInt8):t45 s=some (mY s):=by
 have hx:=zD s 0
 have hy:=zD s 1
 unfold t45 mY
 rw [azW,kS]
 unfold Xx
 by_cases h2:s.length<2
 ·rw [if_pos h2,if_pos h2];rfl
 ·rw [if_neg h2,if_neg h2]
  have e0:t64 s 0=some (tJ (wS s 0) 16):=XP s 0 (by decide) (by omega)
  by_cases h29:29≤wS s 0/2048
  ·rw [if_pos h29,if_pos h29]
   by_cases h4:s.length<4
   ·rw [if_pos h4,decide_eq_true (show((s.length:Nat):Int)<4 by omega)];rfl
   ·have e1:t64 s 1=some (tJ (wS s 1) 16):=XP s 1 (by decide) (by omega)
    have ec:C0 (tJ (wS s 0) 16) (tJ (wS s 1) 16)=some (tJ (wS s 0) 16++tJ (wS s 1) 16):=by unfold C0;rw [if_pos (by rw [B7,B7];decide)]
    have l:=ajB (wS s 0) (wS s 1) hx hy
    rw [if_neg h4,decide_eq_false (show ¬((s.length:Nat):Int)<4 by omega),show decide ((4:Int)=0)=false from rfl,kX]
    unfold Fp Ix
    rw [kX,e0,kS,show decide ((4:Int)=4)=true from rfl,lD,e1,kS,ec,kS,kS]
    rw [show(⟨0,0,0,0,0,0,0,false⟩:lL)=sO from rfl,l]
    cases hw:(nZ (wS s 0) (wS s 1)).2 <;> simp [uL,vO,Ao]
  ·rw [if_neg h29,if_neg h29]
   have l:=ai8 (wS s 0) hx
   rw [show decide ((2:Int)=0)=false from rfl,kX,decide_eq_false (show ¬((s.length:Nat):Int)<2 by omega)]
   unfold Fp Ix
   rw [kX,e0,kS,show decide ((2:Int)=4)=false from rfl,kX,kS]
   rw [show(⟨0,0,0,0,0,0,0,false⟩:lL)=sO from rfl,l]
   cases hw:(mL (wS s 0)).2 <;> simp [uL,vO,Ao]
end
section
open Go Hk
theorem sS {i:lL}{P:Prop}(h:∃e,t66 i=some e∧(e=0↔P)) (hp:P):t66 i=some 0:=by
 obtain⟨e,h1,h2⟩:=h
 rw [h1,h2.2 hp]
section
variable (x y:Nat) (hx:x<65536) (hy:y<65536)
include hx hy
theorem okW (hw:(nZ x y).2=true):t66 (nZ x y).1=some 0:=by
 by_cases h3x:(pM3 x y∧Vq (UJ x y))
 ·rw [w3 x y hx hy h3x];exact sS ((mH (UJ x y)).2.2.1 rfl rfl) h3x.2
 by_cases h4:(pM4 x y∧Vr (UK x y))
 ·rw [w4 x y hx hy h4];exact sS ((mH (UK x y)).2.2.2.1 rfl rfl) h4.2
 by_cases h5:(pM5 x y∧Vt (UL x y))
 ·rw [w5 x y hx hy h5];exact sS ((mH (UL x y)).2.2.2.2.1 rfl rfl) h5.2
 by_cases h6:(pM6 x y∧Vu (UM x y))
 ·rw [w6 x y hx hy h6];exact sS ((mH (UM x y)).2.2.2.2.2.1 rfl rfl) h6.2
 by_cases h7:(pM7 x y∧Vv (UN x y))
 ·rw [w7 x y hx hy h7];exact sS ((mH (UN x y)).2.2.2.2.2.2.1 rfl rfl) h7.2
 by_cases h8:(pM8 x y∧Vw (UO x y))
 ·rw [w8 x y hx hy h8];exact sS ((mH (UO x y)).2.2.2.2.2.2.2.1 rfl rfl) h8.2
 by_cases h9:(pM9 x y∧Vx (UP x y))
 ·rw [w9 x y hx hy h9];exact sS ((mH (UP x y)).2.2.2.2.2.2.2.2.1 rfl rfl) h9.2
 by_cases h10:(MD x y∧Ha (ER x y))
 ·rw [w10 x y hx hy h10];exact sS ((mH (ER x y)).2.2.2.2.2.2.2.2.2.1 rfl rfl) h10.2
 by_cases h11:(ME x y∧Hb (ES x y))
 ·rw [Ti x y hx hy h11];exact sS ((mH (ES x y)).2.2.2.2.2.2.2.2.2.2.1 rfl rfl) h11.2
 by_cases h12:(MF x y∧Hc (ET x y))
 ·rw [w12 x y hx hy h12];exact sS ((mH (ET x y)).2.2.2.2.2.2.2.2.2.2.2.1 rfl rfl) h12.2
 by_cases h13:(MG x y∧He (EU x y))
 ·rw [w13 x y hx hy h13];exact sS ((mH (EU x y)).2.2.2.2.2.2.2.2.2.2.2.2.1 rfl rfl) h13.2
 by_cases h14:(MI x y∧Hf (EV x y))
 ·rw [w14 x y hx hy h14];exact sS ((mH (EV x y)).2.2.2.2.2.2.2.2.2.2.2.2.2.1 rfl rfl) h14.2
 by_cases h15:(MJ x y∧Hg (EW x y))
 ·rw [w15 x y hx hy h15];exact sS ((mH (EW x y)).2.2.2.2.2.2.2.2.2.2.2.2.2.2.1 rfl rfl) h15.2
 by_cases h16:(MK x y∧Hi (EX x y))
 ·rw [w16 x y hx hy h16];exact sS ((mH (EX x y)).2.2.2.2.2.2.2.2.2.2.2.2.2.2.2.1 rfl rfl) h16.2
 by_cases h17:(ML x y∧Hj (EY x y))
 ·rw [w17 x y hx hy h17];exact sS ((mH (EY x y)).2.2.2.2.2.2.2.2.2.2.2.2.2.2.2.2.1 rfl rfl) h17.2
 by_cases h18:(MM x y∧Hl (EZ x y))
 ·rw [w18 x y hx hy h18];exact sS ((mH (EZ x y)).2.2.2.2.2.2.2.2.2.2.2.2.2.2.2.2.2.1 rfl rfl) h18.2
 by_cases h24w:(DB x y∧A1 (z_ x y))
 ·rw [aAj x y hx hy h24w];exact sS ((mH (z_ x y)).2.2.2.2.2.2.2.2.2.2.2.2.2.2.2.2.2.2.2.2.2.2.2.2.2.1 rfl rfl) h24w.2
 by_cases h25w:(DC x y∧A2 (Aa x y))
 ·rw [aAk x y hx hy h25w];exact sS ((mH (Aa x y)).2.2.2.2.2.2.2.2.2.2.2.2.2.2.2.2.2.2.2.2.2.2.2.2.2.2 rfl rfl) h25w.2
 have hn:(nZ x y).2=false:=by
  cases hw:(nZ x y).2
  ·rfl
  ·exfalso
   unfold nZ at hw
   cases h3:(n7 x y).2
   ·cases hp:(n_ x y).2
    ·cases hl:(qT x y).2
     ·cases hb:(qS x y).2
      ·rw [h3,hp,hl,hb] at hw;cases hw
      ·rcases FJ x y hx hy hb with h | h
       ·exact h24w h
       ·exact h25w h
     ·rcases H6 x y hx hy hl with h | h | h
      ·exact h18 h
      ·exact h3x h
      ·exact h4 h
    ·rcases DU x y hx hy hp with h | h
     ·exact h16 h
     ·exact h17 h
   ·rcases Jg x y hx hy h3 with h | h | h | h | h | h | h | h | h | h | h
    ·exact h5 h
    ·exact h6 h
    ·exact h7 h
    ·exact h8 h
    ·exact h9 h
    ·exact h10 h
    ·exact h11 h
    ·exact h12 h
    ·exact h13 h
    ·exact h14 h
    ·exact h15 h
 rw [hn] at hw;cases hw
end
section
variable (x:Nat) (hx:x<65536)
include hx
theorem okN (hw:(mL x).2=true):t66 (mL x).1=some 0:=by
 by_cases h1:pM1 x∧Yw (UH x)
 ·have hk:=h1.2;rw [Kq] at h1;have e:(mL x).1=UH x:=by simp [mL,h1,UH]
  rw [e];exact sS ((mH (UH x)).1 rfl rfl) hk
 by_cases h2:pM2 x∧Yx (UI x)
 ·have hk:=h2.2;rw [Kq] at h1;rw [Of] at h2;have e:(mL x).1=UI x:=by simp [mL,h1,h2,UI]
  rw [e];exact sS ((mH (UI x)).2.1 rfl rfl) hk
 by_cases h3:Sr x∧KL (E0 x)
 ·have hk:=h3.2;rw [Kq] at h1;rw [Of] at h2;rw [Cd] at h3;have e:(mL x).1=E0 x:=by simp [mL,h1,h2,h3,E0]
  rw [e];exact sS ((mH (E0 x)).2.2.2.2.2.2.2.2.2.2.2.2.2.2.2.2.2.2.1 rfl rfl) hk
 by_cases h4:Ss x∧KM (E5 x)
 ·have hk:=h4.2;rw [Kq] at h1;rw [Of] at h2;rw [Cd] at h3;rw [Dz] at h4;have e:(mL x).1=E5 x:=by simp [mL,h1,h2,h3,h4,E5]
  rw [e];exact sS ((mH (E5 x)).2.2.2.2.2.2.2.2.2.2.2.2.2.2.2.2.2.2.2.1 rfl rfl) hk
 by_cases h5:Su x∧KN (E7 x)
 ·have hk:=h5.2;rw [Kq] at h1;rw [Of] at h2;rw [Cd] at h3;rw [Dz] at h4;rw [Gl] at h5;have e:(mL x).1=E7 x:=by simp [mL,h1,h2,h3,h4,h5,E7]
  rw [e];exact sS ((mH (E7 x)).2.2.2.2.2.2.2.2.2.2.2.2.2.2.2.2.2.2.2.2.1 rfl rfl) hk
 by_cases h6:Sv x∧KO (E9 x)
 ·have hk:=h6.2;rw [Kq] at h1;rw [Of] at h2;rw [Cd] at h3;rw [Dz] at h4;rw [Gl] at h5;rw [JR] at h6;have e:(mL x).1=E9 x:=by simp [mL,h1,h2,h3,h4,h5,h6,E9]
  rw [e];exact sS ((mH (E9 x)).2.2.2.2.2.2.2.2.2.2.2.2.2.2.2.2.2.2.2.2.2.1 rfl rfl) hk
 by_cases h7:Sw x∧KP (E_ x)
 ·have hk:=h7.2;rw [Kq] at h1;rw [Of] at h2;rw [Cd] at h3;rw [Dz] at h4;rw [Gl] at h5;rw [JR] at h6;rw [O4] at h7;have e:(mL x).1=E_ x:=by simp [mL,h1,h2,h3,h4,h5,h6,h7,E_]
  rw [e];exact sS ((mH (E_ x)).2.2.2.2.2.2.2.2.2.2.2.2.2.2.2.2.2.2.2.2.2.2.1 rfl rfl) hk
 by_cases h8:Sx x∧KQ (Fa x)
 ·have hk:=h8.2;rw [Kq] at h1;rw [Of] at h2;rw [Cd] at h3;rw [Dz] at h4;rw [Gl] at h5;rw [JR] at h6;rw [O4] at h7;rw [UF] at h8;have e:(mL x).1=Fa x:=by simp [mL,h1,h2,h3,h4,h5,h6,h7,h8,Fa]
  rw [e];exact sS ((mH (Fa x)).2.2.2.2.2.2.2.2.2.2.2.2.2.2.2.2.2.2.2.2.2.2.2.1 rfl rfl) hk
 by_cases h9:Sy x∧KR (Fb x)
 ·have hk:=h9.2;rw [Kq] at h1;rw [Of] at h2;rw [Cd] at h3;rw [Dz] at h4;rw [Gl] at h5;rw [JR] at h6;rw [O4] at h7;rw [UF] at h8;rw [aa1] at h9;have e:(mL x).1=Fb x:=by simp [mL,h1,h2,h3,h4,h5,h6,h7,h8,h9,Fb]
  rw [e];exact sS ((mH (Fb x)).2.2.2.2.2.2.2.2.2.2.2.2.2.2.2.2.2.2.2.2.2.2.2.2.1 rfl rfl) hk
 exfalso
 rw [Kq] at h1
 rw [Of] at h2
 rw [Cd] at h3
 rw [Dz] at h4
 rw [Gl] at h5
 rw [JR] at h6
 rw [O4] at h7
 rw [UF] at h8
 rw [aa1] at h9
 have hz:mL x=(⟨0,0,0,0,0,0,0,false⟩,false):=by simp only [mL];rw [if_neg h1,if_neg h2,if_neg h3,if_neg h4,if_neg h5,if_neg h6,if_neg h7,if_neg h8,if_neg h9]
 rw [hz] at hw;cases hw
end
theorem V4 (s:List UInt8) (h:(mY s).2.2=0):t66 (mY s).1=some 0:=by
 have h0:=zD s 0
 have h1:=zD s 1
 unfold mY at h ⊢
 by_cases h2:s.length<2
 ·rw [if_pos h2] at h;cases h
 rw [if_neg h2] at h ⊢
 by_cases h29:29≤wS s 0/2048
 ·rw [if_pos h29] at h ⊢
  by_cases h4:s.length<4
  ·rw [if_pos h4] at h;cases h
  rw [if_neg h4] at h ⊢
  cases hw:(nZ (wS s 0) (wS s 1)).2
  ·rw [hw,if_neg (by simp)] at h;cases h
  ·rw [if_pos rfl];exact okW _ _ h0 h1 hw
 ·rw [if_neg h29] at h ⊢
  cases hw:(mL (wS s 0)).2
  ·rw [hw,if_neg (by simp)] at h;cases h
  ·rw [if_pos rfl];exact okN _ h0 hw
theorem as9 (s:List UInt8):mY (s.take 4)=mY s:=by
 have e0:wS (s.take 4) 0=wS s 0:=by unfold wS;simp [ad9,ah8]
 have e1:wS (s.take 4) 1=wS s 1:=by unfold wS;simp [ad9,ah8]
 have q2:(s.take 4).length<2↔s.length<2:=by rw [al4];omega
 have q4:(s.take 4).length<4↔s.length<4:=by rw [al4];omega
 unfold mY
 rw [e0,e1]
 by_cases h2:s.length<2
 ·rw [if_pos h2,if_pos (q2.2 h2)]
 ·rw [if_neg h2,if_neg fun h=>h2 (q2.1 h)]
  by_cases h4:s.length<4
  ·rw [if_pos h4,if_pos (q4.2 h4)]
  ·rw [if_neg h4,if_neg fun h=>h4 (q4.1 h)]
end
noncomputable section
open Go Hk
@[simp] theorem aCH {m:Nat}{h:kO}{v:kN}{h':kO}{kv:kN→kO→Option Hk.R}:JP m h kv (.normal,[v],h')=bif h'.length == m then kv v (h'++h.drop m) else none:=(rfl)
def Yl (f:List UInt8) (s:St) (kn:Nat→Bool):Nat→Bool:=if s.pc%2≠0∨(f.length:Int)≤s.pc then kn else fun k=>if k=(s.pc/2).toNat then true else kn k
inductive aBK where
 | go (v:Ev) (s:St) (dn:Bool) (M:List UInt8)
 | trap (a:Int)
def onS (L I O R:Nat) (f:List UInt8) (s:St) (M:List UInt8):aBK :=
 if s.pc%2≠0∨(f.length:Int)≤s.pc then .trap 0
 else if (mY (f.drop s.pc.toNat)).2.2≠0 then .trap 0
 else if (rY s (mY (f.drop s.pc.toNat)).1).2=true then
  (match Hq L I O R M (rY s (mY (f.drop s.pc.toNat)).1).1 with
  | some r=>.go ⟨0,s.pc,(rY s (mY (f.drop s.pc.toNat)).1).1.addr,EJ s (mY (f.drop s.pc.toNat)).1⟩ (rB s (mY (f.drop s.pc.toNat)).1 r.1).1 (!(rB s (mY (f.drop s.pc.toNat)).1 r.1).2) r.2
  | none=>.trap (rY s (mY (f.drop s.pc.toNat)).1).1.addr)
 else .go ⟨0,s.pc,0,EJ s (mY (f.drop s.pc.toNat)).1⟩ (rB s (mY (f.drop s.pc.toNat)).1 0).1 (!(rB s (mY (f.drop s.pc.toNat)).1 0).2) M
def B4:kO:=[.cells [.ptr 0 0],.cells [.int .i64 0,.int .i64 0,.int .i64 0,.int .i64 0],.cells [.int .i64 0,.int .i64 0,.int .i64 0,.int .i64 0],.cells [.bool false]]
theorem Hr {s:St}{i:lL}:0≤(rY s i).1.addr∧(rY s i).1.addr<4294967296∧((rY s i).2=true→(rY s i).1.size=1∨(rY s i).1.size=4):=by
 have h:=tW (s.r i.rn.toNat)
 unfold rY
 split
 ·exact⟨h.1,h.2,fun _=>Or.inr rfl⟩
 split
 ·exact⟨h.1,h.2,fun _=>Or.inl rfl⟩
 split
 ·exact⟨h.1,h.2,fun _=>Or.inr rfl⟩
 split
 ·exact⟨h.1,h.2,fun _=>Or.inl rfl⟩
 ·exact⟨by decide,by decide,fun h=>by cases h⟩
section
variable {hd:Hd}{f:List UInt8}{s:St}{dn:Bool}{kn:Nat→Bool}{n:Nat}{rl:List mZ}{L I O R:Nat}{M:List UInt8}{m:Nat}{h:kO}
theorem bsM {i j k:Nat}(hi:i<m) (hj:j<m):nH m (.cells (MC hd f (.ptr i 0) s dn (.vslice j k 0 k 11)))=true:=by
 simp [nH,MC,Sc,kN.rI,kN.sC,tS,hi,hj]
theorem bsR {i:Nat}(hi:i<m):nH m (.cells [.slice (Rw mZ.cells rl) .no,.vslice i 7 0 7 1])=true:=by
 simp [nH,kN.rI,kN.sC,tS,hi]
theorem bsC:nH m (.vec n 11 (Ba f kn n))=true:=KF (fun i=>by unfold HM;split <;> rfl) n
theorem bs7 {tt i:Nat}(hi:i<m):nH m (.vec 7 1 (vP i tt (oY L I O R)))=true:=by
 simp [nH,vP,oY,kN.rI,kN.sC,tS,hi]
theorem bsB {tt:Nat}:nH m (.vec tt 1 (M.map bC))=true:=by
 show(M.map bC).all (kN.rI m)=true
 rw [List.all_map,List.all_eq_true];intro x _;rfl
theorem shS:tK m (.agg (Sc s))=.agg (Sc s):=rfl
theorem shI {x:Int}:tK m (.int .i64 x)=.int .i64 x:=rfl
theorem F1 {a b c d e g i:Int}{w:Bool}:tK m (.agg [.int .i64 a,.int .i64 b,.int .i64 c,.int .i64 d,.int .i64 e,.int .i64 g,.int .i64 i,.bool w])=.agg [.int .i64 a,.int .i64 b,.int .i64 c,.int .i64 d,.int .i64 e,.int .i64 g,.int .i64 i,.bool w]:=rfl
@[simp] theorem bsz {a b c d:Int}:nH m (.cells [.int .i64 a,.int .i64 b,.int .i64 c,.int .i64 d])=true:=(rfl)
@[simp] theorem bsb {b:Bool}:nH m (.cells [.bool b])=true:=(rfl)
theorem bsp (hm:0<m):nH m (.cells [.ptr 0 0])=true:=by simp [nH,kN.rI,kN.sC,tS,hm]
@[simp] theorem bsi {a b c d e g i:Int}{w:Bool}:nH m (.cells [.int .i64 a,.int .i64 b,.int .i64 c,.int .i64 d,.int .i64 e,.int .i64 g,.int .i64 i,.bool w])=true:=(rfl)
@[simp] theorem bsa {a b c:Int}{w:Bool}:nH m (.cells [.int .i64 a,.int .i64 b,.int .i64 c,.bool w])=true:=(rfl)
theorem Zd (hb:s.pc%2≠0∨(f.length:Int)≤s.pc):KK 41 [.ptr 0 0,.bool false] (MH hd f s dn kn n rl L I O R M++B4)=some (.pan (.iface 103 (.agg [.int .i64 0])),MH hd f s dn kn n rl L I O R M++B4):=by
 refine Dm rfl rfl (Wy ..) ?_
 have k56:=Ze (hd:=hd) (dn:=dn) (kn:=kn) (n:=n) (rl:=rl) (L:=L) (I:=I) (O:=O) (R:=R) (M:=M) hb
 unfold MH E6 at k56
 unfold MH B4
 generalize mB L I O R=tt at *
 have sv:=fun m (hm:4<m) h=>sK (id:=4) (tot:=tt) (m:=m) (h:=h) hm (l:=oY L I O R)
 simp only [aq6,ar0] at k56
 simp -implicitDefEqProofs [m41,k56,oO,oP,mG,sv,lT,nJ,Gu]
end
theorem k60 (s:St) (i:lL) (hk:t66 i=some 0) (h:kO):KK 60 [.agg (Sc s),.agg [.int .i64 i.op,.int .i64 i.rd,.int .i64 i.rn,.int .i64 i.rm,.int .i64 i.ra,.int .i64 i.imm,.int .i64 i.cond,.bool i.wide]] h=some (.ret (.int .i64 (EJ s i)),h):=c60 s i hk h
theorem k61 (s:St) (i:lL) (l:Int) (hk:t66 i=some 0) (h:kO):KK 61 [.agg (Sc s),.agg [.int .i64 i.op,.int .i64 i.rd,.int .i64 i.rn,.int .i64 i.rm,.int .i64 i.ra,.int .i64 i.imm,.int .i64 i.cond,.bool i.wide],.int .i64 l] h=some (.ret (.tuple [.agg (Sc (rB s i l).1),.bool (rB s i l).2]),h):=c61 s i l hk h
section
variable {hd:Hd}{f:List UInt8}{s:St}{dn:Bool}{kn:Nat→Bool}{n:Nat}{L I O R:Nat}(hL:L≤262144) (hI:I≤65536) (hO:O≤65536) (hR:R≤65536) {M:List UInt8}(hM:M.length=mB L I O R) {i:Nat}(hp:s.pc=((2*i:Nat):Int)) (hl:2*i<f.length) (hn:i<n) (hf:f.length<1000000)
include hL hI hO hR hM hp hl hn hf
set_option maxHeartbeats 4000000 in
theorem ahY:KK 41 [.ptr 0 0,.bool false] (MH hd f s dn kn n (pZ (nO I O R) L) L I O R M++B4)=some (match onS L I O R f s M with
  | .go v s' dn' M'=>(.ret (.agg v.cells),MH hd f s' dn' (fun k=>if k=i then true else kn k) n (pZ (nO I O R) L) L I O R M'++B4)
  | .trap a=>(.pan (.iface 103 (.agg [.int .i64 a])),MH hd f s dn (fun k=>if k=i then true else kn k) n (pZ (nO I O R) L) L I O R M++B4)):=by
 refine Dm rfl rfl (Wy ..) ?_
 have k56:=c56 (hd:=hd) (dn:=dn) (kn:=kn) (n:=n) (rl:=pZ (nO I O R) L) (L:=L) (I:=I) (O:=O) (R:=R) (M:=M) hp hl hn hf
 have hdok:=V4 (f.drop (2*i))
 unfold onS
 rw [if_neg (show ¬(s.pc%2≠0∨(f.length:Int)≤s.pc) by omega),show s.pc.toNat=2*i from by omega]
 generalize (fun k=>if k=i then true else kn k)=kn' at *
 generalize mY (f.drop (2*i))=d at *
 obtain⟨j,sz,er⟩:=d
 dsimp only at k56 hdok ⊢
 have sv:=fun tt m (hm:4<m) h=>sK (id:=4) (tot:=tt) (m:=m) (h:=h) hm (l:=oY L I O R)
 by_cases he:er=0
 ·rw [if_pos he] at k56
  rw [if_neg (by simpa using he)]
  have hk:=hdok he
  have k58:=fun h=>k58 s j hk h
  have k60:=fun h=>k60 s j hk h
  have k61:=fun l h=>k61 s j l hk h
  have ab:=Hr (s:=s) (i:=j)
  generalize rY s j=ac at *
  obtain⟨a,is⟩:=ac
  cases is with
  | false =>
   rw [if_neg (by simp)]
   dsimp only at k58 ⊢
   unfold MH E6 at k56
   unfold MH B4
   generalize pZ (nO I O R) L=rl at *
   generalize mB L I O R=tt at *
   generalize EJ s j=cy at *
   have k61':=fun h=>k61 0 h
   generalize rB s j 0=q at *
   obtain⟨s2,on⟩:=q
   simp only [aq6,ar0,lL.lX] at k56
   simp -implicitDefEqProofs [m41,k56,k58,k60,k61',bsM,bsR,bsC,bs7,bsB,bsp,nD,qQ,shS,shI,F1,q_,PK,Vp,rK,rL,sB,oO,oP,mG,sv,lT,nJ,Gu,-kU,lU,lV]
  | true =>
   have k59:=c59 (hd:=hd) (f:=f) (s:=s) (dn:=dn) (kn:=kn') (n:=n) hL hI hO hR hM ab.1 ab.2.1 (ab.2.2 rfl) (pc:=s.pc) (i:=j)
   dsimp only at k58 ⊢
   rw [if_pos rfl]
   unfold MH E6 at k56
   unfold MH E8 E6 at k59
   unfold MH B4
   generalize EJ s j=cy at *
   cases hac:Hq L I O R M a with
   | none =>
    rw [hac] at k59
    generalize pZ (nO I O R) L=rl at *
    generalize mB L I O R=tt at *
    simp only [aq6,ar0,lL.lX,Acc.lX] at k56 k59
    simp -implicitDefEqProofs [m41,k56,k58,k59,bsM,bsR,bsC,bs7,bsB,bsp,nD,qQ,shS,shI,F1,q_,PK,Vp,rK,rL,sB,oO,oP,mG,sv,lT,nJ,Gu,-kU,lU,lV]
   | some w =>
    rw [hac] at k59
    generalize pZ (nO I O R) L=rl at *
    generalize mB L I O R=tt at *
    have k61':=fun h=>k61 w.1 h
    dsimp only
    generalize rB s j w.1=q at *
    obtain⟨s2,on⟩:=q
    simp only [aq6,ar0,lL.lX,Acc.lX] at k56 k59
    simp -implicitDefEqProofs [m41,k56,k58,k59,k60,k61',bsM,bsR,bsC,bs7,bsB,bsp,nD,qQ,shS,shI,F1,q_,PK,Vp,rK,rL,sB,oO,oP,mG,sv,lT,nJ,Gu,-kU,lU,lV]
 ·rw [if_neg he] at k56
  rw [if_pos he]
  unfold MH E6 at k56
  unfold MH B4
  generalize pZ (nO I O R) L=rl at *
  generalize mB L I O R=tt at *
  simp only [aq6,ar0] at k56
  simp -implicitDefEqProofs [m41,k56,oO,oP,mG,sv,lT,nJ,Gu]
end
end
section
open Go Hk
def Ld (x:pF) (a:Int):Bool:=decide (x.a≤a)&&decide (a-x.a<x.n)
def Gi:List pF→Int→Option Nat
 | [],_=>none
 | x::r,a=>if Ld x a=true then some (bt x.v (a-x.a).toNat) else Gi r a
def We (f g:List UInt8) (a:Int):Nat:=if a<(f.length:Int) then(f.getD a.toNat 0).toNat else if 536936448≤a∧a<536936448+(g.length:Int) then(g.getD (a-536936448).toNat 0).toNat else 0
def Cf (f g:List UInt8) (l:List pF) (a:Int):Nat:=match Gi l.reverse a with
 | some v=>v
 | none=>We f g a
theorem Xp {f g:List UInt8}{l:List pF}{x:pF}{a:Int}:Cf f g (l++[x]) a=if Ld x a=true then bt x.v (a-x.a).toNat else Cf f g l a:=by
 unfold Cf
 rw [List.reverse_append]
 have e:Gi ([x].reverse++l.reverse) a=if Ld x a=true then some (bt x.v (a-x.a).toNat) else Gi l.reverse a:=rfl
 rw [e]
 by_cases h:Ld x a=true
 ·rw [if_pos h,if_pos h]
 ·rw [if_neg h,if_neg h]
section
variable (f g:List UInt8) (O R:Nat) (hz:Ew (nO g.length O R) (f.length:Int)=0)
def yI (f g:List UInt8) (O R:Nat):tX:=⟨nO g.length O R,f,g⟩
def Ah (f g:List UInt8) (O R:Nat) (x:pF):Prop:=x.kind=1∧0≤x.a∧x.a<4294967296∧(x.n=1∨x.n=4)∧∃k,C9 true x.a x.n (pZ (nO g.length O R) f.length)=some k
include hz
theorem XQ {a n:Int}(a0:0≤a) (a1:a<4294967296) (hn:n=1∨n=4) (w:Bool):t67 (yI f g O R) a n w=some (Tw (C9 w a n (pZ (nO g.length O R) f.length))).2:=by
 obtain⟨n1,n2,n3,n4,n5⟩:=JW f g O R hz
 have hs:Oe (nO g.length O R):=by unfold Oe nO;dsimp only;omega
 have hb:=afK (p:=nO g.length O R) (n:=(f.length:Int)) (by omega) hs hz
 unfold t67
 show tb (t97 (nO g.length O R) (f.length:Int)) _=_
 rw [az3 hs (by omega) hz,kS]
 dsimp only
 rw [az4 a0 a1 hn w (show(pZ (nO g.length O R) f.length).length<100 by simp [pZ]) hb];rfl
theorem azO:t29 (yI f g O R)=some 0:=by
 obtain⟨n1,n2,n3,n4,n5⟩:=JW f g O R hz
 have hs:Oe (nO g.length O R):=by unfold Oe nO;dsimp only;omega
 unfold t29
 show tb (t15 (nO g.length O R) (f.length:Int)) _=_
 rw [TW hs (by omega),hz,kS,show decide ((0:Int)=0)=true from rfl,lD]
 show Fo (!decide (((g.length:Nat):Int)=((g.length:Nat):Int))) 0=_
 rw [n9 rfl];rfl
theorem l68 (l:List pF) (hl:l.length<1000000) (hg:∀x∈l,Ah f g O R x) {a:Int}(a0:0≤a) (a1:a<4611686018427387904):∀j:Nat,j≤l.length →
  (∀v,Gi (l.take j).reverse a=some v→∃i,rX (BE l a (yI f g O R)) (0,(j:Int)-1)=some (.r,((v:Nat):Int),i))∧(Gi (l.take j).reverse a=none→∃s,rX (BE l a (yI f g O R)) (0,(j:Int)-1)=some (.x 0,s)):=by
 intro j
 induction j with
 | zero =>
  intro _
  refine⟨fun v h=>(by simp [Gi] at h),fun _=>⟨(0,-1),mV rfl (by simp)⟩⟩
 | succ j ih =>
  intro hj
  have hj2:j<l.length:=by omega
  have e:(l.take (j+1)).reverse=l[j]::(l.take j).reverse:=by
   rw [List.take_add_one,List.reverse_append];simp [hj2]
  obtain⟨k1,xa0,xa1,xn,k,hk⟩:=hg l[j] (List.getElem_mem hj2)
  have hf:=XQ f g O R hz xa0 xa1 xn true
  rw [hk] at hf
  have hi:sF l (j:Int)=some l[j]:=by unfold sF;rw [if_pos (by omega)];simp [hj2]
  have st:BE l a (yI f g O R) (0,(j:Int))=if Ld l[j] a=true then some (.r,((bt l[j].v (a-l[j].a).toNat:Nat):Int),(j:Int)) else some (.n,(0,(j:Int)-1)):=by
   unfold BE
   dsimp only
   rw [n9 (show(0:Int)≤(j:Int) by omega),lD,hi,kS,k1,show(!decide ((1:Int)=0))=true from rfl,lD]
   unfold IJ IK
   rw [lP (a-l[j].a) (by omega) (by omega),hf,kS]
   unfold IL Ld
   rw [lP ((j:Int)-1) (by omega) (by omega),lP (a-l[j].a) (by omega) (by omega)]
   by_cases h1:l[j].a≤a
   ·rw [n9 h1,lD]
    by_cases h2:a-l[j].a<l[j].n
    ·have e3:(a-l[j].a).toNat<4:=by omega
     rw [n9 h2,lD,show decide ((Tw (some k)).2=0)=true from rfl,lD,afR,kS,XY (wB l[j].v) (a-l[j].a).toNat (by rw [C7];exact e3) _ (by omega),kS,FA _ _ e3]
     have:=VW l[j].v (a-l[j].a).toNat
     rw [lP _ (by omega) (by omega)];rfl
    ·rw [mT h2,kX,kX];rfl
   ·rw [mT h1,kX,kX,kX];rfl
  rw [e,show(((j+1:Nat):Int)-1)=(j:Int) from by omega]
  unfold Gi
  by_cases h:Ld l[j] a=true
  ·rw [if_pos h] at st ⊢
   exact⟨fun v hv=>(by cases hv;exact⟨_,mV st (by simp)⟩),fun h=>(by cases h)⟩
  ·rw [if_neg h] at st ⊢
   rw [oB st]
   exact ih (by omega)
theorem azX (l:List pF) (hl:l.length<1000000) (hg:∀x∈l,Ah f g O R x) {a:Int}(a0:0≤a) (a1:a<4611686018427387904):t68 (yI f g O R) l a=some ((Cf f g l a:Nat):Int):=by
 obtain⟨n1,n2,n3,n4,n5⟩:=JW f g O R hz
 have q:=l68 f g O R hz l hl hg a0 a1 l.length (Nat.le_refl _)
 rw [List.take_length] at q
 unfold t68 Cf
 rw [lP ((l.length:Int)-1) (by omega) (by omega)]
 cases hb:Gi l.reverse a with
 | some v =>
  obtain⟨i,e⟩:=q.1 v hb
  rw [e];rfl
 | none =>
  obtain⟨s,e⟩:=q.2 hb
  rw [e]
  simp only [kS,uL,vO]
  show tc (decide (a<(f.length:Int))) (tb (uU f a) _) _=_
  unfold We
  by_cases h1:a<(f.length:Int)
  ·have h2:=(f.getD a.toNat 0).toNat_lt
   rw [n9 h1,lD,XY f a.toNat (by omega) a (by omega),kS,if_pos h1,lP _ (by omega) (by omega)]
  ·rw [mT h1,kX,if_neg h1]
   unfold IN
   show tc _ (tc (decide (a<IntKind.wrap .i64 (536936448+(g.length:Int)))) (tb (uU g _) _) _) _=_
   rw [lP (536936448+(g.length:Int)) (by omega) (by omega)]
   by_cases h3:536936448≤a
   ·rw [n9 h3,lD]
    by_cases h4:a<536936448+(g.length:Int)
    ·have h2:=(g.getD (a-536936448).toNat 0).toNat_lt
     rw [n9 h4,lD,lP (a-536936448) (by omega) (by omega),XY g (a-536936448).toNat (by omega) _ (by omega),kS,if_pos ⟨h3,h4⟩,lP _ (by omega) (by omega)]
    ·rw [mT h4,kX,if_neg (by omega)];simp
   ·rw [mT h3,kX,kX,if_neg (by omega)];simp
theorem DY (l:List pF) (a:Int):Cf f g l a<256:=by
 have:∀l v,Gi l a=some v→v<256:=by
  intro l
  induction l with
  | nil=>intro v h;cases h
  | cons x r ih =>
   intro v h
   unfold Gi at h
   split at h
   ·cases h;exact VW _ _
   ·exact ih v h
 unfold Cf
 cases h:Gi l.reverse a with
 | some v=>exact this _ _ h
 | none =>
  dsimp only
  unfold We
  split
  ·exact UInt8.toNat_lt _
  ·split
   ·exact UInt8.toNat_lt _
   ·decide
def O7 (B:Int→Nat) (a n:Int):Int:=if n=1 then(B a:Int) else(B a+256*B (a+1)+65536*B (a+2)+16777216*B (a+3):Nat)
theorem azT (l:List pF) (hl:l.length<1000000) (hg:∀x∈l,Ah f g O R x) {a n:Int}(a0:0≤a) (a1:a<4294967296) (hn:n=1∨n=4) :
  t49 (yI f g O R) l a n=some (match C9 false a n (pZ (nO g.length O R) f.length) with | some _=>(O7 (Cf f g l) a n,0) | none=>(0,8)):=by
 unfold t49
 rw [XQ f g O R hz a0 a1 hn false,kS]
 cases C9 false a n (pZ (nO g.length O R) f.length) with
 | none=>rfl
 | some k =>
  rw [show(Tw (some k)).2=0 from rfl,show(!decide ((0:Int)=0))=false from rfl,kX]
  have B:=fun(i:Int) (h0:0≤i) (h1:i≤4)=>azX f g O R hz l hl hg (a:=a+i) (by omega) (by omega)
  have st:∀(v i:Int),0≤i→i≤3→0≤v→v<4294967296→CS l a (yI f g O R) (v,i)=some (.n,(256*v+(Cf f g l (a+i):Int),i-1)):=by
   intro v i h0 h1 h2 h3
   have hb:=DY f g O R hz l (a+i)
   unfold CS
   dsimp only
   rw [n9 h0,lD,lP (a+i) (by omega) (by omega),B i h0 (by omega),kS,lP (256*v) (by omega) (by omega),lP _ (by omega) (by omega),lP (i-1) (by omega) (by omega)]
  have en:∀v,CS l a (yI f g O R) (v,-1)=some (.x 0,(v,-1)):=fun v=>rfl
  have b0:=DY f g O R hz l (a+0)
  have b1:=DY f g O R hz l (a+1)
  have b2:=DY f g O R hz l (a+2)
  have b3:=DY f g O R hz l (a+3)
  rcases hn with rfl | rfl
  ·rw [lP (1-1) (by omega) (by omega),show(1-1:Int)=0 from rfl,oB (st 0 0 (by decide) (by decide) (by decide) (by decide)),show(0-1:Int)=-1 from rfl,mV (en _) (by simp)]
   simp [uL,vO,O7]
  ·rw [lP (4-1) (by omega) (by omega),show(4-1:Int)=3 from rfl,oB (st 0 3 (by decide) (by decide) (by decide) (by decide)),show(3-1:Int)=2 from rfl,oB (st _ 2 (by decide) (by decide) (by omega) (by omega)),show(2-1:Int)=1 from rfl,oB (st _ 1 (by decide) (by decide) (by omega) (by omega)),show(1-1:Int)=0 from rfl,oB (st _ 0 (by decide) (by decide) (by omega) (by omega)),show(0-1:Int)=-1 from rfl,mV (en _) (by simp)]
   simp only [kS,uL,vO,O7,if_neg (show ¬(4:Int)=1 by decide),Int.add_zero]
   rw [show a+0=a from Int.add_zero a] at b0
   show some _=some _
   congr 2
   omega
theorem azS (x:pF) (hx:x.kind=1) (a0:0≤x.a) (a1:x.a<4294967296) (hn:x.n=1∨x.n=4) :
  t48 (yI f g O R) [x]=some [⟨0,(Tw (C9 true x.a x.n (pZ (nO g.length O R) f.length))).2⟩]:=by
 have hf:=XQ f g O R hz a0 a1 hn true
 have s0:CR [x] (yI f g O R) ([],0)=some (.n,([⟨0,(Tw (C9 true x.a x.n (pZ (nO g.length O R) f.length))).2⟩],1)):=by
  unfold CR NG
  dsimp only
  rw [show decide ((0:Int)<(([x].length:Nat):Int))=true from rfl,lD,show sF [x] 0=some x from rfl,kS,hx,show decide ((1:Int)=0)=false from rfl,kX,kS,kS,hf]
  rfl
 have s1:∀l,CR [x] (yI f g O R) (l,1)=some (.x 0,(l,1)):=fun l=>rfl
 unfold t48
 rw [oB s0,mV (s1 _) (by simp)]
 rfl
end
end
section
open Go Hk
def RC (hd:Hd) (sr:tX) (s:St) (dn:Bool) (p:List pF) (t:Tok):List kN:=hd.cells++(sr.cells++(Sc s++[.bool dn,.slice (Rw pF.cells p) t]))
section
variable {hd:Hd}{sr:tX}{s s':St}{dn b:Bool}{p p':List pF}{t:Tok}{m j:Nat}{h:kO}
@[simp] theorem aBI:(RC hd sr s dn p t).length=33:=(rfl)
@[simp] theorem aAq:(RC hd sr s dn p t).take 33=RC hd sr s dn p t:=(rfl)
@[simp] theorem aHy {hh:1<(RC hd sr s dn p t).length}:(RC hd sr s dn p t)[1]'hh=.int .i64 hd.handler:=(rfl)
@[simp] theorem aHz {hh:9<(RC hd sr s dn p t).length}:(RC hd sr s dn p t)[9]'hh=.str sr.flash:=(rfl)
@[simp] theorem aFd {hh:26<(RC hd sr s dn p t).length}:(RC hd sr s dn p t)[26]'hh=.int .i64 s.pc:=(rfl)
@[simp] theorem aFe {hh:31<(RC hd sr s dn p t).length}:(RC hd sr s dn p t)[31]'hh=.bool dn:=(rfl)
@[simp] theorem aFf {hh:32<(RC hd sr s dn p t).length}:(RC hd sr s dn p t)[32]'hh=.slice (Rw pF.cells p) t:=(rfl)
@[simp] theorem aFh:((RC hd sr s dn p t).drop 11).take 20=Sc s:=(rfl)
@[simp] theorem aFg:((RC hd sr s dn p t).drop 6).take 5=[.int .i64 sr.sizes.inn,.int .i64 sr.sizes.outt,.int .i64 sr.sizes.rail,.str sr.flash,.str sr.input]:=(rfl)
theorem Db {x:Int}:kU (RC hd sr s dn p t) 26 [.int .i64 x]=RC hd sr { s with pc:=x } dn p t:=(rfl)
theorem A3:kU (RC hd sr s dn p t) 11 (Sc s')=RC hd sr s' dn p t:=(rfl)
theorem Ol:kU (RC hd sr s dn p t) 31 [.bool b]=RC hd sr s b p t:=(rfl)
theorem Gt {t':Tok}:kU (RC hd sr s dn p t) 32 [.slice (Rw pF.cells p') t']=RC hd sr s dn p' t':=(rfl)
theorem tG (hj:j<m):mI m h (RC hd sr s dn p (.own j))=some (RC hd sr s dn p (.own j)):=by
 simp [RC,Sc,hj]
theorem vQ:(∀x:kN,x∈RC hd sr s dn p (.own j)→x.lS=true)=True:=by
 apply eq_true
 simp [RC,Sc]
theorem tF (hj:j<m):(RC hd sr s dn p (.own j)).map (fun x=>kN.oW m h x)=RC hd sr s dn p (.own j):=by
 simp [RC,Sc,hj]
theorem rD {l:List kN}:nQ h l (RC hd sr s dn p (.own j))=RC hd sr s dn p (.own j):=sA _ _ (by simp [RC,Sc,kN.isNil])
theorem x7 {l:List kN}:nQ h l [.slice (Rw pF.cells p) (.own j)]=[.slice (Rw pF.cells p) (.own j)]:=sA _ _ (by simp [kN.isNil])
@[simp ↓ 2000] theorem aAu:lR 33 h (.agg (RC hd sr s dn p (.own j)))=some (.ptr h.length 0,h++[.cells (RC hd sr s dn p (.own j))]):=by
 cases p <;> rfl
@[simp ↓ 2000] theorem K_:lR 33 h (.agg [(.int .i64 0),(.int .i64 0),(.int .i64 0),(.int .i64 0),(.int .i64 0),(.int .i64 0),(.int .i64 0),(.int .i64 0),(.int .i64 0),(.str []),(.str []),(.int .i64 0),(.int .i64 0),(.int .i64 0),(.int .i64 0),(.int .i64 0),(.int .i64 0),(.int .i64 0),(.int .i64 0),(.int .i64 0),(.int .i64 0),(.int .i64 0),(.int .i64 0),(.int .i64 0),(.int .i64 0),(.int .i64 0),(.int .i64 0),(.bool false),(.bool false),(.bool false),(.bool false),(.bool false),(.slice [] .nil)])=some (.ptr h.length 0,h++[.cells (RC ⟨0,0,⟨0,0,0⟩,0⟩ ⟨⟨0,0,0⟩,[],[]⟩ Ve false [] (.own (h.length+1))),.front 0 0]):=(rfl)
end
section
variable {hd:Hd}{sr:tX}{s s':St}{dn dn':Bool}{p p':List pF}
theorem sG {hd':Hd}{sr':tX}{t:Tok}:kU (RC hd' sr' s' dn' p' t) 0 (RC hd sr s dn p (.own 0))=RC hd sr s dn p (.own 0):=(rfl)
theorem ahN {a:Int}:C8 Tryz.prog mJ nP (Ag Tryz.prog mJ) 44 [.agg (RC hd sr s dn p (.own 0)),.int .i64 a] [qL 4 p.length]=some (.ret (.tuple [.agg (RC hd sr { s with pc:=hd.handler } dn p (.own 0)),.agg [.int .i64 2,.int .i64 s.pc,.int .i64 a,.int .i64 12]]),[qL 4 p.length]):=by
 refine(aj7 ..).trans ?_
 simp -implicitDefEqProofs [m44,rL,Db,sG,tG,vQ,tF,rD,CA,-kU,lU,lV]
end
end
section
open Go Hk
section
variable {hd:Hd}{sr:tX}{s s':St}{dn dn':Bool}{p p':List pF}{fn:Nat}{x:kN}{v:Ev}(hp:mJ.pure fn=false) (hs:mJ.sub fn=true) (hA:x.refs=[]) (hB:∀p,x.ok p=true) (hC:∀F,x.pO F=x)
theorem afI {j:Nat}:(kN.agg (RC hd sr s dn p (.own j))).refs=[j]:=rfl
theorem awM {j:Nat}{q:Nat→Bool}:kN.ok q (.agg (RC hd sr s dn p (.own j)))=(q j&&true):=by simp [RC,Sc]
theorem afJ {j:Nat}{F:Nat→Nat}:kN.pO F (.agg (RC hd sr s dn p (.own j)))=.agg (RC hd sr s dn p (.own (F j))):=by simp [RC,Sc]
theorem okT {j:Nat}{q:Nat→Bool}:kN.ok q (.tuple [.agg (RC hd sr s dn p (.own j)),.agg v.cells])=(q j&&true):=by simp [RC,Sc]
theorem aD9 {j:Nat}{F:Nat→Nat}:kN.pO F (.tuple [.agg (RC hd sr s dn p (.own j)),.agg v.cells])=.tuple [.agg (RC hd sr s dn p (.own (F j))),.agg v.cells]:=by simp [RC,Sc]
include hp hs hA hB hC
theorem ay4 (he:C8 Tryz.prog mJ nP (Ag Tryz.prog mJ) fn [.agg (RC hd sr s dn p (.own 0)),x] [qL 4 p.length]=some (.ret (.tuple [.agg (RC hd sr s' dn' p' (.own 0)),.agg v.cells]),[qL 4 p'.length])) (l:kO) :
  KK fn [.agg (RC hd sr s dn p (.own 0)),x] (qL 4 p.length::l)=some (.ret (.tuple [.agg (RC hd sr s' dn' p' (.own 0)),.agg v.cells]),qL 4 p'.length::l):=by
 have hr:reach (qL 4 p.length::l) [.agg (RC hd sr s dn p (.own 0)),x]=[0]:=by
  unfold reach
  rw [List.flatMap_cons,List.flatMap_cons,hA,afI]
  simp
 exact Ky (P:=Tryz.prog) (A:=mJ) (x:=some ()) (v:=fun _=>.tuple [.agg (RC hd sr s' dn' p' (.own 0)),.agg v.cells]) (v':=fun _=>.tuple [.agg (RC hd sr s' dn' p' (.own 0)),.agg v.cells]) (ids:=[0]) (h1:=fun _=>_) (h2:=fun _=>_) hp hs hr (by simp [-kN.ok,awM,hB]) (by simp [-kN.pO,afJ,hC]) (by simp) he rfl (fun _=>by simp [-kN.ok,-kN.pO,-Ev.lX,okT,aD9])
end
theorem Zx {hd:Hd}{sr:tX}{s:St}{dn:Bool}{p:List pF}(a:Int) (l:kO):KK 44 [.agg (RC hd sr s dn p (.own 0)),.int .i64 a] (qL 4 p.length::l)=some (.ret (.tuple [.agg (RC hd sr { s with pc:=hd.handler } dn p (.own 0)),.agg [.int .i64 2,.int .i64 s.pc,.int .i64 a,.int .i64 12]]),qL 4 p.length::l) :=
 ay4 (v:=⟨2,s.pc,a,12⟩) rfl rfl rfl (fun p=>rfl) (fun F=>rfl) ahN l
theorem k42 (h:kO):KK 42 [.agg [.int .i64 0,.int .i64 0,.int .i64 0,.int .i64 0]] h=some (.ret (.int .i64 0),h):=by
 have:=Da ⟨0,0,0,0⟩ h
 rw [this]
 have e:t42 ⟨0,0,0,0⟩=some 0:=rfl
 rw [e];rfl
theorem c43 (s:St) (h:kO):KK 43 [.agg (Sc s),.agg [.int .i64 0,.int .i64 0,.int .i64 0,.int .i64 0]] h=some (.ret (.agg (Sc s)),h):=by
 refine qC rfl rfl (aj6 ..) ?_
 simp [-kU,lU,lV,m43,nD,qQ,rK]
end
noncomputable section
open Go Hk
def Ov (f g:List UInt8) (O R:Nat) (p:List pF) (a:Acc):Option (Int×List pF) :=
 if a.write=true then(match C9 true a.addr a.size (pZ (nO g.length O R) f.length) with | some _=>some (0,p++[⟨1,a.addr,a.size,a.value⟩]) | none=>none)
 else(match C9 false a.addr a.size (pZ (nO g.length O R) f.length) with | some _=>some (O7 (Cf f g p) a.addr a.size,p) | none=>none)
inductive aBL where
 | go (v:Ev) (s:St) (dn:Bool) (p:List pF)
 | trap (a:Int)
def onR (f g:List UInt8) (O R:Nat) (s:St) (p:List pF):aBL :=
 if s.pc%2≠0∨(f.length:Int)≤s.pc then .trap 0
 else if (mY (f.drop s.pc.toNat)).2.2≠0 then .trap 0
 else if (rY s (mY (f.drop s.pc.toNat)).1).2=true then
  (match Ov f g O R p (rY s (mY (f.drop s.pc.toNat)).1).1 with
  | some r=>.go ⟨0,s.pc,(rY s (mY (f.drop s.pc.toNat)).1).1.addr,EJ s (mY (f.drop s.pc.toNat)).1⟩ (rB s (mY (f.drop s.pc.toNat)).1 r.1).1 (!(rB s (mY (f.drop s.pc.toNat)).1 r.1).2) r.2
  | none=>.trap (rY s (mY (f.drop s.pc.toNat)).1).1.addr)
 else .go ⟨0,s.pc,0,EJ s (mY (f.drop s.pc.toNat)).1⟩ (rB s (mY (f.drop s.pc.toNat)).1 0).1 (!(rB s (mY (f.drop s.pc.toNat)).1 0).2) p
def pK (handler:Int) (f g:List UInt8) (O R:Nat) (s:St) (p:List pF):Ev×St×Bool×List pF:=match onR f g O R s p with
 | .go v s' dn' p'=>(v,s',dn',p')
 | .trap a=>(⟨2,s.pc,a,12⟩,{ s with pc:=handler },false,p)
theorem Yk (s:List UInt8) (h:kO):KK 45 [.str s] h=some (.ret (.tuple [.agg [.int .i64 (mY s).1.op,.int .i64 (mY s).1.rd,.int .i64 (mY s).1.rn,.int .i64 (mY s).1.rm,.int .i64 (mY s).1.ra,.int .i64 (mY s).1.imm,.int .i64 (mY s).1.cond,.bool (mY s).1.wide],.int .i64 (mY s).2.1,.int .i64 (mY s).2.2]),h):=by
 rw [U7,azR];rfl
theorem k50 (s:St) (i:lL) (hk:t66 i=some 0) (h:kO):KK 50 [.agg (Sc s),.agg [.int .i64 i.op,.int .i64 i.rd,.int .i64 i.rn,.int .i64 i.rm,.int .i64 i.ra,.int .i64 i.imm,.int .i64 i.cond,.bool i.wide]] h=some (.ret (.int .i64 (EJ s i)),h):=c50 s i hk h
theorem k51 (s:St) (i:lL) (l:Int) (hk:t66 i=some 0) (h:kO):KK 51 [.agg (Sc s),.agg [.int .i64 i.op,.int .i64 i.rd,.int .i64 i.rn,.int .i64 i.rm,.int .i64 i.ra,.int .i64 i.imm,.int .i64 i.cond,.bool i.wide],.int .i64 l] h=some (.ret (.tuple [.agg (Sc (rB s i l).1),.bool (rB s i l).2]),h):=c51 s i l hk h
@[simp] theorem aHS {m sz n:Nat}:nH m (qL sz n)=true:=(rfl)
@[simp] theorem aHT {m a b:Nat}:nH m (.front a b)=true:=(rfl)
theorem VV {m j:Nat}{hd:Hd}{sr:tX}{s:St}{dn:Bool}{p:List pF}(hj:j<m):nH m (.cells (RC hd sr s dn p (.own j)))=true:=by
 simp [nH,RC,Sc,kN.rI,kN.sC,tS,hj]
@[simp] theorem aAp {hd:Hd}{sr:tX}{s:St}{dn:Bool}{p:List pF}{t:Tok}:(RC hd sr s dn p t).drop 33=[]:=(rfl)
theorem agK {s:St}{i:lL}(h:(rY s i).2=false):(rY s i).1.addr=0:=by
 unfold rY at h ⊢
 split at h
 ·cases h
 ·split at h
  ·cases h
  ·split at h
   ·cases h
   ·split at h
    ·cases h
    ·rename_i h1 h2 h3 h4;rw [if_neg h1,if_neg h2,if_neg h3,if_neg h4]
theorem VL {α:Type}{enc:α→List kN}(he:∀x,(enc x).length=4) (id:Nat) (l:List α) (hl:l.length<2000000) (v:α) (h:kO) (T:Tok) (hh:h[id]?=some (qL 4 l.length)):rS 4 32 h (.slice (Rw enc l) (.own id)) (.slice (Rw enc [v]) T)=some (.slice (Rw enc (l++[v])) (.own id),h.set id (qL 4 (l.length+1))):=by
 have e:tH 4 h (.slice (Rw enc [v]) T)=some (Rw enc [v]):=by simp [tH,Rw,he]
 unfold rS
 rw [e]
 simp only [hh,qL]
 have e2:(Rw enc l).length=l.length:=by simp [Rw]
 rw [e2,if_pos (by refine⟨rfl,?_,?_,?_⟩ <;> first | (split <;> simp_all) | (simp [Rw];omega))]
 simp [Rw]
section
variable {hd:Hd}{f g:List UInt8}{O R:Nat}(hz:Ew (nO g.length O R) (f.length:Int)=0) {s:St}(hpc:0≤s.pc) {p:List pF}(hl:p.length<1000000)
include hz hpc hl
theorem YX {dn:Bool}(hb:s.pc%2≠0∨(f.length:Int)≤s.pc):C8 Tryz.prog mJ nP (Ag Tryz.prog mJ) 30 [.agg (RC hd (yI f g O R) s dn p (.own 0)),.agg [.int .i64 0,.int .i64 0,.int .i64 0,.int .i64 0]] [qL 4 p.length] =
  some (.ret (.tuple [.agg (RC hd (yI f g O R) { s with pc:=hd.handler } dn p (.own 0)),.agg [.int .i64 2,.int .i64 s.pc,.int .i64 0,.int .i64 12]]),[qL 4 p.length]):=by
 refine(Wx ..).trans ?_
 have tr:qA s.pc 2=some (s.pc%2):=pE hpc (by decide)
 have Zx:=fun l=>Zx (hd:=hd) (sr:=yI f g O R) (s:=s) (dn:=dn) (p:=p) 0 l
 have fl:(yI f g O R).flash=f:=rfl
 by_cases h2:s.pc%2=0
 ·have h3:(f.length:Int)≤s.pc:=by omega
  simp -implicitDefEqProofs [m30,k42,c43,tr,h2,h3,fl,Zx,rL,sB,rK,A3,Db,sG,tG,vQ,tF,rD,nD,CA,-kU,lU,lV]
 ·simp -implicitDefEqProofs [m30,k42,c43,tr,h2,fl,Zx,rL,sB,rK,A3,Db,sG,tG,vQ,tF,rD,nD,CA,-kU,lU,lV]
set_option maxHeartbeats 4000000 in
theorem ag4 {dn:Bool}(hb:¬(s.pc%2≠0∨(f.length:Int)≤s.pc)) (hg:∀x∈p,Ah f g O R x):C8 Tryz.prog mJ nP (Ag Tryz.prog mJ) 30 [.agg (RC hd (yI f g O R) s false p (.own 0)),.agg [.int .i64 0,.int .i64 0,.int .i64 0,.int .i64 0]] [qL 4 p.length] =
  some (match onR f g O R s p with
  | .go v s' dn' p'=>(.ret (.tuple [.agg (RC hd (yI f g O R) s' dn' p' (.own 0)),.agg v.cells]),[qL 4 p'.length])
  | .trap a=>(.ret (.tuple [.agg (RC hd (yI f g O R) { s with pc:=hd.handler } false p (.own 0)),.agg [.int .i64 2,.int .i64 s.pc,.int .i64 a,.int .i64 12]]),[qL 4 p.length])):=by
 obtain⟨n1,n2,n3,n4,n5⟩:=JW f g O R hz
 refine(Wx ..).trans ?_
 unfold onR
 rw [if_neg hb]
 have tr:qA s.pc 2=some (s.pc%2):=pE hpc (by decide)
 have Zx:=fun a l=>Zx (hd:=hd) (sr:=yI f g O R) (s:=s) (dn:=false) (p:=p) a l
 have fl:(yI f g O R).flash=f:=rfl
 have h2:s.pc%2=0:=by omega
 have h3:¬(f.length:Int)≤s.pc:=by omega
 have w4:IntKind.i64.wrap (s.pc+4)=s.pc+4:=lP _ (by omega) (by omega)
 have sl:nT (.str f) (some (.int .i64 s.pc)) (some (.int .i64 (min (s.pc+4) (f.length:Int))))=some (.str ((f.drop s.pc.toNat).take 4)):=by
  simp only [nT,pU]
  rw [if_pos hpc,if_pos (by omega)]
  simp only
  rw [if_pos ⟨by omega,by omega⟩]
  congr 2
  by_cases h4:f.length<s.pc.toNat+4
  ·rw [List.take_of_length_le (by simp;omega),List.take_of_length_le (by simp;omega)]
  ·congr 1;omega
 have Yk:=fun h=>Yk ((f.drop s.pc.toNat).take 4) h
 rw [as9] at Yk
 have hdok:=V4 (f.drop s.pc.toNat)
 generalize mY (f.drop s.pc.toNat)=d at *
 obtain⟨j,sz,er⟩:=d
 dsimp only at Yk hdok ⊢
 by_cases he:er=0
 ·subst he
  rw [if_neg (by simp)]
  have hk:=hdok rfl
  have Zy:=fun h=>Zy s j hk h
  have k50:=fun h=>k50 s j hk h
  have k51:=fun l h=>k51 s j l hk h
  have ab:=Hr (s:=s) (i:=j)
  have a0:=agK (s:=s) (i:=j)
  generalize rY s j=ac at *
  obtain⟨a,is⟩:=ac
  obtain⟨ad,asz,av,aw⟩:=a
  dsimp only at Zy ab a0 ⊢
  generalize EJ s j=cy at *
  cases is with
  | false =>
   rw [if_neg (by simp)]
   obtain rfl:=a0 rfl
   have k51':=fun h=>k51 0 h
   generalize rB s j 0=q at *
   obtain⟨s2,on⟩:=q
   dsimp only at k51' ⊢
   simp -implicitDefEqProofs [m30,k42,c43,tr,h2,h3,fl,w4,sl,Yk,Zy,k50,k51',bsp,VV,shS,shI,F1,q_,rL,sB,rK,A3,Db,Ol,sG,tG,vQ,tF,rD,nD,qQ,CA,-kU,lU,lV]
  | true =>
   rw [if_pos rfl]
   have an:=ab.2.2 rfl
   unfold Ov
   cases aw with
   | true =>
    have k48:∀h,KK 48 [.agg [.int .i64 (yI f g O R).sizes.inn,.int .i64 (yI f g O R).sizes.outt,.int .i64 (yI f g O R).sizes.rail,.str (yI f g O R).flash,.str (yI f g O R).input],.slice (Rw pF.cells [⟨1,ad,asz,av⟩]) .no] h=some (.ret (.slice (Rw AR.cells [⟨0,(Tw (C9 true ad asz (pZ (nO g.length O R) f.length))).2⟩]) .no),h):=fun h=>by
     rw [Pg,azS f g O R hz ⟨1,ad,asz,av⟩ rfl ab.1 ab.2.1 an];rfl
    have bs:∀h,lE 1 4 [(.int .i64 0),(.int .i64 0),(.int .i64 0),(.int .i64 0)] [(0,(.agg [.int .i64 1,.int .i64 ad,.int .i64 asz,.int .i64 av]))] h=some (.slice (Rw pF.cells [⟨1,ad,asz,av⟩]) (.own h.length),h++[qL 4 1]):=fun h=>rfl
    have ap:=fun h T hh=>VL (enc:=pF.cells) (fun x=>rfl) 0 p (by omega) ⟨1,ad,asz,av⟩ h T hh
    have ti:∀e,sF [(⟨0,e⟩:AR)] 0=some ⟨0,e⟩:=fun e=>rfl
    rw [if_pos rfl]
    dsimp only
    cases hf:C9 true ad asz (pZ (nO g.length O R) f.length) with
    | none =>
     rw [hf] at k48
     simp only [Tw,fl] at k48
     simp -implicitDefEqProofs [m30,k42,c43,tr,h2,h3,fl,w4,sl,Yk,Zy,k48,bs,ti,Zx,bsp,VV,shS,shI,F1,q_,rL,sB,rK,x7,A3,Db,Ol,Gt,sG,tG,vQ,tF,rD,nD,qQ,CA,-kU,lU,lV]
    | some y =>
     rw [hf] at k48
     simp only [Tw,fl] at k48
     have k51':=fun h=>k51 0 h
     dsimp only
     generalize rB s j 0=q at *
     obtain⟨s2,on⟩:=q
     simp -implicitDefEqProofs [m30,k42,c43,tr,h2,h3,fl,w4,sl,Yk,Zy,k48,bs,ti,ap,k50,k51',bsp,VV,shS,shI,F1,q_,rL,sB,rK,x7,A3,Db,Ol,Gt,sG,tG,vQ,tF,rD,nD,qQ,CA,-kU,lU,lV]
   | false =>
    have k49:∀h,KK 49 [.agg [.int .i64 (yI f g O R).sizes.inn,.int .i64 (yI f g O R).sizes.outt,.int .i64 (yI f g O R).sizes.rail,.str (yI f g O R).flash,.str (yI f g O R).input],.slice (Rw pF.cells p) .no,.int .i64 ad,.int .i64 asz] h=some (.ret (match C9 false ad asz (pZ (nO g.length O R) f.length) with | some _=>.tuple [.int .i64 (O7 (Cf f g p) ad asz),.int .i64 0] | none=>.tuple [.int .i64 0,.int .i64 8]),h):=fun h=>by
     rw [Ph,azT f g O R hz p hl hg ab.1 ab.2.1 an]
     cases C9 false ad asz (pZ (nO g.length O R) f.length) <;> rfl
    rw [if_neg (by simp)]
    dsimp only
    cases hf:C9 false ad asz (pZ (nO g.length O R) f.length) with
    | none =>
     rw [hf] at k49
     simp only [fl] at k49
     simp -implicitDefEqProofs [m30,k42,c43,tr,h2,h3,fl,w4,sl,Yk,Zy,k49,Zx,bsp,VV,shS,shI,F1,q_,rL,sB,rK,x7,A3,Db,Ol,Gt,sG,tG,vQ,tF,rD,nD,qQ,CA,-kU,lU,lV]
    | some y =>
     rw [hf] at k49
     simp only [fl] at k49
     dsimp only
     generalize O7 (Cf f g p) ad asz=w at *
     have k51':=fun h=>k51 w h
     generalize rB s j w=q at *
     obtain⟨s2,on⟩:=q
     simp -implicitDefEqProofs [m30,k42,c43,tr,h2,h3,fl,w4,sl,Yk,Zy,k49,k50,k51',bsp,VV,shS,shI,F1,q_,rL,sB,rK,x7,A3,Db,Ol,Gt,sG,tG,vQ,tF,rD,nD,qQ,CA,-kU,lU,lV]
 ·rw [if_pos he]
  simp -implicitDefEqProofs [m30,k42,c43,tr,h2,h3,fl,w4,sl,Yk,he,Zx,rL,sB,rK,A3,Db,sG,tG,vQ,tF,rD,nD,CA,-kU,lU,lV]
end
end
noncomputable section
open Go Hk
@[simp ↓ 2000] theorem asR {i o:Nat}{h:kO}:lR 1 h (.ptr i o)=some (.ptr h.length 0,h++[.cells [.ptr i o]]):=(rfl)
theorem k38 (h:kO):KK 38 [.agg [.int .i64 0,.int .i64 0,.int .i64 0,.int .i64 0]] h=some (.ret (.int .i64 0),h):=by
 have:=r38 ⟨0,0,0,0⟩ h
 rw [this]
 have e:t38 ⟨0,0,0,0⟩=some 0:=rfl
 rw [e];rfl
section
variable {hd:Hd}{f:List UInt8}{s:St}{kn:Nat→Bool}{L I O R:Nat}(hL:L≤262144) (hI:I≤65536) (hO:O≤65536) (hR:R≤65536) {M:List UInt8}(hM:M.length=mB L I O R) (hp:0≤s.pc) (hf:f.length<1000000)
include hL hI hO hR hM hp hf
theorem c41 {dn:Bool}:KK 41 [.ptr 0 0,.bool false] (MH hd f s dn kn (f.length/2+1) (pZ (nO I O R) L) L I O R M++B4)=some (match onS L I O R f s M with
  | .go v s' dn' M'=>(.ret (.agg v.cells),MH hd f s' dn' (Yl f s kn) (f.length/2+1) (pZ (nO I O R) L) L I O R M'++B4)
  | .trap a=>(.pan (.iface 103 (.agg [.int .i64 a])),MH hd f s dn (Yl f s kn) (f.length/2+1) (pZ (nO I O R) L) L I O R M++B4)):=by
 by_cases hb:s.pc%2≠0∨(f.length:Int)≤s.pc
 ·rw [Zd hb]
  unfold onS Yl
  rw [if_pos hb,if_pos hb]
 ·have:=ahY (hd:=hd) (f:=f) (s:=s) (dn:=dn) (kn:=kn) (n:=f.length/2+1) hL hI hO hR hM (i:=(s.pc/2).toNat) (by omega) (by omega) (by omega) hf
  rw [this]
  have e:Yl f s kn=fun k=>if k=(s.pc/2).toNat then true else kn k:=by unfold Yl;rw [if_neg hb]
  rw [e]
  all_goals (cases onS L I O R f s M <;> rfl)
def qD (handler:Int) (L I O R:Nat) (f:List UInt8) (s:St) (M:List UInt8):Ev×St×Bool×List UInt8:=match onS L I O R f s M with
 | .go v s' dn' M'=>(v,s',dn',M')
 | .trap a=>(⟨2,s.pc,a,12⟩,{ s with pc:=handler },false,M)
theorem ahJ:C8 Tryz.prog mJ nP (Ag Tryz.prog mJ) 28 [.ptr 0 0,.agg [.int .i64 0,.int .i64 0,.int .i64 0,.int .i64 0]] (AT 0 hd f s false kn (f.length/2+1) (pZ (nO I O R) L) L I O R M) =
  some (.ret (.tuple [.agg (qD hd.handler L I O R f s M).1.cells,.bool true]),AT 0 hd f (qD hd.handler L I O R f s M).2.1 (qD hd.handler L I O R f s M).2.2.1 (Yl f s kn) (f.length/2+1) (pZ (nO I O R) L) L I O R (qD hd.handler L I O R f s M).2.2.2):=by
 refine(ajU ..).trans ?_
 have k41:=c41 (hd:=hd) (kn:=kn) hL hI hO hR hM hp hf (dn:=false)
 have k37:=fun l=>afP (v:=.bool false) (ar:=[]) (fn:=37) rfl rfl rfl (fun p=>rfl) (fun F=>rfl) (fun p=>rfl) (fun F=>rfl) (ahL (hd:=hd) (f:=f) (s:=s) (dn:=false) (kn:=kn) (n:=f.length/2+1) (rl:=pZ (nO I O R) L) (L:=L) (I:=I) (O:=O) (R:=R) (M:=M)) l
 have k39:=fun l=>afP (v:=.tuple []) (ar:=[.agg [.int .i64 0,.int .i64 0,.int .i64 0,.int .i64 0]]) (fn:=39) rfl rfl rfl (fun p=>rfl) (fun F=>rfl) (fun p=>rfl) (fun F=>rfl) (ahM (hd:=hd) (f:=f) (s:=s) (dn:=false) (kn:=kn) (n:=f.length/2+1) (rl:=pZ (nO I O R) L) (L:=L) (I:=I) (O:=O) (R:=R) (M:=M)) l
 rw [PL]
 simp only [PL] at k37 k39
 have sv:=fun tt m (hm:4<m) h=>sK (id:=4) (tot:=tt) (m:=m) (h:=h) hm (l:=oY L I O R)
 unfold qD
 generalize Yl f s kn=kn' at *
 generalize f.length/2+1=n at *
 generalize pZ (nO I O R) L=rl at *
 cases ho:onS L I O R f s M with
 | go v s' dn' M' =>
  rw [ho] at k41
  dsimp only at k41 ⊢
  simp only [PL]
  unfold MH B4 at *
  generalize mB L I O R=tt at *
  simp only [aq6,ar0,Ev.lX] at k41 k37 k39
  simp -implicitDefEqProofs [m28,k37,k38,k39,k41,aaZ,WE,np0,rL,sB,rK,oO,oP,mG,sv,lT,nJ,Gu]
 | trap a =>
  rw [ho] at k41
  dsimp only at k41 ⊢
  simp only [PL]
  unfold MH B4 at *
  generalize mB L I O R=tt at *
  simp only [aq6,ar0] at k41 k37 k39
  simp -implicitDefEqProofs [m28,k37,k38,k39,k41,aaZ,WE,np0,ar5,rL,sB,rK,oO,oP,mG,sv,lT,nJ,Gu,-kU,lU,lV]
end
end
noncomputable section
open Go Hk
theorem Eb (s:St) (i:lL) (l:Int):0≤(rB s i l).1.pc:=by
 unfold rB
 split
 ·exact(tW s.pc).1
 ·exact(tW _).1
theorem al6 {L I O R:Nat}{w:Bool}{a n:Int}(hn:n=1∨n=4) {p:Nat}(hp:Kt L I O R w a n=some p):p+n.toNat≤mB L I O R:=by
 unfold Kt at hp
 cases hf:C9 w a n (pZ (nO I O R) L) with
 | none=>rw [hf] at hp;cases hp
 | some j =>
  rw [hf] at hp
  simp only [aa9] at hp
  obtain⟨r,h1,h2,h3⟩:=Qc hf
  obtain⟨hj,off,len,h4,h5,h6⟩:=SQ L I O R h1
  have hh:=Nf h2
  rw [show(oY L I O R).getD j (0,0)=(off,len) from by rw [ad9,h4];rfl,show(pZ (nO I O R) L).getD j ⟨0,0,false⟩=r from by rw [ad9,h1];rfl] at hp
  dsimp only at hp
  omega
section
variable {handler:Int}{L I O R:Nat}{f:List UInt8}{s:St}{M:List UInt8}(hM:M.length=mB L I O R) (hh:0≤handler)
include hM in
theorem VA {a:Acc}(hn:a.size=1∨a.size=4) {r:Int×List UInt8}(h:Hq L I O R M a=some r):r.2.length=mB L I O R:=by
 unfold Hq at h
 split at h
 ·cases hp:Kt L I O R true a.addr a.size with
  | none=>rw [hp] at h;cases h
  | some p =>
   rw [hp] at h
   cases h
   have:=al6 hn hp
   rw [x_ (by rw [al4,C7];omega)];exact hM
 ·cases hp:Kt L I O R false a.addr a.size with
  | none=>rw [hp] at h;cases h
  | some p=>rw [hp] at h;cases h;exact hM
include hM hh
theorem SZ:0≤(qD handler L I O R f s M).2.1.pc∧(qD handler L I O R f s M).2.2.2.length=mB L I O R:=by
 unfold qD onS
 by_cases h1:s.pc%2≠0∨(f.length:Int)≤s.pc
 ·rw [if_pos h1];exact⟨hh,hM⟩
 rw [if_neg h1]
 by_cases h2:(mY (f.drop s.pc.toNat)).2.2≠0
 ·rw [if_pos h2];exact⟨hh,hM⟩
 rw [if_neg h2]
 by_cases h3:(rY s (mY (f.drop s.pc.toNat)).1).2=true
 ·rw [if_pos h3]
  cases ha:Hq L I O R M (rY s (mY (f.drop s.pc.toNat)).1).1 with
  | none=>exact⟨hh,hM⟩
  | some r=>exact⟨Eb _ _ _,VA hM (Hr.2.2 h3) ha⟩
 ·rw [if_neg h3];exact⟨Eb _ _ _,hM⟩
end
def Oh (handler:Int) (L I O R:Nat) (f:List UInt8):Nat→St→Bool→List UInt8→List Ev
 | 0,_,_,_=>[]
 | n+1,s,dn,M=>if dn=true then [] else(qD handler L I O R f s M).1::Oh handler L I O R f n (qD handler L I O R f s M).2.1 (qD handler L I O R f s M).2.2.1 (qD handler L I O R f s M).2.2.2
def YA (l:List Ev) (k cy hh:Int):kO:=[.cells [.slice (Rw Ev.cells l) (.own 7)],qL 4 l.length,.cells [.int .i64 0,.int .i64 0,.int .i64 0,.int .i64 0],.cells [.bool false,.int .i64 0,.int .i64 0,.int .i64 0,.int .i64 0,.int .i64 0,.str [],.str [],.str []],.cells [.bool false,.int .i64 k,.int .i64 cy,.int .i64 hh,.int .i64 0,.int .i64 0,.str [],.str [],.str []]]
theorem c21 {h0 h1 h2 h3 h4 h5 h8 h9 h10 h11 h12:lN}(st:∀(l:List Ev) h,sJ 13 h [h0,h1,h2,h3,h4,h5,.cells [.slice (Rw Ev.cells l) (.own 7)],qL 4 l.length,h8,h9,h10,h11,h12]=some [h0,h1,h2,h3,h4,h5,.cells [.slice (Rw Ev.cells l) (.own 7)],qL 4 l.length,h8,h9,h10,h11,h12]) (l:List Ev) (hl:l.length<2000000) (v:Ev) :
  KK 21 [.agg v.cells,.ptr 6 0] [h0,h1,h2,h3,h4,h5,.cells [.slice (Rw Ev.cells l) (.own 7)],qL 4 l.length,h8,h9,h10,h11,h12] =
   some (.ret (.tuple []),[h0,h1,h2,h3,h4,h5,.cells [.slice (Rw Ev.cells (l++[v])) (.own 7)],qL 4 (l++[v]).length,h8,h9,h10,h11,h12]):=by
 refine Dm rfl rfl (ajO ..) ?_
 have st1:=st (l++[v])
 simp only [List.length_append,List.length_singleton] at st1
 have bs:∀h,lE 1 4 [(.int .i64 0),(.int .i64 0),(.int .i64 0),(.int .i64 0)] [(0,(.agg [.int .i64 v.kind,.int .i64 v.pc,.int .i64 v.addr,.int .i64 v.cycles]))] h=some (.slice (Rw Ev.cells [v]) (.own h.length),h++[qL 4 1]):=fun h=>rfl
 have ap:∀(h:kO) T,h[7]?=some (qL 4 l.length)→rS 4 32 h (.slice (Rw Ev.cells l) (.own 7)) (.slice (Rw Ev.cells [v]) T)=some (.slice (Rw Ev.cells (l++[v])) (.own 7),h.set 7 (qL 4 (l++[v]).length)):=by
  intro h T hh
  have e:tH 4 h (.slice (Rw Ev.cells [v]) T)=some (Rw Ev.cells [v]):=rfl
  unfold rS
  rw [e]
  simp only [hh,qL]
  have e2:(Rw Ev.cells l).length=l.length:=by simp [Rw]
  rw [e2,if_pos (by refine⟨rfl,?_,?_,?_⟩ <;> first | (split <;> simp_all) | (simp [Rw];omega))]
  simp [Rw]
 simp -implicitDefEqProofs [m21,bs,ap,st1,-vM]
theorem Io {m:Nat}{h:kO}(hm:6<m):kN.vS m h (.func 21 [] [.ptr 6 0])=.func 21 [] [.ptr 6 0]:=by simp [kN.vS,kN.oW,kN.rI,kN.sC,tS,hm]
@[simp] theorem as1 {g:Nat}{a c:List kN}:uO (.func g a c)=some (g,a,c):=(rfl)
theorem Tt {g:Nat}{a:List kN}{h:kO}{K:kT}:wR mJ K g a h=K g a h:=(rfl)
theorem Kf {a:List kN}:tY mJ 21 a=a.map kN.kP:=(rfl)
def YB (b:Int):List kN:=[.ptr 1 0,.int .i64 b,.func 21 [] [.ptr 6 0],.ptr 8 0,.ptr 9 0,.ptr 10 0]
section
variable {hd:Hd}{f:List UInt8}{s:St}{kn:Nat→Bool}{L I O R:Nat}(hL:L≤262144) (hI:I≤65536) (hO:O≤65536) (hR:R≤65536) {M:List UInt8}(hM:M.length=mB L I O R) (hp:0≤s.pc) (hf:f.length<1000000) (l:List Ev) (hl:l.length<2000000) (b:Nat) (cy hh:Int)
theorem aeG {dn:Bool}(he:dn=true∨l.length=b):Bl KK 11 (YB b,.front 0 0::(AT 1 hd f s dn kn (f.length/2+1) (pZ (nO I O R) L) L I O R M++YA l l.length cy hh)) =
  some (.exit 0,YB b,.front 0 0::(AT 1 hd f s dn kn (f.length/2+1) (pZ (nO I O R) L) L I O R M++YA l l.length cy hh)):=by
 have sv:=fun tt m (hm:5<m) h=>sK (id:=5) (tot:=tt) (m:=m) (h:=h) hm (l:=oY L I O R)
 unfold AT YA YB
 generalize f.length/2+1=n at *
 generalize pZ (nO I O R) L=rl at *
 generalize mB L I O R=tt at *
 rcases he with rfl | he
 ·simp -implicitDefEqProofs [Bl,rL,sB,rK,oO,oP,mG,sv,lT,nJ,Gu,Io]
 ·subst he
  cases dn <;> simp -implicitDefEqProofs [Bl,rL,sB,rK,oO,oP,mG,sv,lT,nJ,Gu,Io]
include hL hI hO hR hM hp hf hl
theorem oA (hb:l.length<b):∃cy' hh',Bl KK 11 (YB b,.front 0 0::(AT 1 hd f s false kn (f.length/2+1) (pZ (nO I O R) L) L I O R M++YA l l.length cy hh)) =
  some (.normal,YB b,.front 0 0::(AT 1 hd f (qD hd.handler L I O R f s M).2.1 (qD hd.handler L I O R f s M).2.2.1 (Yl f s kn) (f.length/2+1) (pZ (nO I O R) L) L I O R (qD hd.handler L I O R f s M).2.2.2++YA (l++[(qD hd.handler L I O R f s M).1]) (l++[(qD hd.handler L I O R f s M).1]).length cy' hh')):=by
 have k28:=fun F l=>ay3 (ar:=[.agg [.int .i64 0,.int .i64 0,.int .i64 0,.int .i64 0]]) (fn:=28) rfl rfl rfl (fun p=>rfl) (fun F=>rfl) (fun p=>rfl) (fun F=>rfl) (ahJ (hd:=hd) (f:=f) (s:=s) (kn:=kn) hL hI hO hR hM hp hf) F l
 have sv:=fun tt m (hm:5<m) h=>sK (id:=5) (tot:=tt) (m:=m) (h:=h) hm (l:=oY L I O R)
 generalize qD hd.handler L I O R f s M=q at *
 obtain⟨v,s',dn',M'⟩:=q
 dsimp only at k28 ⊢
 generalize Yl f s kn=kn' at *
 generalize f.length/2+1=n at *
 generalize pZ (nO I O R) L=rl at *
 refine⟨IntKind.i64.wrap (cy+v.cycles),if s.pc=hd.handler then IntKind.i64.wrap (hh+1) else hh,?_⟩
 have k21:=fun h8 h9 h10 h11 h12=>c21 (h0:=.front 0 0) (h1:=.cells (MC hd f (.ptr 2 0) s' dn' (.vslice 3 n 0 n 11))) (h2:=.cells [.slice (Rw mZ.cells rl) .no,.vslice 4 7 0 7 1]) (h3:=.vec n 11 (Ba f kn' n)) (h4:=.vec 7 1 (vP 5 (mB L I O R) (oY L I O R))) (h5:=.vec (mB L I O R) 1 (M'.map bC)) (h8:=h8) (h9:=h9) (h10:=h10) (h11:=h11) (h12:=h12)
 have wl:IntKind.i64.wrap ((l.length:Int)+1)=(l.length:Int)+1:=lP _ (by omega) (by omega)
 have hb':(l.length:Int)<(b:Int):=by omega
 unfold AT at k28
 unfold AT YA YB
 generalize mB L I O R=tt at *
 simp only [aq6,ar0,Ev.lX] at k28
 have st:∀h8 h9 h10 h11 h12,(∀h,pW 13 h h8=some h8)→(∀h,pW 13 h h9=some h9)→(∀h,pW 13 h h10=some h10)→(∀h,pW 13 h h11=some h11)→(∀h,pW 13 h h12=some h12)→∀(l:List Ev) h,sJ 13 h [.front 0 0,.cells (MC hd f (.ptr 2 0) s' dn' (.vslice 3 n 0 n 11)),.cells [.slice (Rw mZ.cells rl) .no,.vslice 4 7 0 7 1],.vec n 11 (Ba f kn' n),.vec 7 1 (vP 5 tt (oY L I O R)),.vec tt 1 (M'.map bC),.cells [.slice (Rw Ev.cells l) (.own 7)],qL 4 l.length,h8,h9,h10,h11,h12]=some [.front 0 0,.cells (MC hd f (.ptr 2 0) s' dn' (.vslice 3 n 0 n 11)),.cells [.slice (Rw mZ.cells rl) .no,.vslice 4 7 0 7 1],.vec n 11 (Ba f kn' n),.vec 7 1 (vP 5 tt (oY L I O R)),.vec tt 1 (M'.map bC),.cells [.slice (Rw Ev.cells l) (.own 7)],qL 4 l.length,h8,h9,h10,h11,h12]:=by
  intro h8 h9 h10 h11 h12 a8 a9 a10 a11 a12 l h
  simp -implicitDefEqProofs [a8,a9,a10,a11,a12,oO,oP,mG,sv,lT,nJ,Gu]
 have k21':=fun h8 h9 h10 h11 h12 a8 a9 a10 a11 a12=>k21 h8 h9 h10 h11 h12 (st h8 h9 h10 h11 h12 a8 a9 a10 a11 a12) l hl v
 simp only [Ev.lX] at k21'
 by_cases h0:(0:Int)=(l.length:Int)
 ·by_cases hq:s.pc=hd.handler <;> simp -implicitDefEqProofs [Bl,hb',hq,eq_true h0,k28,k21',wl,Tt,Kf,rL,sB,rK,oO,oP,mG,sv,lT,nJ,Gu,Io]
 ·by_cases hq:s.pc=hd.handler <;> simp -implicitDefEqProofs [Bl,hb',hq,eq_false h0,k28,k21',wl,Tt,Kf,rL,sB,rK,oO,oP,mG,sv,lT,nJ,Gu,Io]
end
end
noncomputable section
open Go Hk
def Va (handler:Int) (f g:List UInt8) (O R:Nat):Nat→St→Bool→List pF→List Ev
 | 0,_,_,_=>[]
 | n+1,s,dn,p=>if dn=true then [] else(pK handler f g O R s p).1::Va handler f g O R n (pK handler f g O R s p).2.1 (pK handler f g O R s p).2.2.1 (pK handler f g O R s p).2.2.2
def RZ (j:Nat):List kN:=RC ⟨0,0,⟨0,0,0⟩,0⟩ ⟨⟨0,0,0⟩,[],[]⟩ Ve false [] (.own j)
def YC (b:Int) (l:List Ev) (hh:Int):List kN:=[.int .i64 b,.ptr 1 0,.ptr 2 0,.ptr 3 0,.slice [] (.own 5),.int .i64 0,.slice (Rw Ev.cells l) (.own 6),.int .i64 hh]
def Yu (hd:Hd) (sr:tX) (s:St) (dn:Bool) (p:List pF) (l:List Ev):kO:=[qL 4 p.length,.cells (RC hd sr s dn p (.own 0)),.cells [.int .i64 0,.int .i64 0,.int .i64 0,.int .i64 0],.cells (RZ 4),.front 0 0,.front 0 0,qL 4 l.length]
section
variable {hd:Hd}{f g:List UInt8}{O R:Nat}(hz:Ew (nO g.length O R) (f.length:Int)=0) {s:St}(hpc:0≤s.pc) {p:List pF}(hl:p.length<1000000) (hg:∀x∈p,Ah f g O R x)
include hz hpc hl hg
theorem ahK:C8 Tryz.prog mJ nP (Ag Tryz.prog mJ) 30 [.agg (RC hd (yI f g O R) s false p (.own 0)),.agg [.int .i64 0,.int .i64 0,.int .i64 0,.int .i64 0]] [qL 4 p.length] =
  some (.ret (.tuple [.agg (RC hd (yI f g O R) (pK hd.handler f g O R s p).2.1 (pK hd.handler f g O R s p).2.2.1 (pK hd.handler f g O R s p).2.2.2 (.own 0)),.agg (pK hd.handler f g O R s p).1.cells]),[qL 4 (pK hd.handler f g O R s p).2.2.2.length]):=by
 unfold pK
 by_cases hb:s.pc%2≠0∨(f.length:Int)≤s.pc
 ·rw [YX hz hpc hl hb]
  unfold onR
  rw [if_pos hb];rfl
 ·rw [ag4 (dn:=false) hz hpc hl hb hg]
  cases onR f g O R s p <;> rfl
theorem k30 (h:kO):KK 30 [.agg (RC hd (yI f g O R) s false p (.own 0)),.agg [.int .i64 0,.int .i64 0,.int .i64 0,.int .i64 0]] (qL 4 p.length::h) =
  some (.ret (.tuple [.agg (RC hd (yI f g O R) (pK hd.handler f g O R s p).2.1 (pK hd.handler f g O R s p).2.2.1 (pK hd.handler f g O R s p).2.2.2 (.own 0)),.agg (pK hd.handler f g O R s p).1.cells]),qL 4 (pK hd.handler f g O R s p).2.2.2.length::h) :=
 ay4 rfl rfl rfl (fun p=>rfl) (fun F=>rfl) (ahK hz hpc hl hg) h
theorem Cg (l:List Ev) (b:Nat) (hh:Int) (hb:l.length<b) (hb2:b<2000000):∃hh',Bm KK 7 (YC b l hh,Yu hd (yI f g O R) s false p l) =
  some (.normal,YC b (l++[(pK hd.handler f g O R s p).1]) hh',Yu hd (yI f g O R) (pK hd.handler f g O R s p).2.1 (pK hd.handler f g O R s p).2.2.1 (pK hd.handler f g O R s p).2.2.2 (l++[(pK hd.handler f g O R s p).1])):=by
 have k30:=fun h=>k30 (hd:=hd) hz hpc hl hg h
 generalize pK hd.handler f g O R s p=q at *
 obtain⟨v,s',dn',p'⟩:=q
 dsimp only at k30 ⊢
 generalize yI f g O R=sr at *
 refine⟨if s.pc=hd.handler then IntKind.i64.wrap (hh+1) else hh,?_⟩
 have hb':(l.length:Int)<(b:Int):=by omega
 have bs:∀h,lE 1 4 [(.int .i64 0),(.int .i64 0),(.int .i64 0),(.int .i64 0)] [(0,(.agg [.int .i64 v.kind,.int .i64 v.pc,.int .i64 v.addr,.int .i64 v.cycles]))] h=some (.slice (Rw Ev.cells [v]) (.own h.length),h++[qL 4 1]):=fun h=>rfl
 have ap:=fun h T hh=>VL (enc:=Ev.cells) (fun x=>rfl) 6 l (by omega) v h T hh
 unfold YC Yu RZ
 simp only [Ev.lX] at k30
 by_cases h0:(0:Int)=(l.length:Int)
 ·by_cases hq:s.pc=hd.handler <;> simp -implicitDefEqProofs [Bm,hb',hq,eq_true h0,k30,bs,ap,rL,sB,rK,x7,sG,tG,vQ,tF,rD,-kU,lU,lV]
 ·by_cases hq:s.pc=hd.handler <;> simp -implicitDefEqProofs [Bm,hb',hq,eq_false h0,k30,bs,ap,rL,sB,rK,x7,sG,tG,vQ,tF,rD,-kU,lU,lV]
end
theorem aeH {hd:Hd}{sr:tX}{s:St}{dn:Bool}{p:List pF}(l:List Ev) (b:Nat) (hh:Int) (he:dn=true∨l.length=b):Bm KK 7 (YC b l hh,Yu hd sr s dn p l)=some (.exit 0,YC b l hh,Yu hd sr s dn p l):=by
 unfold YC Yu RZ
 by_cases h:(l.length:Int)<(b:Int)
 ·have:dn=true:=by rcases he with h1 | h1;exact h1;omega
  subst this
  simp -implicitDefEqProofs [Bm,h,tG,vQ,tF,rD]
 ·simp -implicitDefEqProofs [Bm,h,tG,vQ,tF,rD]
end
section
open Go Hk
theorem c19 (f g:List UInt8) (hf:f.length≤9223372036854775807) (hd:Hd) (O R:Nat) (he:uH f=(hd,0)) (hq:hd.sizes=nO g.length O R) (hz:Ew (nO g.length O R) (f.length:Int)=0) (F:lN) :
  KK 19 [.str f,.str g] [F]=some (.ret (.tuple [.ptr 1 0,.int .i64 0]),F::AT 1 hd f (SY hd.reset) false (fun _=>false) (f.length/2+1) (pZ (nO g.length O R) f.length) f.length g.length O R (z8 f g O R)):=by
 have body:=ahP f g hf hd O R he hq hz
 rw [←PL] at body
 have ho:mJ.out 19=true:=rfl
 exact Lc (P:=Tryz.prog) (A:=mJ) (f:=19) (h:=[F]) (x:=some ()) (v:=fun _=>.tuple [.ptr 0 0,.int .i64 0]) (g:=fun _=>AT 0 hd f (SY hd.reset) false (fun _=>false) (f.length/2+1) (pZ (nO g.length O R) f.length) f.length g.length O R (z8 f g O R)) (v':=fun _=>.tuple [.ptr 1 0,.int .i64 0]) (g':=fun _=>AT 1 hd f (SY hd.reset) false (fun _=>false) (f.length/2+1) (pZ (nO g.length O R) f.length) f.length g.length O R (z8 f g O R)) rfl rfl (QA (Ag Tryz.prog mJ) (.str f) (.str g) []) body (fun _=>by rw [ho,ahH];rfl)
section
variable {hd:Hd}{f:List UInt8}{L I O R:Nat}(hL:L≤262144) (hI:I≤65536) (hO:O≤65536) (hR:R≤65536) (hf:f.length<1000000) (hh:0≤hd.handler) (b:Nat) (hb:b<2000000)
include hL hI hO hR hf hh hb
theorem ai9:∀(n:Nat) (l:List Ev) (s:St) (dn:Bool) (kn:Nat→Bool) (M:List UInt8) (cy hc:Int),M.length=mB L I O R→0≤s.pc→l.length+n=b →
  ∃s' dn' kn' M' cy' hc',nP (Bl KK 11) (YB b,.front 0 0::(AT 1 hd f s dn kn (f.length/2+1) (pZ (nO I O R) L) L I O R M++YA l l.length cy hc)) =
   some (.exit 0,YB b,.front 0 0::(AT 1 hd f s' dn' kn' (f.length/2+1) (pZ (nO I O R) L) L I O R M'++YA (l++Oh hd.handler L I O R f n s dn M) (l++Oh hd.handler L I O R f n s dn M).length cy' hc')):=by
 intro n
 induction n with
 | zero =>
  intro l s dn kn M cy hc hM hp hn
  refine⟨s,dn,kn,M,cy,hc,?_⟩
  rw [show Oh hd.handler L I O R f 0 s dn M=[] from rfl,List.append_nil]
  exact s7 (aeG l b cy hc (Or.inr (by omega)))
 | succ n ih =>
  intro l s dn kn M cy hc hM hp hn
  cases dn with
  | true =>
   refine⟨s,true,kn,M,cy,hc,?_⟩
   rw [show Oh hd.handler L I O R f (n+1) s true M=[] from rfl,List.append_nil]
   exact s7 (aeG l b cy hc (Or.inl rfl))
  | false =>
   obtain⟨cy1,hc1,e⟩:=oA (hd:=hd) (kn:=kn) hL hI hO hR hM hp hf l (by omega) b cy hc (by omega)
   obtain⟨k1,k2⟩:=SZ (f:=f) (s:=s) hM hh
   obtain⟨s',dn',kn',M',cy',hc',e2⟩:=ih (l++[(qD hd.handler L I O R f s M).1]) (qD hd.handler L I O R f s M).2.1 (qD hd.handler L I O R f s M).2.2.1 (Yl f s kn) (qD hd.handler L I O R f s M).2.2.2 cy1 hc1 k2 k1 (by simp;omega)
   refine⟨s',dn',kn',M',cy',hc',(nK e).trans ?_⟩
   rw [e2]
   have:Oh hd.handler L I O R f (n+1) s false M=(qD hd.handler L I O R f s M).1::Oh hd.handler L I O R f n (qD hd.handler L I O R f s M).2.1 (qD hd.handler L I O R f s M).2.2.1 (qD hd.handler L I O R f s M).2.2.2:=rfl
   rw [this,List.append_assoc];rfl
theorem c20 (s:St) (M:List UInt8) (hM:M.length=mB L I O R) (hp:0≤s.pc):∃r s' dn' kn' M',KK 20 [.ptr 1 0,.agg [.int .i64 0,.int .i64 0,.int .i64 0,.int .i64 0],.int .i64 (b:Int),.func 21 [] [.ptr 6 0]] (.front 0 0::(AT 1 hd f s false (fun _=>false) (f.length/2+1) (pZ (nO I O R) L) L I O R M++[.cells [.slice [] (.own 7)],.front 0 0])) =
  some (.ret r,.front 0 0::(AT 1 hd f s' dn' kn' (f.length/2+1) (pZ (nO I O R) L) L I O R M'++[.cells [.slice (Rw Ev.cells (Oh hd.handler L I O R f b s false M)) (.own 7)],qL 4 (Oh hd.handler L I O R f b s false M).length])):=by
 obtain⟨s',dn',kn',M',cy',hc',e⟩:=ai9 hL hI hO hR hf hh b hb b [] s false (fun _=>false) M 0 0 hM hp (by simp)
 refine⟨.agg [.bool dn',.int .i64 ((Oh hd.handler L I O R f b s false M).length:Int),.int .i64 cy',.int .i64 hc',.int .i64 0,.int .i64 0,.str [],.str [],.str []],s',dn',kn',M',?_⟩
 refine Dm rfl rfl (ajN ..) ?_
 rw [ar0] at e
 generalize Oh hd.handler L I O R f b s false M=ev at *
 have sv:=fun tt m (hm:5<m) h=>sK (id:=5) (tot:=tt) (m:=m) (h:=h) hm (l:=oY L I O R)
 unfold AT at e ⊢
 unfold YA YB at e
 generalize f.length/2+1=n at *
 generalize pZ (nO I O R) L=rl at *
 generalize mB L I O R=tt at *
 have rw0:Rw Ev.cells []=[]:=rfl
 simp only [aq6,ar0,rw0,List.length_nil,Oi,Int.natCast_zero,show((0:Nat):Int)=0 from rfl] at e ⊢
 simp -implicitDefEqProofs [m20,e,rL,sB,rK,oO,oP,mG,sv,lT,nJ,Gu,Io]
end
end
noncomputable section
open Go Hk
@[simp] theorem aAb {g:Nat}{a c:List kN}:kN.kP (.func g a c)=.func g a c:=(rfl)
theorem MN {f:List UInt8}(h:(uH f).2=0):uH f=(rH f,0)∧Ew (rH f).sizes (f.length:Int)=0∧f.length≤262144∧64≤(rH f).reset∧64≤(rH f).handler:=by
 unfold uH at h ⊢
 split at h
 ·cases h
 ·rename_i h64
  split at h
  ·rename_i ho
   have hz:Ew (rH f).sizes (f.length:Int)=0:=by have:=ho.1;unfold UG at this;simp only [ae7,decide_eq_true_eq] at this;exact this.1
   have hn:=Kz hz
   have:=ae6 (by omega) ho.1
   refine⟨?_,hz,by omega,this.1,by omega⟩
   rw [if_neg h64,if_pos ho]
  ·cases h
def tU (f g:List UInt8) (b:Int):List Ev×Int :=
 if (uH f).2≠0 then([],(uH f).2)
 else if (g.length:Int)≠(rH f).sizes.inn then([],2)
 else if b<0∨1048576<b then([],2)
 else(Oh (rH f).handler f.length g.length (rH f).sizes.outt.toNat (rH f).sizes.rail.toNat f b.toNat (SY (rH f).reset) false (z8 f g (rH f).sizes.outt.toNat (rH f).sizes.rail.toNat),0)
theorem O0 {f g:List UInt8}{O R:Nat}:(z8 f g O R).length=mB f.length g.length O R:=by
 unfold z8
 rw [x_,x_] <;> (try simp [mB]) <;> (try rw [x_]) <;> (try simp [mB]) <;> omega
theorem c11 (f g:List UInt8) (hf:f.length≤9223372036854775807) (b:Int) (h:kO):KK 11 [.str f,.str g,.int .i64 b] h=some (.ret (.tuple [.slice (Rw Ev.cells (tU f g b).1) .no,.int .i64 (tU f g b).2]),h):=by
 refine qC rfl rfl (ajF ..) ?_
 have rw0:Rw Ev.cells []=[]:=rfl
 unfold tU
 by_cases he:(uH f).2=0
 ·obtain⟨hp,hz,hl,hr,hh⟩:=MN he
  rw [if_neg (by simpa using he)]
  have hs:=Tz f
  by_cases hg:(g.length:Int)=(rH f).sizes.inn
  ·rw [if_neg (by simpa using hg)]
   have hq:(rH f).sizes=nO g.length (rH f).sizes.outt.toNat (rH f).sizes.rail.toNat:=by
    obtain⟨a0,a1,b0,b1,c0,c1⟩:=hs
    generalize (rH f).sizes=z at *
    obtain⟨i,o,r⟩:=z
    dsimp only at *
    unfold nO
    rw [hg]
    congr 1 <;> omega
   have hz2:=hz
   rw [hq] at hz2
   have k19:=c19 f g hf (rH f) _ _ hp hq hz2
   obtain⟨n1,n2,n3,n4,n5⟩:=JW f g _ _ hz2
   generalize (rH f).sizes.outt.toNat=O at *
   generalize (rH f).sizes.rail.toNat=R at *
   by_cases hb:b<0∨1048576<b
   ·rw [if_pos hb]
    unfold AT at k19
    generalize z8 f g O R=M at *
    generalize rH f=hd at *
    generalize f.length/2+1=n at *
    generalize pZ (nO g.length O R) f.length=rl at *
    by_cases hb1:b<0
    ·simp -implicitDefEqProofs [m11,k19,hb1,rw0]
    ·have hb2:1048576<b:=by omega
     simp -implicitDefEqProofs [m11,k19,hb1,hb2,rw0]
   ·rw [if_neg hb]
    obtain⟨r,s',dn',kn',M',k20⟩:=c20 (hd:=rH f) (f:=f) n1 n2 n3 n4 (by omega) (by omega) b.toNat (by omega) (SY (rH f).reset) (z8 f g O R) O0 (by show(0:Int)≤(rH f).reset;omega)
    rw [show((b.toNat:Nat):Int)=b from by omega] at k20
    unfold AT at k19 k20
    generalize Oh (rH f).handler f.length g.length O R f b.toNat (SY (rH f).reset) false (z8 f g O R)=ev at *
    generalize z8 f g O R=M at *
    generalize rH f=hd at *
    generalize f.length/2+1=n at *
    generalize pZ (nO g.length O R) f.length=rl at *
    have hb1:¬b<0:=by omega
    have hb2:¬1048576<b:=by omega
    simp only [aq6,ar0] at k20
    simp -implicitDefEqProofs [m11,k19,k20,hb1,hb2,rw0]
  ·rw [if_pos (by simpa using hg)]
   have k19:=VY f g hf he (by rw [hp];exact hs) (by rw [hp];exact hz) (by rw [hp];exact hg)
   simp -implicitDefEqProofs [m11,k19,rw0]
 ·rw [if_pos (by simpa using he)]
  have k19:=Zb f g hf (hd:=(uH f).1) (e:=(uH f).2) rfl he
  simp -implicitDefEqProofs [m11,k19,he,rw0]
end
section
open Go Hk
section
variable {hd:Hd}{f g:List UInt8}{O R:Nat}{s:St}{p:List pF}(hg:∀x∈p,Ah f g O R x)
include hg in
theorem Uk {a:Acc}(a0:0≤a.addr) (a1:a.addr<4294967296) (hn:a.size=1∨a.size=4) {r:Int×List pF}(h:Ov f g O R p a=some r):(∀x∈r.2,Ah f g O R x)∧r.2.length≤p.length+1:=by
 unfold Ov at h
 split at h
 ·cases hf:C9 true a.addr a.size (pZ (nO g.length O R) f.length) with
  | none=>rw [hf] at h;cases h
  | some k =>
   rw [hf] at h
   cases h
   refine⟨fun x hx=>?_,by simp⟩
   rcases List.mem_append.1 hx with h1 | h1
   ·exact hg x h1
   ·rw [List.mem_singleton.1 h1];exact⟨rfl,a0,a1,hn,k,hf⟩
 ·cases hf:C9 false a.addr a.size (pZ (nO g.length O R) f.length) with
  | none=>rw [hf] at h;cases h
  | some k=>rw [hf] at h;cases h;exact⟨hg,by simp⟩
include hg in
theorem S0 {handler:Int}(hh:0≤handler):0≤(pK handler f g O R s p).2.1.pc∧(∀x∈(pK handler f g O R s p).2.2.2,Ah f g O R x)∧(pK handler f g O R s p).2.2.2.length≤p.length+1:=by
 unfold pK onR
 by_cases h1:s.pc%2≠0∨(f.length:Int)≤s.pc
 ·rw [if_pos h1];exact⟨hh,hg,by simp⟩
 rw [if_neg h1]
 by_cases h2:(mY (f.drop s.pc.toNat)).2.2≠0
 ·rw [if_pos h2];exact⟨hh,hg,by simp⟩
 rw [if_neg h2]
 by_cases h3:(rY s (mY (f.drop s.pc.toNat)).1).2=true
 ·rw [if_pos h3]
  have ab:=Hr (s:=s) (i:=(mY (f.drop s.pc.toNat)).1)
  cases ha:Ov f g O R p (rY s (mY (f.drop s.pc.toNat)).1).1 with
  | none=>exact⟨hh,hg,by simp⟩
  | some r=>exact⟨Eb _ _ _,Uk hg ab.1 ab.2.1 (ab.2.2 h3) ha⟩
 ·rw [if_neg h3];exact⟨Eb _ _ _,hg,by simp⟩
end
section
variable {hd:Hd}{f g:List UInt8}{O R:Nat}(hz:Ew (nO g.length O R) (f.length:Int)=0) (hh:0≤hd.handler) (b:Nat) (hb:b<900000)
include hz hh hb
theorem ajA:∀(n:Nat) (l:List Ev) (s:St) (dn:Bool) (p:List pF) (hc:Int),0≤s.pc→(∀x∈p,Ah f g O R x)→p.length≤l.length→l.length+n=b →
  ∃s' dn' p' hc',nP (Bm KK 7) (YC b l hc,Yu hd (yI f g O R) s dn p l)=some (.exit 0,YC b (l++Va hd.handler f g O R n s dn p) hc',Yu hd (yI f g O R) s' dn' p' (l++Va hd.handler f g O R n s dn p)):=by
 intro n
 induction n with
 | zero =>
  intro l s dn p hc hp hg hpl hn
  refine⟨s,dn,p,hc,?_⟩
  rw [show Va hd.handler f g O R 0 s dn p=[] from rfl,List.append_nil]
  exact s7 (aeH l b hc (Or.inr (by omega)))
 | succ n ih =>
  intro l s dn p hc hp hg hpl hn
  cases dn with
  | true =>
   refine⟨s,true,p,hc,?_⟩
   rw [show Va hd.handler f g O R (n+1) s true p=[] from rfl,List.append_nil]
   exact s7 (aeH l b hc (Or.inl rfl))
  | false =>
   obtain⟨hc1,e⟩:=Cg (hd:=hd) hz hp (by omega) hg l b hc (by omega) (by omega)
   obtain⟨k1,k2,k3⟩:=S0 (s:=s) hg hh
   obtain⟨s',dn',p',hc',e2⟩:=ih (l++[(pK hd.handler f g O R s p).1]) (pK hd.handler f g O R s p).2.1 (pK hd.handler f g O R s p).2.2.1 (pK hd.handler f g O R s p).2.2.2 hc1 k1 k2 (by simp;omega) (by simp;omega)
   refine⟨s',dn',p',hc',(nK e).trans ?_⟩
   rw [e2]
   have:Va hd.handler f g O R (n+1) s false p=(pK hd.handler f g O R s p).1::Va hd.handler f g O R n (pK hd.handler f g O R s p).2.1 (pK hd.handler f g O R s p).2.2.1 (pK hd.handler f g O R s p).2.2.2:=rfl
   rw [this,List.append_assoc];rfl
theorem ahI (s:St) (hp:0≤s.pc):∃s' dn' p' hc',C8 Tryz.prog mJ nP (Ag Tryz.prog mJ) 23 [.agg (RC hd (yI f g O R) s false [] (.own 0)),.agg [.int .i64 0,.int .i64 0,.int .i64 0,.int .i64 0],.int .i64 (b:Int)] [.front 0 0] =
  some (.ret (.tuple [.agg (RC hd (yI f g O R) s' dn' p' (.own 0)),.slice (Rw Ev.cells (Va hd.handler f g O R b s false [])) .no,.int .i64 hc']),[qL 4 p'.length]):=by
 obtain⟨s',dn',p',hc',e⟩:=ajA (hd:=hd) hz hh b hb b [] s false [] 0 hp (by simp) (by simp) (by simp)
 refine⟨s',dn',p',hc',?_⟩
 refine(ajQ ..).trans ?_
 rw [ar0] at e
 generalize Va hd.handler f g O R b s false []=ev at *
 generalize yI f g O R=sr at *
 unfold YC Yu RZ at e
 have rw0:Rw Ev.cells []=[]:=rfl
 simp only [rw0,List.length_nil,Oi] at e
 simp -implicitDefEqProofs [m23,e,rL,sB,rK,x7,sG,tG,vQ,tF,rD,CA,-kU,lU,lV]
end
end
section
open Go Hk
theorem aa4 {hd:Hd}{sr:tX}{s:St}{dn:Bool}{p:List pF}{j:Nat}{e:Int}{q:Nat→Bool}:kN.ok q (.tuple [.agg (RC hd sr s dn p (.own j)),.int .i64 e])=(q j&&true):=by simp [RC,Sc]
theorem TS {hd:Hd}{sr:tX}{s:St}{dn:Bool}{p:List pF}{j:Nat}{e:Int}{F:Nat→Nat}:kN.pO F (.tuple [.agg (RC hd sr s dn p (.own j)),.int .i64 e])=.tuple [.agg (RC hd sr s dn p (.own (F j))),.int .i64 e]:=by simp [RC,Sc]
theorem Xq {hd:Hd}{sr:tX}{s:St}{dn:Bool}{p:List pF}{j:Nat}{e:Int}:kN.refs (.tuple [.agg (RC hd sr s dn p (.own j)),.int .i64 e])=[j]:=rfl
theorem aiG {hd:Hd}{sr:tX}{s:St}{dn:Bool}{p:List pF}{e:Int}{b0 b2:lN}:zY 0 (.tuple [.agg (RC hd sr s dn p (.own 1)),.int .i64 e]) [b0,.front 0 0,b2]=some (.ret (.tuple [.agg (RC hd sr s dn p (.own 0)),.int .i64 e]),[.front 0 0]):=by
 have oi:vJ 0 (.tuple [.agg (RC hd sr s dn p (.own 1)),.int .i64 e]) [b0,.front 0 0,b2]=[1]:=by
  unfold vJ reach
  rw [List.flatMap_cons,Xq];simp
 unfold zY
 rw [oi]
 simp [FO,D_,aa4,TS,-kN.ok,-kN.pO]
theorem aiH {hd:Hd}{sr:tX}{s:St}{dn:Bool}{p:List pF}{e:Int}{b0 b1 b2 b3:lN}:zY 0 (.tuple [.agg (RC hd sr s dn p (.own 4)),.int .i64 e]) [b0,b1,b2,b3,.front 0 0]=some (.ret (.tuple [.agg (RC hd sr s dn p (.own 0)),.int .i64 e]),[.front 0 0]):=by
 have oi:vJ 0 (.tuple [.agg (RC hd sr s dn p (.own 4)),.int .i64 e]) [b0,b1,b2,b3,.front 0 0]=[4]:=by
  unfold vJ reach
  rw [List.flatMap_cons,Xq];simp
 unfold zY
 rw [oi]
 simp [FO,D_,aa4,TS,-kN.ok,-kN.pO]
theorem aiI {hd:Hd}{sr:tX}{s:St}{dn:Bool}{p:List pF}{e:Int}{b0 b2 b3 b4:lN}:zY 0 (.tuple [.agg (RC hd sr s dn p (.own 1)),.int .i64 e]) [b0,.front 0 0,b2,b3,b4]=some (.ret (.tuple [.agg (RC hd sr s dn p (.own 0)),.int .i64 e]),[.front 0 0]):=by
 have oi:vJ 0 (.tuple [.agg (RC hd sr s dn p (.own 1)),.int .i64 e]) [b0,.front 0 0,b2,b3,b4]=[1]:=by
  unfold vJ reach
  rw [List.flatMap_cons,Xq];simp
 unfold zY
 rw [oi]
 simp [FO,D_,aa4,TS,-kN.ok,-kN.pO]
theorem call22 {f g:List UInt8}{hd:Hd}{sr:tX}{s:St}{dn:Bool}{p:List pF}{e:Int}(he:m22 KK (.str f) (.str g) []=some (.ret (.tuple [.agg (RC hd sr s dn p (.own 0)),.int .i64 e]),[.front 0 0])) (F:lN) :
  KK 22 [.str f,.str g] [F]=some (.ret (.tuple [.agg (RC hd sr s dn p (.own 1)),.int .i64 e]),[F,.front 0 0]):=by
 have ho:mJ.out 22=true:=rfl
 exact Lc (P:=Tryz.prog) (A:=mJ) (f:=22) (h:=[F]) (x:=some ()) (v:=fun _=>.tuple [.agg (RC hd sr s dn p (.own 0)),.int .i64 e]) (g:=fun _=>[.front 0 0]) (v':=fun _=>.tuple [.agg (RC hd sr s dn p (.own 1)),.int .i64 e]) (g':=fun _=>[.front 0 0]) rfl rfl (ajP (Ag Tryz.prog mJ) (.str f) (.str g) []) he (fun _=>by rw [ho];simp [tR,aa4,TS,-kN.ok,-kN.pO])
def rzH:Hd:=⟨0,0,⟨0,0,0⟩,0⟩
def rzS:tX:=⟨⟨0,0,0⟩,[],[]⟩
theorem k4 (f:List UInt8) (hf:f.length≤9223372036854775807) (h:kO):KK 4 [.str f] h=some (.ret (.tuple [.agg [.int .i64 (uH f).1.reset,.int .i64 (uH f).1.handler,.int .i64 (uH f).1.sizes.inn,.int .i64 (uH f).1.sizes.outt,.int .i64 (uH f).1.sizes.rail,.int .i64 (uH f).1.mode],.int .i64 (uH f).2]),h):=by
 rw [r4,aEC f hf];rfl
theorem YW {f g:List UInt8}{hd:Hd}{e:Int}(k4:∀h,KK 4 [.str f] h=some (.ret (.tuple [.agg [.int .i64 hd.reset,.int .i64 hd.handler,.int .i64 hd.sizes.inn,.int .i64 hd.sizes.outt,.int .i64 hd.sizes.rail,.int .i64 hd.mode],.int .i64 e]),h)) (he:e≠0):m22 KK (.str f) (.str g) []=some (.ret (.tuple [.agg (RC rzH rzS Ve false [] (.own 0)),.int .i64 e]),[.front 0 0]):=by
 simp -implicitDefEqProofs [m22,k4,he,-K_]
 exact aiG (hd:=rzH) (sr:=rzS) (s:=Ve) (dn:=false) (p:=[]) (e:=e)
theorem ac3 {z:Sz}{f g:List UInt8}(hz:Oe z) (h0:Ew z (f.length:Int)=0) (hg:(g.length:Int)≠z.inn):t29 ⟨z,f,g⟩=some 2:=by
 unfold t29
 show tb (t15 z (f.length:Int)) _=_
 rw [TW hz (by omega),h0,kS,show decide ((0:Int)=0)=true from rfl,lD]
 show Fo (!decide (((g.length:Nat):Int)=z.inn)) 0=_
 rw [mT hg];rfl
section
variable {f g:List UInt8}{hd:Hd}(k4:∀h,KK 4 [.str f] h=some (.ret (.tuple [.agg [.int .i64 hd.reset,.int .i64 hd.handler,.int .i64 hd.sizes.inn,.int .i64 hd.sizes.outt,.int .i64 hd.sizes.rail,.int .i64 hd.mode],.int .i64 0]),h))
include k4
theorem VO (k29:∀h,KK 29 [.agg [.int .i64 hd.sizes.inn,.int .i64 hd.sizes.outt,.int .i64 hd.sizes.rail,.str f,.str g]] h=some (.ret (.int .i64 2),h)):m22 KK (.str f) (.str g) []=some (.ret (.tuple [.agg (RC rzH rzS Ve false [] (.own 0)),.int .i64 2]),[.front 0 0]):=by
 simp -implicitDefEqProofs [m22,k4,k29,-K_]
 exact aiI (hd:=rzH) (sr:=rzS) (s:=Ve) (dn:=false) (p:=[]) (e:=2)
theorem ag3 (k29:∀h,KK 29 [.agg [.int .i64 hd.sizes.inn,.int .i64 hd.sizes.outt,.int .i64 hd.sizes.rail,.str f,.str g]] h=some (.ret (.int .i64 0),h)):m22 KK (.str f) (.str g) []=some (.ret (.tuple [.agg (RC hd ⟨hd.sizes,f,g⟩ (SY hd.reset) false [] (.own 0)),.int .i64 0]),[.front 0 0]):=by
 have p13:lQ 15 1 (.ptr 3 11) (.int .i64 13)=some (.ptr 3 24):=rfl
 have p14:lQ 15 1 (.ptr 3 11) (.int .i64 14)=some (.ptr 3 25):=rfl
 simp -implicitDefEqProofs [m22,k4,k29,p13,p14,kU,-K_]
 exact aiH (hd:=hd) (sr:=⟨hd.sizes,f,g⟩) (s:=SY hd.reset) (dn:=false) (p:=[]) (e:=0)
end
end
noncomputable section
open Go Hk
theorem aDG {hd:Hd}{sr:tX}{s:St}{dn:Bool}{p:List pF}{j:Nat}{c:Int}{l:List Ev}{q:Nat→Bool}:kN.ok q (.tuple [.agg (RC hd sr s dn p (.own j)),.slice (Rw Ev.cells l) .no,.int .i64 c])=(q j&&true):=by simp [RC,Sc]
theorem ax1 {hd:Hd}{sr:tX}{s:St}{dn:Bool}{p:List pF}{j:Nat}{c:Int}{l:List Ev}{F:Nat→Nat}:kN.pO F (.tuple [.agg (RC hd sr s dn p (.own j)),.slice (Rw Ev.cells l) .no,.int .i64 c])=.tuple [.agg (RC hd sr s dn p (.own (F j))),.slice (Rw Ev.cells l) .no,.int .i64 c]:=by simp [RC,Sc]
section
variable {hd:Hd}{sr:tX}{s s':St}{dn dn':Bool}{p':List pF}{b c:Int}{l:List Ev}
theorem ay2 (he:C8 Tryz.prog mJ nP (Ag Tryz.prog mJ) 23 [.agg (RC hd sr s dn [] (.own 0)),.agg [.int .i64 0,.int .i64 0,.int .i64 0,.int .i64 0],.int .i64 b] [.front 0 0]=some (.ret (.tuple [.agg (RC hd sr s' dn' p' (.own 0)),.slice (Rw Ev.cells l) .no,.int .i64 c]),[qL 4 p'.length])) (b0 b2 b3:lN) :
  KK 23 [.agg (RC hd sr s dn [] (.own 1)),.agg [.int .i64 0,.int .i64 0,.int .i64 0,.int .i64 0],.int .i64 b] [b0,.front 0 0,b2,b3]=some (.ret (.tuple [.agg (RC hd sr s' dn' p' (.own 1)),.slice (Rw Ev.cells l) .no,.int .i64 c]),[b0,qL 4 p'.length,b2,b3]):=by
 have hr:reach [b0,.front 0 0,b2,b3] [.agg (RC hd sr s dn [] (.own 1)),.agg [.int .i64 0,.int .i64 0,.int .i64 0,.int .i64 0],.int .i64 b]=[1]:=by
  unfold reach
  rw [List.flatMap_cons,afI]
  simp
 have r1:∀F,kN.pO F (.agg [.int .i64 0,.int .i64 0,.int .i64 0,.int .i64 0])=.agg [.int .i64 0,.int .i64 0,.int .i64 0,.int .i64 0]:=fun F=>rfl
 have r2:∀F,kN.pO F (.int .i64 b)=.int .i64 b:=fun F=>rfl
 have o1:∀q,kN.ok q (.agg [.int .i64 0,.int .i64 0,.int .i64 0,.int .i64 0])=true:=fun F=>rfl
 have o2:∀q,kN.ok q (.int .i64 b)=true:=fun F=>rfl
 exact Ky (P:=Tryz.prog) (A:=mJ) (x:=some ()) (v:=fun _=>.tuple [.agg (RC hd sr s' dn' p' (.own 0)),.slice (Rw Ev.cells l) .no,.int .i64 c]) (v':=fun _=>.tuple [.agg (RC hd sr s' dn' p' (.own 1)),.slice (Rw Ev.cells l) .no,.int .i64 c]) (ids:=[1]) (h1:=fun _=>_) (h2:=fun _=>_) rfl rfl hr (by simp [-kN.ok,awM,o1,o2]) (by simp [-kN.pO,afJ,r1,r2]) (by simp) he rfl (fun _=>by simp [-kN.ok,-kN.pO,aDG,ax1])
end
def Ji (f g:List UInt8) (b:Int):List Ev×Int :=
 if (uH f).2≠0 then([],(uH f).2)
 else if (g.length:Int)≠(rH f).sizes.inn then([],2)
 else if b<0∨1048576<b then([],2)
 else(Va (rH f).handler f g (rH f).sizes.outt.toNat (rH f).sizes.rail.toNat b.toNat (SY (rH f).reset) false [],0)
section
variable {f g:List UInt8}{hd:Hd}{e:Int}{b:Int}
theorem Ts (k22:∀F,KK 22 [.str f,.str g] [F]=some (.ret (.tuple [.agg (RC rzH rzS Ve false [] (.own 1)),.int .i64 e]),[F,.front 0 0])) (he:e≠0):m12 KK (.str f) (.str g) (.int .i64 b) []=some (.ret (.tuple [.slice [] .no,.int .i64 e]),[]):=by
 simp -implicitDefEqProofs [m12,k22,he,sG,tG,vQ,tF,rD,-kU,lU,lV]
theorem YS {sr:tX}{s:St}(k22:∀F,KK 22 [.str f,.str g] [F]=some (.ret (.tuple [.agg (RC hd sr s false [] (.own 1)),.int .i64 0]),[F,.front 0 0])) (hb:b<0∨1048576<b):m12 KK (.str f) (.str g) (.int .i64 b) []=some (.ret (.tuple [.slice [] .no,.int .i64 2]),[]):=by
 by_cases hb1:b<0
 ·simp -implicitDefEqProofs [m12,k22,hb1,sG,tG,vQ,tF,rD,-kU,lU,lV]
 ·have hb2:1048576<b:=by omega
  simp -implicitDefEqProofs [m12,k22,hb1,hb2,sG,tG,vQ,tF,rD,-kU,lU,lV]
theorem agZ {sr:tX}{s s':St}{dn':Bool}{p':List pF}{c:Int}{l:List Ev}(k22:∀F,KK 22 [.str f,.str g] [F]=some (.ret (.tuple [.agg (RC hd sr s false [] (.own 1)),.int .i64 0]),[F,.front 0 0])) (hb:¬(b<0∨1048576<b))
  (k23:∀b0 b2 b3,KK 23 [.agg (RC hd sr s false [] (.own 1)),.agg [.int .i64 0,.int .i64 0,.int .i64 0,.int .i64 0],.int .i64 b] [b0,.front 0 0,b2,b3]=some (.ret (.tuple [.agg (RC hd sr s' dn' p' (.own 1)),.slice (Rw Ev.cells l) .no,.int .i64 c]),[b0,qL 4 p'.length,b2,b3])):m12 KK (.str f) (.str g) (.int .i64 b) []=some (.ret (.tuple [.slice (Rw Ev.cells l) .no,.int .i64 0]),[]):=by
 have hb1:¬b<0:=by omega
 have hb2:¬1048576<b:=by omega
 simp -implicitDefEqProofs [m12,k22,k23,hb1,hb2,sG,tG,vQ,tF,rD,-kU,lU,lV]
end
theorem c12 (f g:List UInt8) (hf:f.length≤9223372036854775807) (b:Int) (hb:b<900000∨1048576<b) (h:kO):KK 12 [.str f,.str g,.int .i64 b] h=some (.ret (.tuple [.slice (Rw Ev.cells (Ji f g b).1) .no,.int .i64 (Ji f g b).2]),h):=by
 refine qC rfl rfl (ajG ..) ?_
 have k4:=fun h=>k4 f hf h
 have rw0:Rw Ev.cells []=[]:=rfl
 unfold Ji
 by_cases he:(uH f).2=0
 ·obtain⟨hp,hz,hl,hr,hh⟩:=MN he
  rw [if_neg (by simpa using he)]
  have hs:=Tz f
  rw [hp] at k4
  dsimp only at k4
  by_cases hg:(g.length:Int)=(rH f).sizes.inn
  ·rw [if_neg (by simpa using hg)]
   have hq:(rH f).sizes=nO g.length (rH f).sizes.outt.toNat (rH f).sizes.rail.toNat:=by
    obtain⟨a0,a1,b0,b1,c0,c1⟩:=hs
    generalize (rH f).sizes=z at *
    obtain⟨i,o,r⟩:=z
    dsimp only at *
    unfold nO
    rw [hg]
    congr 1 <;> omega
   have hz2:=hz
   rw [hq] at hz2
   have hsr:(⟨(rH f).sizes,f,g⟩:tX)=yI f g (rH f).sizes.outt.toNat (rH f).sizes.rail.toNat:=by unfold yI;rw [←hq]
   have k29:∀h,KK 29 [.agg [.int .i64 (rH f).sizes.inn,.int .i64 (rH f).sizes.outt,.int .i64 (rH f).sizes.rail,.str f,.str g]] h=some (.ret (.int .i64 0),h):=fun h=>by
    rw [axF]
    show tm (t29 (⟨(rH f).sizes,f,g⟩:tX)) _=_
    rw [hsr,azO f g _ _ hz2];rfl
   have k22:=fun F=>call22 (ag3 k4 k29) F
   rw [hsr] at k22
   by_cases hb1:b<0∨1048576<b
   ·rw [if_pos hb1,rw0];exact YS k22 hb1
   ·rw [if_neg hb1]
    obtain⟨s',dn',p',c,e⟩:=ahI (hd:=rH f) hz2 (by omega) b.toNat (by omega) (SY (rH f).reset) (by show(0:Int)≤(rH f).reset;omega)
    rw [show((b.toNat:Nat):Int)=b from by omega] at e
    exact agZ k22 hb1 (fun b0 b2 b3=>ay2 e b0 b2 b3)
  ·rw [if_pos (by simpa using hg),rw0]
   have k29:∀h,KK 29 [.agg [.int .i64 (rH f).sizes.inn,.int .i64 (rH f).sizes.outt,.int .i64 (rH f).sizes.rail,.str f,.str g]] h=some (.ret (.int .i64 2),h):=fun h=>by
    rw [axF]
    show tm (t29 (⟨(rH f).sizes,f,g⟩:tX)) _=_
    rw [ac3 hs hz hg];rfl
   exact Ts (fun F=>call22 (VO k4 k29) F) (by decide)
 ·rw [if_pos (by simpa using he),rw0]
  exact Ts (fun F=>call22 (YW k4 he) F) he
end
section
open Go Hk
theorem H9 {M:List UInt8}{off:Nat}{bs:List UInt8}(h:off+bs.length≤M.length) (q:Nat):(Bv M off bs).getD q 0=if off≤q∧q<off+bs.length then bs.getD (q-off) 0 else M.getD q 0:=by
 unfold Bv
 simp only [ad9]
 have hl:(M.take off).length=off:=by rw [al4];omega
 by_cases h1:q<off
 ·rw [if_neg (by omega),List.append_assoc,ah6 (by omega),ah8,if_pos h1]
 ·by_cases h2:q<off+bs.length
  ·rw [if_pos ⟨by omega,h2⟩,List.append_assoc,af7 (by omega),hl,ah6 (by omega)]
  ·rw [if_neg (by omega),af7 (by rw [List.length_append];omega),List.length_append,hl,List.getElem?_drop]
   congr 2;omega
theorem lt7 {k:Nat}(h:k<7):k=0∨k=1∨k=2∨k=3∨k=4∨k=5∨k=6:=by omega
section
variable {f g:List UInt8}{O R:Nat}
def Ui (f g:List UInt8) (O R:Nat) (k:Nat) (r:mZ) (off len:Nat):Prop:=k<7∧(pZ (nO g.length O R) f.length)[k]?=some r∧(oY f.length g.length O R)[k]?=some (off,len)
theorem acQ {k:Nat}{r:mZ}(h:(pZ (nO g.length O R) f.length)[k]?=some r):∃off len,Ui f g O R k r off len∧r.len=(len:Int):=by
 obtain⟨h1,off,len,h2,h3,_⟩:=SQ f.length g.length O R h
 exact⟨off,len,⟨h1,h,h2⟩,h3⟩
theorem DZ {k:Nat}{r:mZ}{off len:Nat}(h:Ui f g O R k r off len) :
  (k=0∧r.base=0∧off=0∧len=f.length)∨(k=1∧r.base=536936448∧off=f.length∧len=g.length)∨(k=2∧r.base=537001984∧off=f.length+g.length∧len=O)∨(k=3∧r.base=537133056∧off=f.length+g.length+O∧len=R)∨(k=4∧r.base=537395200∧off=f.length+g.length+O+R∧len=R)∨(k=5∧r.base=537919488∧off=f.length+g.length+O+R+R∧len=4)∨(k=6∧r.base=538968064∧off=f.length+g.length+O+R+R+4∧len=4):=by
 obtain⟨h0,h1,h2⟩:=h
 rcases lt7 h0 with rfl | rfl | rfl | rfl | rfl | rfl | rfl <;> (cases h1;cases h2;simp)
variable (hz:Ew (nO g.length O R) (f.length:Int)=0)
def Rel (f g:List UInt8) (O R:Nat) (M:List UInt8) (p:List pF):Prop:=M.length=mB f.length g.length O R∧∀k r off len,Ui f g O R k r off len→∀j,j<len→(M.getD (off+j) 0).toNat=Cf f g p (r.base+(j:Int))
include hz
theorem aD8:Rel f g O R (z8 f g O R) []:=by
 obtain⟨n1,n2,n3,n4,n5⟩:=JW f g O R hz
 refine⟨O0,?_⟩
 intro k r off len h j hj
 have hv:=DZ h
 have e0:Cf f g [] (r.base+(j:Int))=We f g (r.base+(j:Int)):=rfl
 have l0:(List.replicate (mB f.length g.length O R) (0:UInt8)).length=mB f.length g.length O R:=by simp
 have t0:f.length+g.length≤mB f.length g.length O R:=by unfold mB;omega
 have m0:∀q,(z8 f g O R).getD q 0=if q<f.length then f.getD q 0 else if q<f.length+g.length then g.getD (q-f.length) 0 else 0:=by
  intro q
  unfold z8
  rw [H9 (by rw [x_ (by omega)];omega),H9 (by omega)]
  by_cases h1:q<f.length
  ·rw [if_neg (by omega),if_pos ⟨by omega,by omega⟩,if_pos h1];rfl
  ·rw [if_neg h1]
   by_cases h2:q<f.length+g.length
   ·rw [if_pos ⟨by omega,h2⟩,if_pos h2]
   ·rw [if_neg (by omega),if_neg (by omega),if_neg h2]
    simp only [ad9,List.getElem?_replicate]
    split <;> rfl
 rw [e0,m0]
 unfold We
 rcases hv with ⟨_,a,b,c⟩ | ⟨_,a,b,c⟩ | ⟨_,a,b,c⟩ | ⟨_,a,b,c⟩ | ⟨_,a,b,c⟩ | ⟨_,a,b,c⟩ | ⟨_,a,b,c⟩
 ·rw [if_pos (by omega),if_pos (by omega),show(r.base+(j:Int)).toNat=off+j from by omega]
 ·rw [if_neg (by omega),if_pos (by omega),if_neg (by omega),if_pos (by omega),show(r.base+(j:Int)-536936448).toNat=off+j-f.length from by omega]
 all_goals rw [if_neg (by omega),if_neg (by omega),if_neg (by omega),if_neg (by omega)];rfl
theorem ae9 {w:Bool}{a n:Int}(hn:n=1∨n=4):(C9 w a n (pZ (nO g.length O R) f.length)=none∧Kt f.length g.length O R w a n=none)∨∃k r off len P,C9 w a n (pZ (nO g.length O R) f.length)=some k∧Kt f.length g.length O R w a n=some P∧Ui f g O R k r off len∧r.base≤a∧a+n≤r.base+(len:Int)∧P=off+(a-r.base).toNat:=by
 unfold Kt
 cases hf:C9 w a n (pZ (nO g.length O R) f.length) with
 | none=>exact Or.inl ⟨rfl,rfl⟩
 | some k =>
  right
  obtain⟨r,h1,h2,h3⟩:=Qc hf
  obtain⟨off,len,h4,h5⟩:=acQ h1
  have hh:=Nf h2
  refine⟨k,r,off,len,_,rfl,rfl,h4,hh.1,by omega,?_⟩
  rw [show(oY f.length g.length O R).getD k (0,0)=(off,len) from by rw [ad9,h4.2.2];rfl,show(pZ (nO g.length O R) f.length).getD k ⟨0,0,false⟩=r from by rw [ad9,h1];rfl]
set_option maxHeartbeats 2000000 in
theorem VM {k k':Nat}{r r':mZ}{off off' len len':Nat}(h:Ui f g O R k r off len) (h':Ui f g O R k' r' off' len'):(r.base=r'.base∧off=off'∧len=len')∨(r.base+(len:Int)≤r'.base∧off+len≤off')∨(r'.base+(len':Int)≤r.base∧off'+len'≤off):=by
 obtain⟨n1,n2,n3,n4,n5⟩:=JW f g O R hz
 have hv:=DZ h
 have hv':=DZ h'
 clear h h' hz
 generalize f.length=L at *
 generalize g.length=I at *
 generalize r.base=b at *
 generalize r'.base=b' at *
 rcases hv with ⟨_,a1,a2,a3⟩ | ⟨_,a1,a2,a3⟩ | ⟨_,a1,a2,a3⟩ | ⟨_,a1,a2,a3⟩ | ⟨_,a1,a2,a3⟩ | ⟨_,a1,a2,a3⟩ | ⟨_,a1,a2,a3⟩ <;>
  rcases hv' with ⟨_,c1,c2,c3⟩ | ⟨_,c1,c2,c3⟩ | ⟨_,c1,c2,c3⟩ | ⟨_,c1,c2,c3⟩ | ⟨_,c1,c2,c3⟩ | ⟨_,c1,c2,c3⟩ | ⟨_,c1,c2,c3⟩ <;> subst a1 a2 a3 c1 c2 c3 <;> omega
set_option maxHeartbeats 1000000 in
theorem acR {M:List UInt8}{p:List pF}(hr:Rel f g O R M p) {a:Acc}(hn:a.size=1∨a.size=4) :
  (Hq f.length g.length O R M a=none∧Ov f g O R p a=none)∨∃v M' p',Hq f.length g.length O R M a=some (v,M')∧Ov f g O R p a=some (v,p')∧Rel f g O R M' p':=by
 obtain⟨n1,n2,n3,n4,n5⟩:=JW f g O R hz
 obtain⟨ad,n,v,w⟩:=a
 dsimp only at hn
 unfold Hq Ov
 cases w with
 | true =>
  rw [if_pos rfl,if_pos rfl]
  rcases ae9 hz (w:=true) (a:=ad) hn with ⟨h1,h2⟩ | ⟨k,r,off,len,P,h1,h2,hk,b1,b2,hP⟩
  ·dsimp only;rw [h1,h2];exact Or.inl ⟨rfl,rfl⟩
  ·right
   dsimp only
   rw [h1,h2]
   refine⟨0,_,_,rfl,rfl,?_⟩
   have hw:((wB v).take n.toNat).length=n.toNat:=by rw [al4,C7];omega
   have hv:=DZ hk
   have tt:mB f.length g.length O R=f.length+g.length+O+R+R+4+4:=rfl
   have hin:P+((wB v).take n.toNat).length≤M.length:=by rw [hw,hr.1];omega
   refine⟨by rw [x_ hin];exact hr.1,?_⟩
   intro k' r' off' len' hk' j hj
   rw [H9 hin,hw,Xp]
   have old:=hr.2 k' r' off' len' hk' j hj
   have key:(P≤off'+j∧off'+j<P+n.toNat)↔Ld ⟨1,ad,n,v⟩ (r'.base+(j:Int))=true:=by
    unfold Ld
    simp only [ae7,decide_eq_true_eq]
    rcases VM hz hk hk' with h3 | h3 | h3 <;> constructor <;> intro h4 <;> omega
   by_cases hc:P≤off'+j∧off'+j<P+n.toNat
   ·rw [if_pos hc,if_pos (key.1 hc)]
    have same:off'+j-P=(r'.base+(j:Int)-ad).toNat:=by
     rcases VM hz hk hk' with h3 | h3 | h3 <;> omega
    have lt:off'+j-P<n.toNat:=by omega
    have e1:((wB v).take n.toNat).getD (off'+j-P) 0=(wB v).getD (off'+j-P) 0:=by
     simp only [ad9,ah8,if_pos lt]
    rw [e1,FA v _ (by omega),same]
   ·rw [if_neg hc,if_neg fun q=>hc (key.2 q)]
    exact old
 | false =>
  rw [if_neg (by simp),if_neg (by simp)]
  rcases ae9 hz (w:=false) (a:=ad) hn with ⟨h1,h2⟩ | ⟨k,r,off,len,P,h1,h2,hk,b1,b2,hP⟩
  ·dsimp only;rw [h1,h2];exact Or.inl ⟨rfl,rfl⟩
  ·right
   dsimp only
   rw [h1,h2]
   refine⟨_,M,p,rfl,?_,hr⟩
   have e:∀i:Nat,(i:Int)<n→(M.getD (P+i) 0).toNat=Cf f g p (ad+(i:Int)):=by
    intro i hi
    have:=hr.2 k r off len hk ((ad-r.base).toNat+i) (by omega)
    rw [show off+((ad-r.base).toNat+i)=P+i from by omega,show r.base+(((ad-r.base).toNat+i:Nat):Int)=ad+(i:Int) from by omega] at this
    exact this
   have:Wl M P n=O7 (Cf f g p) ad n:=by
    unfold Wl O7
    rcases hn with rfl | rfl
    ·have:=e 0 (by decide)
     simp only [aq9,Int.natCast_zero,Int.add_zero,show((0:Nat):Int)=0 from rfl] at this
     rw [if_pos rfl,if_pos rfl,this]
    ·have e0:=e 0 (by decide)
     have e1:=e 1 (by decide)
     have e2:=e 2 (by decide)
     have e3:=e 3 (by decide)
     simp only [aq9,Int.natCast_zero,Int.add_zero,show((0:Nat):Int)=0 from rfl,show((1:Nat):Int)=1 from rfl,show((2:Nat):Int)=2 from rfl,show((3:Nat):Int)=3 from rfl] at e0 e1 e2 e3
     rw [if_neg (by decide),if_neg (by decide),e0,e1,e2,e3]
   rw [this]
end
end
end Go.Proofs.YtaaccaifoddaiaaGreat
