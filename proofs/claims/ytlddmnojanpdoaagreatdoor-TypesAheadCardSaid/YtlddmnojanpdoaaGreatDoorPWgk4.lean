/-
  The texts WG.TN, WG.KR, WG.W10, one behind another. No conditions.
-/
import Derived.Test.YtlddmnojanpdoaaGreatDoorPLg1
import Derived.Test.YtlddmnojanpdoaaGreatDoorPWgk1
import Derived.Test.YtlddmnojanpdoaaGreatDoorPWgk3
import Derived.Test.YtlddmnojanpdoaaGreatDoorPWgb1
import Derived.Test.YtlddmnojanpdoaaGreatDoorPSg1
import Derived.Test.YtlddmnojanpdoaaGreatDoorPWgu1
set_option linter.unusedVariables false
set_option linter.unusedSimpArgs false
set_option linter.all false
open Int renaming cast_ofNat_Int → ac7
open List renaming length → aa0
namespace Go.Proofs.YtlddmnojanpdoaaGreatDoor
noncomputable section
open Go Hk
def Nw (K:lB) (m:Nat) (s:St):Option R :=
 EB s fun aB aE aC aD aA aF=>(kV .add aA (iq 4)).bind fun aH=>(nQ aB).bind fun aI=>aq .leq aH aI ((kV .add aA (iq 4)).bind fun aJ=>(oK aB (some aA) (some aJ)).bind fun aK=>aq .eql aK (.str [113,113,113,113]) (kq0 K 24 aF fun aL aG=>kS m .ret [aB,aL,aC,aD,aA] aG) ((kV .add aA (iq 1)).bind fun aM=>kS m .normal [aB,aE,aC,aD,aM] aF)) (kS m (.exit 0) [aB,aE,aC,aD,aA] aF)
def m10 (K:lB) (a0:kM) (h0:kP):OH :=
 ((nQ a0).bind fun t0=>aq .gtr t0 (iq 60000) (kq0 K 24 h0 fun t2 h3=>some (.ret,[t2],h3)) (qX K 25 a0 h0 fun t4 h5=>(lH 0 t4).bind fun t6=>(lH 1 t4).bind fun t7=>kQ (lK 1 h5 (.agg [(.slice [] .nil)])) fun t8 h9=>kQ (lK 2 h9 (.agg [(iq 0),(iq 0)])) fun bG cK=>(kR 1 cK t8 t6).bind fun cL=>(kR 2 cL bG t7).bind fun cM=>(kV .add (.str [102,110,32,113,113,113,113,40,112,117,98,32,97,58,32,117,51,50,44,32,111,117,116,32,115,101,99,32,98,58,32,117,56,91,51,93,41,58,32,112,117,98,32,109,97,115,107,32,123,32,98,91,97,93,32,61,32,49,59,32,114,101,116,117,114,110,32,97,32,60,32,51,59,32,125,10]) a0).bind fun cZ=>qX K 25 cZ cM fun cD cN=>(lH 0 cD).bind fun c6=>(lH 1 cD).bind fun c7=>kQ (lK 1 cN (.agg [(.slice [] .nil)])) fun cE cO=>kQ (lK 2 cO (.agg [(iq 0),(iq 0)])) fun bZ cP=>(kR 1 cP cE c6).bind fun cQ=>(kR 2 cQ bZ c7).bind fun b9=>fq 0 bG b9 fun c_=>(kV .neq c_ (iq 0)).bind fun aU=>lG false aU (kO 0 bZ) b9 fun dA b_=>lG false aU (kT false 1 b_ dA) b_ fun dB cR=>lG false aU (kV .neq dB (iq 0)) cR fun dC aH=>(lN aU (.bool true) dC).bind fun dD=>lF dD (fq 0 bG aH fun dE=>fq 0 bZ aH fun dF=>(kV .eql dE dF).bind fun cF=>gq true cF (kU (K 24 [] aH) (fun dG cS=>nM dG cS) yS) aH fun dH cT=>(lN cF dH (.bool false)).bind fun dI=>some (.ret,[dI],cT)) ((mI (Nw K (aa0 aH)) ([a0,(.bool false),t8,cE,(iq 0)],aH)).bind fun cB=>EB cB.2 fun cG aR aE aA cH aB=>Ex.lV cB.1 none (fun cI=>Ex.inBlock 0 cI ((kT true 1 (aB++[.free,.free]) aE).bind fun dJ=>(kT true 1 (aB++[.free,.free]) aA).bind fun dK=>kQ (vS ((aa0 aB)+0) 2 (aB++[.free,.free]) (.agg [(iq 0),(iq 0)])) fun aQ cU=>kQ (vS ((aa0 aB)+1) 2 cU (.agg [(iq 0),(iq 0)])) fun b8 aO=>bif (List.take (aa0 aB) aO).all (sS (aa0 aB)) then(kU (yK K 20 (vL (aa0 aB) dJ) (nL (kY [0] [aA]) (List.take (aa0 aB) aO))) (fun dL cV=>nM dL (lP (kY [0] [aA]) (List.take (aa0 aB) aO) cV)) (fun v h'=>yS v (lP (kY [0] [aA]) (List.take (aa0 aB) aO) h'))).bind (EY (aa0 aB) aO fun dM bF=>bif (List.take (aa0 aB) bF).all (sS (aa0 aB)) then(kU (yK K 20 (vL (aa0 aB) dK) (List.take (aa0 aB) bF)) (fun dN cW=>nM dN cW) yS).bind (EY (aa0 aB) bF fun dO cX=>(kR 2 cX aQ dM).bind fun cY=>(kR 2 cY b8 dO).bind fun aS=>fq 0 aQ aS fun dP=>fq 0 b8 aS fun dQ=>(kV .neq dP dQ).bind fun aI=>lG false aI (kT true 1 aS aE) aS fun dR cA=>lG false aI (kT true 1 cA aA) cA fun dU aT=>gq false aI (kU (yK K 22 dR (nL (kY [0] [aA]) aT)) (fun dV aV=>nM dV (lP (kY [0] [aA]) aT aV)) (fun v h'=>yS v (lP (kY [0] [aA]) aT h'))) aT fun bH aJ=>gq false aI (kU (yK K 22 dU aJ) (fun bI aW=>nM bI aW) yS) aJ fun bJ aX=>lG false aI (kV .neq bH bJ) aX fun bK aF=>(lN aI (.bool true) bK).bind fun bL=>lF bL (some (.ret,[(.bool false)],aF)) (fq 0 aQ aF fun bM=>(kV .eql bM (iq 0)).bind fun aD=>lG false aD (kO 1 aQ) aF fun bN aK=>lG false aD (kT false 1 aK bN) aK fun bO aY=>lG false aD (kV .eql bO (iq 0)) aY fun bP aZ=>(lN aD (.bool true) bP).bind fun aC=>lG false aC (kO 1 b8) aZ fun bQ aL=>lG false aC (kT false 1 aL bQ) aL fun bR a_=>lG false aC (kO 1 aQ) a_ fun bS aM=>lG false aC (kT false 1 aM bS) aM fun bT bA=>lG false aC (kV .add bT (iq 76)) bA fun bU bB=>lG false aC (kV .eql bR bU) bB fun bV aN=>(lN aC (.bool true) bV).bind fun aP=>gq true aP (kU (K 24 [] aN) (fun bW bC=>nM bW bC) yS) aN fun bX bD=>(lN aP bX (.bool false)).bind fun bY=>some (.ret,[bY],bD))) else none) else none) (fun cJ=>some (cJ,[aR],aB)))))).bind fun as7=>sM as7.2 fun aG bE=>Ex.nA as7.1 (lY (aa0 h0) aG bE)
theorem aAk K a0 h0:o6 Tryz.prog mJ mI K 10 [a0] h0=m10 (lT mJ K) a0 h0:=by kernel_rfl
end
section
open Go Hk
def H10 (pc qc:List (List kM)) (e p f q:Int):kP:=[.cells [.slice pc .no],.front 0 0,.cells [.int .i64 e,.int .i64 p],.cells [.slice qc .no],.front 0 0,.cells [.int .i64 f,.int .i64 q]]
theorem ahY (s:List UInt8) (hl:s.length≤60000) (e24:∀h,KK 24 [] h=some (.ret (.bool true),h)) (pc qc:List (List kM)) (e p f q:Int) (b:Bool) (hb:b=true↔ahA s):∀(n i:Nat),s.length < i+n→i≤s.length→(∀j,j < i→¬(j+4≤s.length∧(s.drop j).take 4=qS)) →
  ∃j:Int,mI (Nw KK 6) ([.str s,.bool false,.ptr 0 0,.ptr 3 0,.int .i64 (i:Int)],H10 pc qc e p f q)=some (if b then(.ret,[.str s,.bool true,.ptr 0 0,.ptr 3 0,.int .i64 j],H10 pc qc e p f q) else(.exit 0,[.str s,.bool false,.ptr 0 0,.ptr 3 0,.int .i64 j],H10 pc qc e p f q)):=by
 intro n
 have q0:∀h k,k < 6→kM.mO 6 h (.ptr k 0)=.ptr k 0:=fun h k hk=>lC hk
 induction n with
 | zero=>intro i h1 h2; omega
 | succ n ih =>
  intro i h1 h2 h3
  have w4:IntKind.wrap .i64 ((i:Int)+4)=(i:Int)+4:=by rw [wrap64] <;> omega
  have w1:IntKind.wrap .i64 ((i:Int)+1)=(i:Int)+1:=by rw [wrap64] <;> omega
  rw [lZ]
  by_cases h4:i+4≤s.length
  ·have h4':(i:Int)+4≤(s.length:Int):=by omega
   have hsl:=qH (s:=s) (lo:=some (.int .i64 (i:Int))) (hi:=some (.int .i64 ((i+4:Nat):Int))) p7 p7 (by omega) (by omega)
   simp only [Int.natCast_add,ac7,Nat.add_sub_cancel_left] at hsl
   by_cases h5:(s.drop i).take 4=qS
   ·have h6:∃i,i+4≤s.length∧(s.drop i).take 4=qS:=⟨i,h4,h5⟩
    refine⟨i,?_⟩
    obtain rfl:=hb.2 h6
    unfold qS at h5
    rw [h5] at hsl
    simp -implicitDefEqProofs [Nw,H10,w4,h4',hsl,e24,q0,kS,l9]
   ·obtain⟨j,hj⟩:=ih (i+1) (by omega) (by omega) (fun j hj=>by
     rcases Nat.lt_or_ge j i with h | h
     ·exact h3 j h
     ·obtain rfl:j=i:=by omega
      exact fun hh=>h5 hh.2)
    refine⟨j,?_⟩
    rw [←hj]
    unfold qS at h5
    simp -implicitDefEqProofs [Nw,H10,w4,h4',hsl,h5,w1,q0,kS,l9]
  ·have h6:¬∃i,i+4≤s.length∧(s.drop i).take 4=qS:=by
    rintro⟨j,g1,g2⟩
    rcases Nat.lt_or_ge j i with h | h
    ·exact h3 j h ⟨g1,g2⟩
    ·omega
   have h4':¬(i:Int)+4≤(s.length:Int):=by omega
   refine⟨i,?_⟩
   obtain rfl:b=false:=by
    cases b with
    | false=>rfl
    | true=>exact absurd (hb.1 rfl) h6
   simp -implicitDefEqProofs [Nw,H10,w4,h4',q0,kS,l9]
theorem c10 (s:List UInt8) (e24:∀h,KK 24 [] h=some (.ret (.bool true),h)) (h:kP):KK 10 [.str s] h=some (.ret (.bool true),h):=by
 refine lA rfl rfl (k9 (aAk _ _ _) ?_)
 by_cases hl:s.length≤60000
 ·have hl':¬(60000:Int) < (s.length:Int):=by omega
  have e25:=afZ s
  have f25:=afZ (O1++10::s)
  have a20:=(yD s).c20
  have a22:=(yD s).c22
  have b20:=(yD (O1++10::s)).c20
  have b22:=(yD (O1++10::s)).c22
  obtain⟨l1,l2⟩:=aaO hl
  have hadd:76+s.length≤4611686018427387904:=by omega
  have hlp:=fun b hb=>ahY s hl e24 ((mP s).map GF.cells) ((mP (O1++10::s)).map GF.cells) (((mW s).2.1:Nat):Int) (((mW s).2.2:Nat):Int) (((mW (O1++10::s)).2.1:Nat):Int) (((mW (O1++10::s)).2.2:Nat):Int) b hb (s.length+1) 0 (by omega) (Nat.zero_le _) (fun j hj=>by omega)
  unfold oT at e25 f25
  rw [l1] at f25 hlp
  generalize hA:rD (mP s)=a at *
  generalize hB:rD (mP (O1++10::s))=b at *
  generalize hCA:Bx (mP s)=ca at *
  generalize hCB:Bx (mP (O1++10::s))=cb at *
  generalize (mP s).map GF.cells=pc at *
  generalize (mP (O1++10::s)).map GF.cells=qc at *
  generalize (mW s).2.1=e at *
  generalize (mW s).2.2=p at *
  generalize (mW (O1++10::s)).2.2=q at *
  obtain⟨a1,a2⟩:=a
  obtain⟨b1,b2⟩:=b
  simp only [O1,List.cons_append,List.nil_append] at f25
  by_cases he:e=0
  ·subst he
   by_cases hq:ahA s
   ·obtain⟨j,hlp⟩:=hlp true ⟨fun _=>hq,fun _=>rfl⟩
    simp only [H10,ac7,if_true] at hlp
    simp -implicitDefEqProofs [yJ,xN,vL,EY,sS,kM.nP,kM.pE,qA,Mr,m10,hl',hadd,e25,f25,e24,hlp,lK,lD,putCells,kN]
   ·obtain⟨g1,g2,g3⟩:=l2 hq rfl
    obtain⟨j,hlp⟩:=hlp false ⟨fun h=>(by cases h),fun h=>absurd h hq⟩
    simp only [H10,ac7,Bool.false_eq_true,if_false] at hlp
    simp only at g1 g2 g3 a20 b20
    subst g1; subst g2
    by_cases h0:a1=0
    ·subst h0
     simp -implicitDefEqProofs [yJ,xN,vL,EY,sS,kM.nP,kM.pE,qA,Mr,m10,hl',hadd,e25,f25,e24,hlp,a20,a22,b20,b22,lK,lD,putCells,kN]
    ·by_cases h1:a2=0
     ·subst h1
      simp -implicitDefEqProofs [yJ,xN,vL,EY,sS,kM.nP,kM.pE,qA,Mr,m10,hl',hadd,e25,f25,e24,hlp,a20,a22,b20,b22,h0,lK,lD,putCells,kN]
     ·rcases g3 with g3 | g3 | ⟨g3,w76⟩
      ·exact absurd g3 h0
      ·exact absurd g3 h1
      ·subst g3
       unfold PW at w76
       simp -implicitDefEqProofs [yJ,xN,vL,EY,sS,kM.nP,kM.pE,qA,Mr,m10,hl',hadd,e25,f25,e24,hlp,a20,a22,b20,b22,h0,h1,w76,lK,lD,putCells,kN]
  ·simp -implicitDefEqProofs [yJ,xN,vL,EY,sS,kM.nP,kM.pE,qA,Mr,m10,hl',hadd,e25,f25,e24,he,lK,lD,putCells,kN]
 ·have hl':(60000:Int) < (s.length:Int):=by omega
  simp -implicitDefEqProofs [yJ,xN,vL,EY,sS,kM.nP,kM.pE,qA,Mr,m10,hl',e24,kN]
end
section
open Go Hk
theorem aE8 (s:List UInt8) (_:s.length≤maxLen):MO Tryz.prog mJ 10 [.str s] []=some (.ret (.bool true),[]):=awG rfl (c10 s c24 [])
end
end Go.Proofs.YtlddmnojanpdoaaGreatDoor
