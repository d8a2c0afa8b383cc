/-
  The texts WG.KC, WG.KB, WG.W9, one behind another. No conditions.
-/
import Derived.Test.YtlddmnojanpdoaaGreatDoorPWgk1
import Derived.Test.YtlddmnojanpdoaaGreatDoorPWgm1
import Derived.Test.YtlddmnojanpdoaaGreatDoorPWgb1
import Derived.Test.YtlddmnojanpdoaaGreatDoorPWgu1
set_option linter.unusedVariables false
set_option linter.unusedSimpArgs false
set_option linter.all false
namespace Go.Proofs.YtlddmnojanpdoaaGreatDoor
section
open Go Hk
theorem Mn {a b c d:Int}:rW [.i,.i] (.agg [.int .i64 a,.int .i64 b]) (.agg [.int .i64 c,.int .i64 d])=some (a == c && b == d):=by
 simp [rW,rM,Gq]
theorem aJA:rD [(prX Jo).o8]=(15,43):=by kernel_rfl
theorem aJB:rD [(prX G0).o8]=(0,0):=by kernel_rfl
theorem aEy:Bt [(prX G0).o8]=5:=by kernel_rfl
theorem aFP:mQ (Yt Jo)=[(prX Jo).o8]:=by unfold mQ; rw [aKy]; rfl
theorem av8:mQ (Yt G0)=[(prX G0).o8]:=by unfold mQ; rw [aKz]; rfl
theorem c24 (h:kP):KK 24 [] h=some (.ret (.bool true),h):=by
 refine lD rfl rfl (lA (aAz _ _) ?_)
 have e12:=aEU aJZ aKM
 have f12:=aEU aJ0 aKN
 have a20:=(yB (Yt Jo)).c20
 have b20:=(yB (Yt G0)).c20
 have b22:=(yB (Yt G0)).c22
 rw [aFP,aJA] at a20
 rw [av8,aJB] at b20
 rw [av8,aEy] at b22
 simp only [List.map_cons,List.map_nil,←XF.Gt] at a20 b20 b22
 generalize (prX Jo).cells=P at *
 generalize (prX G0).cells=Q at *
 simp only [Yt,Jo,G0,List.cons_append,List.nil_append,List.append_nil] at e12 f12
 simp -implicitDefEqProofs [m24,Mn,e12,f12,a20,b20,b22,lL,lF,putCells,kN]
end
section
open Go Hk
theorem c9 (s:List UInt8) (e24:∀h,KK 24 [] h=some (.ret (.bool true),h)) (h:kP):KK 9 [.str s] h=some (.ret (.bool true),h):=by
 refine lD rfl rfl (lA (aFx _ _ _) ?_)
 have hp:=yB s
 have e25:=afO s
 have a20:=hp.c20
 have a22:=hp.c22
 have a27:=hp.c27
 have b20:=hp.op.c20
 have b22:=hp.op.c22
 obtain⟨l1,l2,l3⟩:=XA hp.a hp.n
 unfold oT at e25
 generalize hA:rD (mQ s)=a at *
 generalize hB:rD ((mQ s).map GF.op)=b at *
 generalize hCA:Bt (mQ s)=ca at *
 generalize hCB:Bt ((mQ s).map GF.op)=cb at *
 generalize (mQ s).map GF.cells=pc at *
 generalize ((mQ s).map GF.op).map GF.cells=qc at *
 generalize (mW s).2.1=e at *
 generalize (mW s).2.2=p at *
 obtain⟨a1,a2⟩:=a
 obtain⟨b1,b2⟩:=b
 simp only at l1 l2 l3 a20 b20
 by_cases he:e=0
 ·subst he
  by_cases h0:a1=0
  ·obtain⟨rfl,rfl⟩:=l1 h0
   subst h0
   rcases l3 with l3 | l3
   ·exact absurd l3 (by decide)
   ·obtain⟨-,rfl⟩:=Prod.mk.inj l3
    simp -implicitDefEqProofs [m9,Mn,e25,e24,a20,a22,a27,b20,b22,lL,lF,putCells,kN]
  ·by_cases h15:a1=15
   ·subst h15
    simp -implicitDefEqProofs [m9,Mn,e25,e24,a20,a22,a27,b20,b22,lL,lF,putCells,kN,l2]
   ·rcases l3 with l3 | l3
    ·exact absurd l3 h15
    ·obtain⟨rfl,rfl⟩:=Prod.mk.inj l3
     simp -implicitDefEqProofs [m9,Mn,e25,e24,a20,a22,a27,b20,b22,lL,lF,putCells,kN,l2,h0,h15]
 ·have he':¬((e:Int)=0):=by omega
  simp -implicitDefEqProofs [m9,Mn,e25,e24,he,lL,lF,putCells,kN]
end
section
open Go Hk
theorem aJU (s:List UInt8) (_:s.length≤maxLen):MK Tryz.prog mK 9 [.str s] []=some (.ret (.bool true),[]):=av4 rfl (c9 s c24 [])
end
end Go.Proofs.YtlddmnojanpdoaaGreatDoor
