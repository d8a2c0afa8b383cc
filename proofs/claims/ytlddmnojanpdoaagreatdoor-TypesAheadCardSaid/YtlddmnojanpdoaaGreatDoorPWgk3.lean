/-
  The texts WG.KC, one behind another. No conditions.
-/
import Derived.Test.YtlddmnojanpdoaaGreatDoorPWgk2
import Derived.Test.YtlddmnojanpdoaaGreatDoorPWgm1
set_option linter.unusedVariables false
set_option linter.unusedSimpArgs false
set_option linter.all false
namespace Go.Proofs.YtlddmnojanpdoaaGreatDoor
section
open Go Hk
theorem Mr {a b c d:Int}:rX [.i,.i] (.agg [.int .i64 a,.int .i64 b]) (.agg [.int .i64 c,.int .i64 d])=some (a == c && b == d):=by
 simp [rX,rM,Gu]
theorem aJM:rD [(prX Js).o8]=(15,43):=by kernel_rfl
theorem aJN:rD [(prX G7).o8]=(0,0):=by kernel_rfl
theorem aEK:Bx [(prX G7).o8]=5:=by kernel_rfl
theorem aF1:mP (YE Js)=[(prX Js).o8]:=by unfold mP; rw [aKK]; rfl
theorem awK:mP (YE G7)=[(prX G7).o8]:=by unfold mP; rw [aKL]; rfl
theorem c24 (h:kP):KK 24 [] h=some (.ret (.bool true),h):=by
 refine lA rfl rfl (k9 (aAL _ _) ?_)
 have e12:=aE6 aKb aKY
 have f12:=aE6 aKc aKZ
 have a20:=(yD (YE Js)).c20
 have b20:=(yD (YE G7)).c20
 have b22:=(yD (YE G7)).c22
 rw [aF1,aJM] at a20
 rw [awK,aJN] at b20
 rw [awK,aEK] at b22
 simp only [List.map_cons,List.map_nil,←XF.Gx] at a20 b20 b22
 generalize (prX Js).cells=P at *
 generalize (prX G7).cells=Q at *
 simp only [YE,Js,G7,List.cons_append,List.nil_append,List.append_nil] at e12 f12
 simp -implicitDefEqProofs [m24,Mr,e12,f12,a20,b20,b22,lK,lD,putCells,kN]
end
end Go.Proofs.YtlddmnojanpdoaaGreatDoor
