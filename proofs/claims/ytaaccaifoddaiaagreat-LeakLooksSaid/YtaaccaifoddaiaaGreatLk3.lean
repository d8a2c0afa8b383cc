/-
  The texts LK.T6, LK.D1, LK.D2, LK.D3, LK.D4, LK.D5, LK.D6, LK.D7, LK.M4, LK.D8, LK.I1, LK.I2, LK.I3, LK.I4, LK.M3, LK.I5, LK.I6, LK.I7, LK.I8, one behind another. No conditions.
-/
import Derived.Test.YtaaccaifoddaiaaGreatLk2
import Derived.Test.YtaaccaifoddaiaaGreatLk1
set_option linter.unusedVariables false
set_option linter.unusedSimpArgs false
set_option linter.all false
open Bool renaming and_eq_true → ae7
open List renaming all_eq_true → al0, drop_eq_getElem_cons → al3, drop_of_length_le → aq8, getD → ad8, length → aa5, map_cons → ar6, range → ar2, replicate → ai1
open Nat renaming pow_le_pow_right → al2
open UInt8 renaming ofNat → ar4
namespace Go.Proofs.YtaaccaifoddaiaaGreat
noncomputable section
open Go Hk
section
set_option maxHeartbeats 8000000
def ae3 (mm:Nat) (M7:R):Option (mR×kO) :=
 (fun aA aB=>Ex.oH M7.1 ((kY true 8 aB aA).bind fun t144=>oM mm t144 aB)) (gd M7.2.1 0) M7.2.2
def RP (K:kT) (m:Nat) (t76:kN) (a1:kN) (a2:kN) (aB:kN) (aC:kN) (aA:kO):Option R :=
 kV t76 (kZ m .normal [a1,a2,aB,aC,t76] aA) (bo .eql a1 (.int .u8 49) fun t78=>kZ m .normal [a1,a2,aB,aC,t78] aA)
def NS (aA:Bool) (o8:Int):Option (Bool) :=
 tc aA (some aA) (some (decide (o8=49)))
theorem anT (w77:Bool) (o8:Int) (o9:Int) (o10:Int) (o0:Int) (o1:Int) (o2:Int) (o3:Int) (o4:Int) (o5:Int) (o6:Int) (o7:Bool):(RP KK 3 w77 (.int .u8 o8) o9 (.ptr 1 0) (.ptr 2 0) ([.cells [o10],.cells [o0,o1,o2,o3,o4,o5,o6,o7],.cells [zO,zO,zO,zO,zO,zO,zO,false]]:kO))=tm (β:=R) (NS w77 o8) fun r=>(.normal,[(.int .u8 o8),o9,(.ptr 1 0),(.ptr 2 0),r],([.cells [o10],.cells [o0,o1,o2,o3,o4,o5,o6,o7],.cells [zO,zO,zO,zO,zO,zO,zO,false]]:kO)):=by
 cases w77 <;> simp [-rZ,-oZ,-oJ,-p5,-pV,-qX,-qY,RP,NS]
def RO (K:kT) (m:Nat) (t74:kN) (a1:kN) (a2:kN) (aH:kN) (aI:kN) (aG:kO):Option R :=
 kV t74 (kZ m .normal [a1,a2,aH,aI,t74] aG) (bo .eql a1 (.int .u8 48) fun t76=>(RP K (aa5 aG) t76 a1 a2 aH aI aG).bind fun aA=>(fun aC aD aE aF aB aJ=>Ex.pR aA.1 (kZ m .normal [aC,aD,aE,aF,aB] aJ)) (gd aA.2.1 0) (gd aA.2.1 1) (gd aA.2.1 2) (gd aA.2.1 3) (gd aA.2.1 4) aA.2.2)
def NR (aA:Bool) (o8:Int):Option (Bool) :=
 tc aA (some aA) (tb (NS (decide (o8=48)) o8) fun aB=>some aB)
theorem anS (w75:Bool) (o8:Int) (o9:Int) (o10:Int) (o0:Int) (o1:Int) (o2:Int) (o3:Int) (o4:Int) (o5:Int) (o6:Int) (o7:Bool):(RO KK 3 w75 (.int .u8 o8) o9 (.ptr 1 0) (.ptr 2 0) ([.cells [o10],.cells [o0,o1,o2,o3,o4,o5,o6,o7],.cells [zO,zO,zO,zO,zO,zO,zO,false]]:kO))=tm (β:=R) (NR w75 o8) fun r=>(.normal,[(.int .u8 o8),o9,(.ptr 1 0),(.ptr 2 0),r],([.cells [o10],.cells [o0,o1,o2,o3,o4,o5,o6,o7],.cells [zO,zO,zO,zO,zO,zO,zO,false]]:kO)):=by
 cases w75 <;> simp [-rZ,-oZ,-oJ,-p5,-pV,-qX,-qY,RO,NR,anT]
def RN (K:kT) (m:Nat) (t72:kN) (a1:kN) (a2:kN) (aH:kN) (aI:kN) (aG:kO):Option R :=
 kV t72 (kZ m .normal [a1,a2,aH,aI,t72] aG) (bo .eql a1 (.int .u8 121) fun t74=>(RO K (aa5 aG) t74 a1 a2 aH aI aG).bind fun aA=>(fun aC aD aE aF aB aJ=>Ex.pR aA.1 (kZ m .normal [aC,aD,aE,aF,aB] aJ)) (gd aA.2.1 0) (gd aA.2.1 1) (gd aA.2.1 2) (gd aA.2.1 3) (gd aA.2.1 4) aA.2.2)
def NQ (aA:Bool) (o8:Int):Option (Bool) :=
 tc aA (some aA) (tb (NR (decide (o8=121)) o8) fun aB=>some aB)
theorem anR (w73:Bool) (o8:Int) (o9:Int) (o10:Int) (o0:Int) (o1:Int) (o2:Int) (o3:Int) (o4:Int) (o5:Int) (o6:Int) (o7:Bool):(RN KK 3 w73 (.int .u8 o8) o9 (.ptr 1 0) (.ptr 2 0) ([.cells [o10],.cells [o0,o1,o2,o3,o4,o5,o6,o7],.cells [zO,zO,zO,zO,zO,zO,zO,false]]:kO))=tm (β:=R) (NQ w73 o8) fun r=>(.normal,[(.int .u8 o8),o9,(.ptr 1 0),(.ptr 2 0),r],([.cells [o10],.cells [o0,o1,o2,o3,o4,o5,o6,o7],.cells [zO,zO,zO,zO,zO,zO,zO,false]]:kO)):=by
 cases w73 <;> simp [-rZ,-oZ,-oJ,-p5,-pV,-qX,-qY,RN,NQ,anS]
def RQ (K:kT) (m:Nat) (aC:kN) (aA:kN) (aB:kN) (aF:kO) (aD:kN) (aE:kN):Option R :=
 kV aC (kZ m .normal [aA,aB] aF) (fa 5 aA fun t100=>ld false 1 aF t100 fun t101=>bo .sub aD (.int .u8 65) fun t102=>(mC .i64 t102).bind fun t103=>ca (K 93 [(kN.kP t103)] (oR (lA [0] [t100]) aF)) fun t104 aG=>bo .mul aE t104 fun t107=>bo .add t101 t107 fun t108=>fa 5 aA fun t109=>(kR 1 (lO (lA [0] [t100]) aF aG) t109 t108).bind fun aH=>kZ m .normal [aA,aB] aH)
def NT (wV:Bool) (o0:Int) (o1:Int) (o2:Int) (o3:Int) (o4:Int) (o5:Int) (o6:Int) (o7:Bool) (o8:Int) (o9:Int):Option (lL) :=
 tc wV (some (⟨o0,o1,o2,o3,o4,o5,o6,o7⟩:lL)) (tb ((t93 (IntKind.wrap .i64 (IntKind.wrap .u8 (o8-65))))) fun Gm=>some (⟨o0,o1,o2,o3,o4,(IntKind.wrap .i64 (o5+(IntKind.wrap .i64 (o9*Gm)))),o6,o7⟩:lL))
theorem anU (wV:Bool) (o10:Int) (o0:Int) (o1:Int) (o2:Int) (o3:Int) (o4:Int) (o5:Int) (o6:Int) (o7:Bool) (o8:Int) (o9:Int):(RQ KK 3 wV (.ptr 1 0) (.ptr 2 0) ([.cells [o10],.cells [o0,o1,o2,o3,o4,o5,o6,o7],.cells [zO,zO,zO,zO,zO,zO,zO,false]]:kO) (.int .u8 o8) o9)=tm (β:=R) (NT wV o0 o1 o2 o3 o4 o5 o6 o7 o8 o9) fun r=>(.normal,[(.ptr 1 0),(.ptr 2 0)],([.cells [o10],.cells [r.op,r.rd,r.rn,r.rm,r.ra,r.imm,r.cond,r.wide],.cells [zO,zO,zO,zO,zO,zO,zO,false]]:kO)):=by
 cases wV <;> simp [-rZ,-oZ,-oJ,-p5,-pV,-qX,-qY,RQ,NT,wV]
def RM (K:kT) (m:Nat) (t64:kN) (a3:kN) (aI:kO) (a2:kN) (aL:kN) (aM:kN) (a1:kN):Option R :=
 kV t64 ((lM a3).bind fun t66=>ld false 1 aI t66 fun t67=>bo .mul (2:Int) t67 fun t68=>bo .add t68 a2 fun aO=>(lM a3).bind fun aP=>(kR 1 aI aP aO).bind fun aN=>kZ m .normal [aL,aM] aN) (bo .eql a1 (.int .u8 120) fun t72=>(RN K (aa5 aI) t72 a1 a2 aL aM aI).bind fun wV=>(fun aE aF aG aH aC aK=>Ex.pR wV.1 ((RQ K (aa5 aK) aC aG aH aK aE aF).bind fun aA=>(fun aB aD aJ=>Ex.pR aA.1 (kZ m .normal [aB,aD] aJ)) (gd aA.2.1 0) (gd aA.2.1 1) aA.2.2)) (gd wV.2.1 0) (gd wV.2.1 1) (gd wV.2.1 2) (gd wV.2.1 3) (gd wV.2.1 4) wV.2.2)
def NP (aC:Bool) (aB:Int) (o0:Int) (o1:Int) (o2:Int) (o3:Int) (o4:Int) (o5:Int) (o6:Int) (o7:Bool) (o9:Int) (o8:Int):Option (Int×lL) :=
 tc aC (some ((IntKind.wrap .i64 ((IntKind.wrap .i64 (2*aB))+o9)),(⟨o0,o1,o2,o3,o4,o5,o6,o7⟩:lL))) (tb (NQ (decide (o8=120)) o8) fun wV=>tb (NT wV o0 o1 o2 o3 o4 o5 o6 o7 o8 o9) fun aA=>some (aB,aA))
theorem anQ (w65:Bool) (o10:Int) (o0:Int) (o1:Int) (o2:Int) (o3:Int) (o4:Int) (o5:Int) (o6:Int) (o7:Bool) (o9:Int) (o8:Int):(RM KK 3 w65 (.ptr 0 0) ([.cells [o10],.cells [o0,o1,o2,o3,o4,o5,o6,o7],.cells [zO,zO,zO,zO,zO,zO,zO,false]]:kO) o9 (.ptr 1 0) (.ptr 2 0) (.int .u8 o8))=tm (β:=R) (NP w65 o10 o0 o1 o2 o3 o4 o5 o6 o7 o9 o8) fun r=>(.normal,[(.ptr 1 0),(.ptr 2 0)],([.cells [r.1],.cells [r.2.op,r.2.rd,r.2.rn,r.2.rm,r.2.ra,r.2.imm,r.2.cond,r.2.wide],.cells [zO,zO,zO,zO,zO,zO,zO,false]]:kO)):=by
 cases w65 <;> simp [-rZ,-oZ,-oJ,-p5,-pV,-qX,-qY,RM,NP,anR,anU]
def RL (K:kT) (m:Nat) (aH:kN) (aD:kN) (aC:kO) (a2:kN) (aF:kN) (a1:kN) (a3:kN):Option R :=
 kV aH (fa 6 aD fun aI=>ld false 1 aC aI fun aJ=>bo .mul (2:Int) aJ fun aK=>bo .add aK a2 fun aL=>fa 6 aD fun t62=>(kR 1 aC t62 aL).bind fun aG=>kZ m .normal [aD,aF] aG) (bo .eql a1 (.int .u8 119) fun t64=>(RM K (aa5 aC) t64 a3 aC a2 aD aF a1).bind fun zH=>(fun aA aB aE=>Ex.pR zH.1 (kZ m .normal [aA,aB] aE)) (gd zH.2.1 0) (gd zH.2.1 1) zH.2.2)
def NO (aB:Bool) (aA:Int) (o0:Int) (o1:Int) (o2:Int) (o3:Int) (o4:Int) (o5:Int) (o6:Int) (o7:Bool) (o9:Int) (o8:Int):Option (Int×lL) :=
 tc aB (some (aA,(⟨o0,o1,o2,o3,o4,o5,(IntKind.wrap .i64 ((IntKind.wrap .i64 (2*o6))+o9)),o7⟩:lL))) (tb (NP (decide (o8=119)) aA o0 o1 o2 o3 o4 o5 o6 o7 o9 o8) fun zH=>some (zH.1,zH.2))
theorem anP (w57:Bool) (o10:Int) (o0:Int) (o1:Int) (o2:Int) (o3:Int) (o4:Int) (o5:Int) (o6:Int) (o7:Bool) (o9:Int) (o8:Int):(RL KK 3 w57 (.ptr 1 0) ([.cells [o10],.cells [o0,o1,o2,o3,o4,o5,o6,o7],.cells [zO,zO,zO,zO,zO,zO,zO,false]]:kO) o9 (.ptr 2 0) (.int .u8 o8) (.ptr 0 0))=tm (β:=R) (NO w57 o10 o0 o1 o2 o3 o4 o5 o6 o7 o9 o8) fun r=>(.normal,[(.ptr 1 0),(.ptr 2 0)],([.cells [r.1],.cells [r.2.op,r.2.rd,r.2.rn,r.2.rm,r.2.ra,r.2.imm,r.2.cond,r.2.wide],.cells [zO,zO,zO,zO,zO,zO,zO,false]]:kO)):=by
 cases w57 <;> simp [-rZ,-oZ,-oJ,-p5,-pV,-qX,-qY,RL,NO,anQ]
def RK (K:kT) (m:Nat) (t48:kN) (aE:kN) (aD:kO) (a2:kN) (aG:kN) (a1:kN) (a3:kN):Option R :=
 kV t48 (fa 4 aE fun aI=>ld false 1 aD aI fun aJ=>bo .mul (2:Int) aJ fun t52=>bo .add t52 a2 fun t53=>fa 4 aE fun t54=>(kR 1 aD t54 t53).bind fun aH=>kZ m .normal [aE,aG] aH) (bo .eql a1 (.int .u8 99) fun aK=>(RL K (aa5 aD) aK aE aD a2 aG a1 a3).bind fun aA=>(fun aB aC aF=>Ex.pR aA.1 (kZ m .normal [aB,aC] aF)) (gd aA.2.1 0) (gd aA.2.1 1) aA.2.2)
def NN (aC:Bool) (aB:Int) (o0:Int) (o1:Int) (o2:Int) (o3:Int) (o4:Int) (o5:Int) (o6:Int) (o7:Bool) (o9:Int) (o8:Int):Option (Int×lL) :=
 tc aC (some (aB,(⟨o0,o1,o2,o3,(IntKind.wrap .i64 ((IntKind.wrap .i64 (2*o4))+o9)),o5,o6,o7⟩:lL))) (tb (NO (decide (o8=99)) aB o0 o1 o2 o3 o4 o5 o6 o7 o9 o8) fun aA=>some (aA.1,aA.2))
theorem anO (w49:Bool) (o10:Int) (o0:Int) (o1:Int) (o2:Int) (o3:Int) (o4:Int) (o5:Int) (o6:Int) (o7:Bool) (o9:Int) (o8:Int):(RK KK 3 w49 (.ptr 1 0) ([.cells [o10],.cells [o0,o1,o2,o3,o4,o5,o6,o7],.cells [zO,zO,zO,zO,zO,zO,zO,false]]:kO) o9 (.ptr 2 0) (.int .u8 o8) (.ptr 0 0))=tm (β:=R) (NN w49 o10 o0 o1 o2 o3 o4 o5 o6 o7 o9 o8) fun r=>(.normal,[(.ptr 1 0),(.ptr 2 0)],([.cells [r.1],.cells [r.2.op,r.2.rd,r.2.rn,r.2.rm,r.2.ra,r.2.imm,r.2.cond,r.2.wide],.cells [zO,zO,zO,zO,zO,zO,zO,false]]:kO)):=by
 cases w49 <;> simp [-rZ,-oZ,-oJ,-p5,-pV,-qX,-qY,RK,NN,anP]
def RJ (K:kT) (m:Nat) (aH:kN) (aD:kN) (aC:kO) (a2:kN) (aF:kN) (a1:kN) (a3:kN):Option R :=
 kV aH (fa 3 aD fun t42=>ld false 1 aC t42 fun aI=>bo .mul (2:Int) aI fun aJ=>bo .add aJ a2 fun t45=>fa 3 aD fun t46=>(kR 1 aC t46 t45).bind fun aG=>kZ m .normal [aD,aF] aG) (bo .eql a1 (.int .u8 97) fun t48=>(RK K (aa5 aC) t48 aD aC a2 aF a1 a3).bind fun zI=>(fun aA aB aE=>Ex.pR zI.1 (kZ m .normal [aA,aB] aE)) (gd zI.2.1 0) (gd zI.2.1 1) zI.2.2)
def NM (aB:Bool) (aA:Int) (o0:Int) (o1:Int) (o2:Int) (o3:Int) (o4:Int) (o5:Int) (o6:Int) (o7:Bool) (o9:Int) (o8:Int):Option (Int×lL) :=
 tc aB (some (aA,(⟨o0,o1,o2,(IntKind.wrap .i64 ((IntKind.wrap .i64 (2*o3))+o9)),o4,o5,o6,o7⟩:lL))) (tb (NN (decide (o8=97)) aA o0 o1 o2 o3 o4 o5 o6 o7 o9 o8) fun zI=>some (zI.1,zI.2))
theorem anN (w41:Bool) (o10:Int) (o0:Int) (o1:Int) (o2:Int) (o3:Int) (o4:Int) (o5:Int) (o6:Int) (o7:Bool) (o9:Int) (o8:Int):(RJ KK 3 w41 (.ptr 1 0) ([.cells [o10],.cells [o0,o1,o2,o3,o4,o5,o6,o7],.cells [zO,zO,zO,zO,zO,zO,zO,false]]:kO) o9 (.ptr 2 0) (.int .u8 o8) (.ptr 0 0))=tm (β:=R) (NM w41 o10 o0 o1 o2 o3 o4 o5 o6 o7 o9 o8) fun r=>(.normal,[(.ptr 1 0),(.ptr 2 0)],([.cells [r.1],.cells [r.2.op,r.2.rd,r.2.rn,r.2.rm,r.2.ra,r.2.imm,r.2.cond,r.2.wide],.cells [zO,zO,zO,zO,zO,zO,zO,false]]:kO)):=by
 cases w41 <;> simp [-rZ,-oZ,-oJ,-p5,-pV,-qX,-qY,RJ,NM,anO]
def RI (K:kT) (m:Nat) (t32:kN) (aE:kN) (aD:kO) (a2:kN) (aG:kN) (a1:kN) (a3:kN):Option R :=
 kV t32 (fa 2 aE fun aI=>ld false 1 aD aI fun t35=>bo .mul (2:Int) t35 fun t36=>bo .add t36 a2 fun aJ=>fa 2 aE fun t38=>(kR 1 aD t38 aJ).bind fun aH=>kZ m .normal [aE,aG] aH) (bo .eql a1 (.int .u8 109) fun aK=>(RJ K (aa5 aD) aK aE aD a2 aG a1 a3).bind fun aA=>(fun aB aC aF=>Ex.pR aA.1 (kZ m .normal [aB,aC] aF)) (gd aA.2.1 0) (gd aA.2.1 1) aA.2.2)
def NL (aC:Bool) (aB:Int) (o0:Int) (o1:Int) (o2:Int) (o3:Int) (o4:Int) (o5:Int) (o6:Int) (o7:Bool) (o9:Int) (o8:Int):Option (Int×lL) :=
 tc aC (some (aB,(⟨o0,o1,(IntKind.wrap .i64 ((IntKind.wrap .i64 (2*o2))+o9)),o3,o4,o5,o6,o7⟩:lL))) (tb (NM (decide (o8=109)) aB o0 o1 o2 o3 o4 o5 o6 o7 o9 o8) fun aA=>some (aA.1,aA.2))
theorem anM (w33:Bool) (o10:Int) (o0:Int) (o1:Int) (o2:Int) (o3:Int) (o4:Int) (o5:Int) (o6:Int) (o7:Bool) (o9:Int) (o8:Int):(RI KK 3 w33 (.ptr 1 0) ([.cells [o10],.cells [o0,o1,o2,o3,o4,o5,o6,o7],.cells [zO,zO,zO,zO,zO,zO,zO,false]]:kO) o9 (.ptr 2 0) (.int .u8 o8) (.ptr 0 0))=tm (β:=R) (NL w33 o10 o0 o1 o2 o3 o4 o5 o6 o7 o9 o8) fun r=>(.normal,[(.ptr 1 0),(.ptr 2 0)],([.cells [r.1],.cells [r.2.op,r.2.rd,r.2.rn,r.2.rm,r.2.ra,r.2.imm,r.2.cond,r.2.wide],.cells [zO,zO,zO,zO,zO,zO,zO,false]]:kO)):=by
 cases w33 <;> simp [-rZ,-oZ,-oJ,-p5,-pV,-qX,-qY,RI,NL,anN]
def RH (K:kT) (m:Nat) (t24:kN) (aD:kN) (aC:kO) (a2:kN) (aF:kN) (a1:kN) (a3:kN):Option R :=
 kV t24 (fa 1 aD fun aH=>ld false 1 aC aH fun t27=>bo .mul (2:Int) t27 fun aI=>bo .add aI a2 fun t29=>fa 1 aD fun aJ=>(kR 1 aC aJ t29).bind fun aG=>kZ m .normal [aD,aF] aG) (bo .eql a1 (.int .u8 110) fun t32=>(RI K (aa5 aC) t32 aD aC a2 aF a1 a3).bind fun xA=>(fun aA aB aE=>Ex.pR xA.1 (kZ m .normal [aA,aB] aE)) (gd xA.2.1 0) (gd xA.2.1 1) xA.2.2)
def NK (aB:Bool) (aA:Int) (o0:Int) (o1:Int) (o2:Int) (o3:Int) (o4:Int) (o5:Int) (o6:Int) (o7:Bool) (o9:Int) (o8:Int):Option (Int×lL) :=
 tc aB (some (aA,(⟨o0,(IntKind.wrap .i64 ((IntKind.wrap .i64 (2*o1))+o9)),o2,o3,o4,o5,o6,o7⟩:lL))) (tb (NL (decide (o8=110)) aA o0 o1 o2 o3 o4 o5 o6 o7 o9 o8) fun xA=>some (xA.1,xA.2))
theorem anL (w25:Bool) (o10:Int) (o0:Int) (o1:Int) (o2:Int) (o3:Int) (o4:Int) (o5:Int) (o6:Int) (o7:Bool) (o9:Int) (o8:Int):(RH KK 3 w25 (.ptr 1 0) ([.cells [o10],.cells [o0,o1,o2,o3,o4,o5,o6,o7],.cells [zO,zO,zO,zO,zO,zO,zO,false]]:kO) o9 (.ptr 2 0) (.int .u8 o8) (.ptr 0 0))=tm (β:=R) (NK w25 o10 o0 o1 o2 o3 o4 o5 o6 o7 o9 o8) fun r=>(.normal,[(.ptr 1 0),(.ptr 2 0)],([.cells [r.1],.cells [r.2.op,r.2.rd,r.2.rn,r.2.rm,r.2.ra,r.2.imm,r.2.cond,r.2.wide],.cells [zO,zO,zO,zO,zO,zO,zO,false]]:kO)):=by
 cases w25 <;> simp [-rZ,-oZ,-oJ,-p5,-pV,-qX,-qY,RH,NK,anM]
def m91 (K:kT) (a0 a1 a2 a3:kN) (h0:kO):Option (mR×kO) :=
 (kW (lR 8 h0 a0) fun aH aG=>kW (lR 8 aG (.agg [zO,zO,zO,zO,zO,zO,zO,false])) fun aI aF=>bo .eql a1 (.int .u8 100) fun t24=>(RH K (aa5 aF) t24 aH aF a2 aI a1 a3).bind fun aB=>(fun aC aA aD=>Ex.pR aB.1 (ld true 8 aD aC fun t139=>(kR 8 aD aA t139).bind fun aE=>some (.ret,[aA],aE))) (gd aB.2.1 0) (gd aB.2.1 1) aB.2.2).bind (ae3 (aa5 h0))
theorem alI K a0 a1 a2 a3 h0:nN K 91 [a0,a1,a2,a3] h0=m91 (lG mJ K) a0 a1 a2 a3 h0:=by kernel_rfl
def t91 (o0:Int) (o1:Int) (o2:Int) (o3:Int) (o4:Int) (o5:Int) (o6:Int) (o7:Bool) (o8:Int) (o9:Int) (aB:Int):Option (lL×Int) :=
 tb (NK (decide (o8=100)) aB o0 o1 o2 o3 o4 o5 o6 o7 o9 o8) fun aA=>some (aA.2,aA.1)
theorem b91 (o0:Int) (o1:Int) (o2:Int) (o3:Int) (o4:Int) (o5:Int) (o6:Int) (o7:Bool) (o8:Int) (o9:Int) (o10:Int):m91 KK (.agg [o0,o1,o2,o3,o4,o5,o6,o7]) (.int .u8 o8) o9 (.ptr 0 0) ([.cells [o10]]:kO)=tm (t91 o0 o1 o2 o3 o4 o5 o6 o7 o8 o9 o10) fun r=>(.ret (.agg [r.1.op,r.1.rd,r.1.rn,r.1.rm,r.1.ra,r.1.imm,r.1.cond,r.1.wide]),([.cells [r.2]]:kO)):=by
 simp [-rZ,-oZ,-oJ,-p5,-pV,-qX,-qY,m91,t91,anL,ae3]
def TD (mm:Nat) (aA:R):Option (mR×kO) :=
 (fun aB aC aD=>Ex.oH aA.1 ((kY true 8 aD aB).bind fun aE=>oM mm (.tuple [aE,aC]) aD)) (gd aA.2.1 0) (gd aA.2.1 1) aA.2.2
def Q8 (K:kT) (m:Nat) (aN:kN) (aE:kN) (aF:kN) (aG:kN) (aH:kN) (aI:kN) (aJ:kN) (aK:kN) (aA:kN) (aB:kN) (aC:kN) (t67:kN) (aD:kN) (aM:kO) (aL:kN):Option R :=
 kV aN (kZ m .normal [aE,aF,aG,aH,aI,aJ,aK,aA,aB,aC,t67,aD,t67] aM) (kZ m .normal [aE,aF,aG,aH,aI,aJ,aK,aA,aB,aC,aL,aD,t67] aM)
def NJ (aA:Bool) (aC:Int) (aB:Int):Option (Int) :=
 tc aA (some aC) (some aB)
theorem am9 (w135:Bool) (p0:Int) (p1:Bool) (p2:(List UInt8)) (pY:(List UInt8)) (w86:Int) (w87:Int) (w90:Int) (w89:Int) (w94:Int) (w95:Int) (w96:Int) (w97:Int) (w98:Int) (w99:Int) (w100:Int) (w101:Bool) (w102:Int) (w88:Int):(Q8 KK 3 w135 p0 p1 p2 (.ptr 0 0) false pY (.ptr 1 0) (.ptr 2 0) w86 w87 w90 w89 ([.cells [zO,zO,zO,zO,zO,zO,zO,false],.cells [w94,w95,w96,w97,w98,w99,w100,w101],.cells [w102]]:kO) w88)=tm (β:=R) (NJ w135 w90 w88) fun r=>(.normal,[p0,p1,p2,(.ptr 0 0),false,pY,(.ptr 1 0),(.ptr 2 0),w86,w87,r,w89,w90],([.cells [zO,zO,zO,zO,zO,zO,zO,false],.cells [w94,w95,w96,w97,w98,w99,w100,w101],.cells [w102]]:kO)):=by
 cases w135 <;> simp [-rZ,-oZ,-oJ,-p5,-pV,-qX,-qY,Q8,NJ]
def Q7 (K:kT) (m:Nat) (t132:kN) (aK:kN) (aL:kN) (aM:kN) (aN:kN) (aO:kN) (aP:kN) (aQ:kN) (aA:kN) (aB:kN) (t67:kN) (aC:kN) (aD:kN) (aR:kO) (t128:kN) (aT:kN):Option R :=
 kV t132 (kZ m .normal [aK,aL,aM,aN,aO,aP,aQ,aA,aB,t67,aC,aD,t67] aR) (bo .eql t128 (.int .u8 89) fun bA=>(Q8 K (aa5 aR) bA aK aL aM aN aO aP aQ aA aB aT t67 aD aR aC).bind fun Ax=>(fun aS aU aV aW aX aY aZ aE aF aG aH aI aJ a_=>Ex.pR Ax.1 (kZ m .normal [aS,aU,aV,aW,aX,aY,aZ,aE,aF,aG,aH,aI,aJ] a_)) (gd Ax.2.1 0) (gd Ax.2.1 1) (gd Ax.2.1 2) (gd Ax.2.1 3) (gd Ax.2.1 4) (gd Ax.2.1 5) (gd Ax.2.1 6) (gd Ax.2.1 7) (gd Ax.2.1 8) (gd Ax.2.1 9) (gd Ax.2.1 10) (gd Ax.2.1 11) (gd Ax.2.1 12) Ax.2.2)
def NI (aB:Bool) (aD:Int) (aC:Int) (aA:Int) (aE:Int):Option (Int×Int) :=
 tc aB (some (aD,aC)) (tb (NJ (decide (aA=89)) aD aC) fun Ax=>some (aE,Ax))
theorem am8 (w133:Bool) (p0:Int) (p1:Bool) (p2:(List UInt8)) (pY:(List UInt8)) (w86:Int) (w90:Int) (w88:Int) (w89:Int) (w94:Int) (w95:Int) (w96:Int) (w97:Int) (w98:Int) (w99:Int) (w100:Int) (w101:Bool) (w102:Int) (n129:Int) (w87:Int):(Q7 KK 3 w133 p0 p1 p2 (.ptr 0 0) false pY (.ptr 1 0) (.ptr 2 0) w86 w90 w88 w89 ([.cells [zO,zO,zO,zO,zO,zO,zO,false],.cells [w94,w95,w96,w97,w98,w99,w100,w101],.cells [w102]]:kO) (.int .u8 n129) w87)=tm (β:=R) (NI w133 w90 w88 n129 w87) fun r=>(.normal,[p0,p1,p2,(.ptr 0 0),false,pY,(.ptr 1 0),(.ptr 2 0),w86,r.1,r.2,w89,w90],([.cells [zO,zO,zO,zO,zO,zO,zO,false],.cells [w94,w95,w96,w97,w98,w99,w100,w101],.cells [w102]]:kO)):=by
 cases w133 <;> simp [-rZ,-oZ,-oJ,-p5,-pV,-qX,-qY,Q7,NI,am9]
def Q6 (K:kT) (m:Nat) (t130:kN) (aK:kN) (aL:kN) (aM:kN) (aN:kN) (aO:kN) (aP:kN) (aQ:kN) (aA:kN) (t67:kN) (aB:kN) (aC:kN) (aD:kN) (aR:kO) (t128:kN) (aT:kN):Option R :=
 kV t130 (kZ m .normal [aK,aL,aM,aN,aO,aP,aQ,aA,t67,aB,aC,aD,t67] aR) (bo .eql t128 (.int .u8 121) fun t132=>(Q7 K (aa5 aR) t132 aK aL aM aN aO aP aQ aA aT t67 aC aD aR t128 aB).bind fun wU=>(fun aS aU aV aW aX aY aZ aE aF aG aH aI aJ a_=>Ex.pR wU.1 (kZ m .normal [aS,aU,aV,aW,aX,aY,aZ,aE,aF,aG,aH,aI,aJ] a_)) (gd wU.2.1 0) (gd wU.2.1 1) (gd wU.2.1 2) (gd wU.2.1 3) (gd wU.2.1 4) (gd wU.2.1 5) (gd wU.2.1 6) (gd wU.2.1 7) (gd wU.2.1 8) (gd wU.2.1 9) (gd wU.2.1 10) (gd wU.2.1 11) (gd wU.2.1 12) wU.2.2)
def NH (aB:Bool) (aE:Int) (aC:Int) (aD:Int) (aA:Int) (aF:Int):Option (Int×Int×Int) :=
 tc aB (some (aE,aC,aD)) (tb (NI (decide (aA=121)) aE aD aA aC) fun wU=>some (aF,wU.1,wU.2))
theorem SJ (w131:Bool) (p0:Int) (p1:Bool) (p2:(List UInt8)) (pY:(List UInt8)) (w90:Int) (w87:Int) (w88:Int) (w89:Int) (w94:Int) (w95:Int) (w96:Int) (w97:Int) (w98:Int) (w99:Int) (w100:Int) (w101:Bool) (w102:Int) (n129:Int) (w86:Int):(Q6 KK 3 w131 p0 p1 p2 (.ptr 0 0) false pY (.ptr 1 0) (.ptr 2 0) w90 w87 w88 w89 ([.cells [zO,zO,zO,zO,zO,zO,zO,false],.cells [w94,w95,w96,w97,w98,w99,w100,w101],.cells [w102]]:kO) (.int .u8 n129) w86)=tm (β:=R) (NH w131 w90 w87 w88 n129 w86) fun r=>(.normal,[p0,p1,p2,(.ptr 0 0),false,pY,(.ptr 1 0),(.ptr 2 0),r.1,r.2.1,r.2.2,w89,w90],([.cells [zO,zO,zO,zO,zO,zO,zO,false],.cells [w94,w95,w96,w97,w98,w99,w100,w101],.cells [w102]]:kO)):=by
 cases w131 <;> simp [-rZ,-oZ,-oJ,-p5,-pV,-qX,-qY,Q6,NH,am8]
theorem VZ (w94:Int) (w95:Int) (w96:Int) (w97:Int) (w98:Int) (w99:Int) (w100:Int) (w101:Bool) (n183:Int) (w90:Int) (w102:Int):KK 91 [(.agg [w94,w95,w96,w97,w98,w99,w100,w101]),(.int .u8 n183),w90,(.ptr 2 0)] ([.cells [zO,zO,zO,zO,zO,zO,zO,false],.cells [w94,w95,w96,w97,w98,w99,w100,w101],.cells [w102]]:kO)=tm (t91 w94 w95 w96 w97 w98 w99 w100 w101 n183 w90 w102) fun r=>(.ret (.agg [r.1.op,r.1.rd,r.1.rn,r.1.rm,r.1.ra,r.1.imm,r.1.cond,r.1.wide]),([.cells [zO,zO,zO,zO,zO,zO,zO,false],.cells [w94,w95,w96,w97,w98,w99,w100,w101],.cells [r.2]]:kO)):=by
 refine Ky (ids:=[2]) rfl rfl ?_ ?_ rfl ?_ (alI ..) (b91 w94 w95 w96 w97 w98 w99 w100 w101 n183 w90 w102) fun r=>?_
 all_goals simp
def Re (K:kT) (m:Nat) (t122:kN) (aU:kO) (aJ:kN) (aQ:kN) (aR:kN) (aS:kN) (aL:kN) (aT:kN) (aF:kN) (aG:kN) (aH:kN) (aI:kN) (aB:kN) (bA:kN) (t67:kN):Option R :=
 kV t122 ((lB [zO,zO,zO,zO,zO,zO,zO,false] [(0,1),(1,1),(2,1),(3,1),(4,1),(5,1),(6,1),(7,1)] []).bind fun t126=>(kR 8 aU aJ t126).bind fun bB=>kZ m .ret [aQ,aR,aS,aJ,false,aL,aT,aF,aG,aH,aI,aB] bB) ((mS aL aB).bind fun t128=>bo .eql t128 (.int .u8 120) fun t130=>(Q6 K (aa5 aU) t130 aQ aR aS aJ bA aL aT aF t67 aH aI aB aU t128 aG).bind fun aA=>(fun aV aW aX aY aZ aK aC aD aM aN aO aE aP a_=>Ex.pR aA.1 (ld true 8 a_ aC fun bF=>(mS aK aE).bind fun bG=>ca (K 91 [(kN.kP bF),(kN.kP bG),(kN.kP aP),(kN.kP aD)] a_) fun bH bD=>(kR 8 bD aC bH).bind fun bE=>bo .add aE (1:Int) fun bI=>kZ m .normal [aV,aW,aX,aY,aZ,aK,aC,aD,aM,aN,aO,bI] bE)) (gd aA.2.1 0) (gd aA.2.1 1) (gd aA.2.1 2) (gd aA.2.1 3) (gd aA.2.1 4) (gd aA.2.1 5) (gd aA.2.1 6) (gd aA.2.1 7) (gd aA.2.1 8) (gd aA.2.1 9) (gd aA.2.1 10) (gd aA.2.1 11) (gd aA.2.1 12) aA.2.2)
def IH (aI:Bool) (aN:Int) (aO:Int) (aP:Int) (aQ:Int) (aR:Int) (aS:Int) (aD:Int) (aE:Bool) (aF:Int) (pY:(List UInt8)) (aJ:Int) (aK:Int) (aL:Int) (aG:Int) (aM:Int):Option (Ey×Int×Int×Int×Int×lL×Int) :=
 tc aI (some (.r,(aJ,aK,aL,aG,(⟨aN,aO,aP,aQ,aR,aS,aD,aE⟩:lL),aF))) (tb ((uU pY aG)) fun aB=>tb (NH (decide (aB=120)) aM aK aL aB aJ) fun aA=>tb ((uU pY aG)) fun aH=>tb ((t91 aN aO aP aQ aR aS aD aE aH aM aF)) fun aC=>some (.n,(aA.1,aA.2.1,aA.2.2,(IntKind.wrap .i64 (aG+1)),aC.1,aC.2)))
theorem Xc (w125:Bool) (w94:Int) (w95:Int) (w96:Int) (w97:Int) (w98:Int) (w99:Int) (w100:Int) (w101:Bool) (w102:Int) (p0:Int) (p1:Bool) (p2:(List UInt8)) (pY:(List UInt8)) (w86:Int) (w87:Int) (w88:Int) (w89:Int) (w90:Int):(Re KK 3 w125 ([.cells [zO,zO,zO,zO,zO,zO,zO,false],.cells [w94,w95,w96,w97,w98,w99,w100,w101],.cells [w102]]:kO) (.ptr 0 0) p0 p1 p2 pY (.ptr 1 0) (.ptr 2 0) w86 w87 w88 w89 false w90)=tm (β:=R) (IH w125 w94 w95 w96 w97 w98 w99 w100 w101 w102 pY w86 w87 w88 w89 w90) fun r=>(r.1.ex,[p0,p1,p2,(.ptr 0 0),false,pY,(.ptr 1 0),(.ptr 2 0),r.2.1,r.2.2.1,r.2.2.2.1,r.2.2.2.2.1],([.cells [zO,zO,zO,zO,zO,zO,zO,false],.cells [r.2.2.2.2.2.1.op,r.2.2.2.2.2.1.rd,r.2.2.2.2.2.1.rn,r.2.2.2.2.2.1.rm,r.2.2.2.2.2.1.ra,r.2.2.2.2.2.1.imm,r.2.2.2.2.2.1.cond,r.2.2.2.2.2.1.wide],.cells [r.2.2.2.2.2.2]]:kO)):=by
 cases w125 <;> simp [-rZ,-oZ,-oJ,-p5,-pV,-qX,-qY,Re,IH,SJ,VZ]
def Ra (K:kT) (m:Nat) (aB:kN) (aD:kN) (aY:kO) (aA:kN) (aC:kN) (aQ:kN) (aO:kN) (aP:kN) (aS:kN) (aE:kN) (aF:kN) (aG:kN) (aH:kN) (aR:kN) (t67:kN):Option R :=
 gS true aB (lI aD aY) aY fun t103 aI=>gS true aB (lI aA aI) aI fun t105 aJ=>gS true aB ((mS t103 t105).bind fun t107=>lI t107 aJ) aJ fun t109 aK=>gS true aB (lI aC aK) aK fun aU aL=>gS true aB (lI aA aL) aL fun aV aM=>gS true aB ((mS aU aV).bind fun t115=>lI t115 aM) aM fun t117 aN=>gS true aB (bo .neq t109 t117 fun aW=>lI aW aN) aN fun aX aT=>(lH aB aX false).bind fun t122=>Re K m t122 aT aQ aO aP aC aD aS aE aF aG aH aA aR t67
def IG (aQ:Bool) (pY:(List UInt8)) (aK:Int) (aL:Int) (aM:Int) (aN:Int) (aO:Int) (aP:Int) (aA:Int) (aB:Bool) (aC:Int) (aD:Int) (p2:(List UInt8)) (aG:Int) (aH:Int) (aI:Int) (aJ:Int):Option (Ey×Int×Int×Int×Int×lL×Int) :=
 tc aQ (tb ((uU pY aD)) fun aE=>tb ((uU p2 aD)) fun aF=>IH (!decide (aE=aF)) aK aL aM aN aO aP aA aB aC pY aG aH aI aD aJ) (IH false aK aL aM aN aO aP aA aB aC pY aG aH aI aD aJ)
theorem anB (w85:Bool) (pY:(List UInt8)) (w94:Int) (w95:Int) (w96:Int) (w97:Int) (w98:Int) (w99:Int) (w100:Int) (w101:Bool) (w102:Int) (w89:Int) (p2:(List UInt8)) (p0:Int) (p1:Bool) (w86:Int) (w87:Int) (w88:Int) (w90:Int):(Ra KK 3 w85 pY ([.cells [zO,zO,zO,zO,zO,zO,zO,false],.cells [w94,w95,w96,w97,w98,w99,w100,w101],.cells [w102]]:kO) w89 p2 (.ptr 0 0) p0 p1 (.ptr 1 0) (.ptr 2 0) w86 w87 w88 false w90)=tm (β:=R) (IG w85 pY w94 w95 w96 w97 w98 w99 w100 w101 w102 w89 p2 w86 w87 w88 w90) fun r=>(r.1.ex,[p0,p1,p2,(.ptr 0 0),false,pY,(.ptr 1 0),(.ptr 2 0),r.2.1,r.2.2.1,r.2.2.2.1,r.2.2.2.2.1],([.cells [zO,zO,zO,zO,zO,zO,zO,false],.cells [r.2.2.2.2.2.1.op,r.2.2.2.2.2.1.rd,r.2.2.2.2.2.1.rn,r.2.2.2.2.2.1.rm,r.2.2.2.2.2.1.ra,r.2.2.2.2.2.1.imm,r.2.2.2.2.2.1.cond,r.2.2.2.2.2.1.wide],.cells [r.2.2.2.2.2.2]]:kO)):=by
 cases w85 <;> simp [-rZ,-oZ,-oJ,-p5,-pV,-qX,-qY,Ra,IG,SJ,VZ,Xc]
def Mm (K:kT) (m:Nat) (s:List kN×kO):Option R :=
 (fun aH aI aG aJ aK aB aL aC aD aE aF aA aN=>(nG aB).bind fun t62=>bo .lss aA t62 fun t63=>kV t63 ((mS aG aA).bind fun t64=>bo .sub t64 (.int .u8 48) fun t66=>(mC .i64 t66).bind fun t67=>(mS aB aA).bind fun t68=>bo .eql t68 (.int .u8 48) fun aM=>gS false aM (lI aB aN) aN fun t71 aO=>gS false aM (lI aA aO) aO fun t73 aP=>gS false aM ((mS t71 t73).bind fun t75=>lI t75 aP) aP fun t77 aQ=>gS false aM (bo .eql t77 (.int .u8 49) fun aS=>lI aS aQ) aQ fun t80 aR=>(lH aM true t80).bind fun aT=>Ra K m aT aB aR aA aG aJ aH aI aL aC aD aE aF aK t67) (kZ m (.exit 0) [aH,aI,aG,aJ,aK,aB,aL,aC,aD,aE,aF,aA] aN)) (gd s.1 0) (gd s.1 1) (gd s.1 2) (gd s.1 3) (gd s.1 4) (gd s.1 5) (gd s.1 6) (gd s.1 7) (gd s.1 8) (gd s.1 9) (gd s.1 10) (gd s.1 11) s.2
def AI (p2:(List UInt8)) (pY:(List UInt8)) (aA:Int×Int×Int×Int×lL×Int):Option (Ey×Int×Int×Int×Int×lL×Int) :=
 tc (decide (aA.2.2.2.1<((pY.length:Nat):Int))) (tb ((uU p2 aA.2.2.2.1)) fun aB=>tb ((uU pY aA.2.2.2.1)) fun aC=>tc (decide (aC=48)) (IG true pY aA.2.2.2.2.1.op aA.2.2.2.2.1.rd aA.2.2.2.2.1.rn aA.2.2.2.2.1.rm aA.2.2.2.2.1.ra aA.2.2.2.2.1.imm aA.2.2.2.2.1.cond aA.2.2.2.2.1.wide aA.2.2.2.2.2 aA.2.2.2.1 p2 aA.1 aA.2.1 aA.2.2.1 (IntKind.wrap .i64 (IntKind.wrap .u8 (aB-48)))) (tb ((uU pY aA.2.2.2.1)) fun aD=>IG (decide (aD=49)) pY aA.2.2.2.2.1.op aA.2.2.2.2.1.rd aA.2.2.2.2.1.rn aA.2.2.2.2.1.rm aA.2.2.2.2.1.ra aA.2.2.2.2.1.imm aA.2.2.2.2.1.cond aA.2.2.2.2.1.wide aA.2.2.2.2.2 aA.2.2.2.1 p2 aA.1 aA.2.1 aA.2.2.1 (IntKind.wrap .i64 (IntKind.wrap .u8 (aB-48))))) (some ((.x 0),(aA.1,aA.2.1,aA.2.2.1,aA.2.2.2.1,aA.2.2.2.2.1,aA.2.2.2.2.2)))
theorem ahA (p0:Int) (p1:Bool) (p2:(List UInt8)) (pY:(List UInt8)) (s48:Int×Int×Int×Int×lL×Int):Mm KK 3 ([p0,p1,p2,(.ptr 0 0),false,pY,(.ptr 1 0),(.ptr 2 0),s48.1,s48.2.1,s48.2.2.1,s48.2.2.2.1],([.cells [zO,zO,zO,zO,zO,zO,zO,false],.cells [s48.2.2.2.2.1.op,s48.2.2.2.2.1.rd,s48.2.2.2.2.1.rn,s48.2.2.2.2.1.rm,s48.2.2.2.2.1.ra,s48.2.2.2.2.1.imm,s48.2.2.2.2.1.cond,s48.2.2.2.2.1.wide],.cells [s48.2.2.2.2.2]]:kO))=tm (β:=R) (AI p2 pY s48) fun r=>(r.1.ex,[p0,p1,p2,(.ptr 0 0),false,pY,(.ptr 1 0),(.ptr 2 0),r.2.1,r.2.2.1,r.2.2.2.1,r.2.2.2.2.1],([.cells [zO,zO,zO,zO,zO,zO,zO,false],.cells [r.2.2.2.2.2.1.op,r.2.2.2.2.2.1.rd,r.2.2.2.2.2.1.rn,r.2.2.2.2.2.1.rm,r.2.2.2.2.2.1.ra,r.2.2.2.2.2.1.imm,r.2.2.2.2.2.1.cond,r.2.2.2.2.2.1.wide],.cells [r.2.2.2.2.2.2]]:kO)):=by
 simp +contextual [-rZ,-oZ,-oJ,-p5,-pV,-qX,-qY,Mm,AI,SJ,VZ,Xc,anB]
theorem Xb (p0:Int) (p1:Bool) (p2:(List UInt8)) (pY:(List UInt8)) (i5:Int) (i6:Int) (i7:Int) (i8:Int) (i11:Int):nP (Mm KK 3) ([p0,p1,p2,(.ptr 0 0),false,pY,(.ptr 1 0),(.ptr 2 0),i5,i6,i7,i8],([.cells [zO,zO,zO,zO,zO,zO,zO,false],.cells [p0,zO,zO,zO,zO,zO,zO,p1],.cells [i11]]:kO))=tm (β:=R) (rX (AI p2 pY) (i5,i6,i7,i8,(⟨p0,0,0,0,0,0,0,p1⟩:lL),i11)) fun r=>(r.1.ex,[p0,p1,p2,(.ptr 0 0),false,pY,(.ptr 1 0),(.ptr 2 0),r.2.1,r.2.2.1,r.2.2.2.1,r.2.2.2.2.1],([.cells [zO,zO,zO,zO,zO,zO,zO,false],.cells [r.2.2.2.2.2.1.op,r.2.2.2.2.2.1.rd,r.2.2.2.2.2.1.rn,r.2.2.2.2.2.1.rm,r.2.2.2.2.2.1.ra,r.2.2.2.2.2.1.imm,r.2.2.2.2.2.1.cond,r.2.2.2.2.2.1.wide],.cells [r.2.2.2.2.2.2]]:kO)):=by
 exact uE (enc:=fun s48=>([(.int .i64 p0),(.bool p1),(.str p2),(.ptr 0 0),(.bool false),(.str pY),(.ptr 1 0),(.ptr 2 0),(.int .i64 s48.1),(.int .i64 s48.2.1),(.int .i64 s48.2.2.1),(.int .i64 s48.2.2.2.1)],([.cells [(.int .i64 0),(.int .i64 0),(.int .i64 0),(.int .i64 0),(.int .i64 0),(.int .i64 0),(.int .i64 0),(.bool false)],.cells [(.int .i64 s48.2.2.2.2.1.op),(.int .i64 s48.2.2.2.2.1.rd),(.int .i64 s48.2.2.2.2.1.rn),(.int .i64 s48.2.2.2.2.1.rm),(.int .i64 s48.2.2.2.2.1.ra),(.int .i64 s48.2.2.2.2.1.imm),(.int .i64 s48.2.2.2.2.1.cond),(.bool s48.2.2.2.2.1.wide)],.cells [(.int .i64 s48.2.2.2.2.2)]]:kO))) (fun s48=>ahA p0 p1 p2 pY s48) (i5,i6,i7,i8,(⟨p0,0,0,0,0,0,0,p1⟩:lL),i11)
def Ml (K:kT) (m:Nat) (aG:kN) (aA:kN) (aD:kO) (aB:kN) (aC:kN):Option R :=
 kV aG (fa 5 aA fun aH=>ld false 1 aD aH fun aI=>ca (K 92 [(kN.kP aI),(kN.kP (8:Int))] aD) fun aJ aE=>fa 5 aA fun aK=>(kR 1 aE aK aJ).bind fun aF=>kZ m .normal [aB,aC,aA] aF) (kZ m .normal [aB,aC,aA] aD)
def nY (aJ:Bool) (aA:Int) (aB:Int) (aC:Int) (aD:Int) (aE:Int) (aF:Int) (aG:Int) (aH:Bool):Option (lL) :=
 tc aJ (tb ((t92 aF 8)) fun aI=>some (⟨aA,aB,aC,aD,aE,aI,aG,aH⟩:lL)) (some (⟨aA,aB,aC,aD,aE,aF,aG,aH⟩:lL))
theorem acL (w283:Bool) (w211:Int) (w212:Int) (w213:Int) (w214:Int) (w215:Int) (w216:Int) (w217:Int) (w218:Bool) (w219:Int):(Ml KK 3 w283 (.ptr 1 0) ([.cells [zO,zO,zO,zO,zO,zO,zO,false],.cells [w211,w212,w213,w214,w215,w216,w217,w218],.cells [w219]]:kO) (.ptr 0 0) false)=tm (β:=R) (nY w283 w211 w212 w213 w214 w215 w216 w217 w218) fun r=>(.normal,[(.ptr 0 0),false,(.ptr 1 0)],([.cells [zO,zO,zO,zO,zO,zO,zO,false],.cells [r.op,r.rd,r.rn,r.rm,r.ra,r.imm,r.cond,r.wide],.cells [w219]]:kO)):=by
 cases w283 <;> simp [-rZ,-oZ,-oJ,-p5,-pV,-qX,-qY,Ml,nY,Nd]
def Mk (K:kT) (m:Nat) (aM:kN) (aA:kN) (aE:kO) (aC:kN) (aD:kN) (aF:kN):Option R :=
 kV aM (fa 5 aA fun aN=>ld false 1 aE aN fun aO=>ca (K 92 [(kN.kP aO),(kN.kP (20:Int))] aE) fun aP aJ=>fa 5 aA fun aQ=>(kR 1 aJ aQ aP).bind fun aK=>kZ m .normal [aC,aD,aA] aK) (bo .eql aF (25:Int) fun aR=>(Ml K (aa5 aE) aR aA aE aC aD).bind fun aB=>(fun aG aH aI aL=>Ex.pR aB.1 (kZ m .normal [aG,aH,aI] aL)) (gd aB.2.1 0) (gd aB.2.1 1) (gd aB.2.1 2) aB.2.2)
def nX (aK:Bool) (aA:Int) (aB:Int) (aC:Int) (aD:Int) (aE:Int) (aF:Int) (aG:Int) (aH:Bool) (p0:Int):Option (lL) :=
 tc aK (tb ((t92 aF 20)) fun aI=>some (⟨aA,aB,aC,aD,aE,aI,aG,aH⟩:lL)) (tb (nY (decide (p0=25)) aA aB aC aD aE aF aG aH) fun aJ=>some aJ)
theorem TQ (w274:Bool) (w211:Int) (w212:Int) (w213:Int) (w214:Int) (w215:Int) (w216:Int) (w217:Int) (w218:Bool) (w219:Int) (p0:Int):(Mk KK 3 w274 (.ptr 1 0) ([.cells [zO,zO,zO,zO,zO,zO,zO,false],.cells [w211,w212,w213,w214,w215,w216,w217,w218],.cells [w219]]:kO) (.ptr 0 0) false p0)=tm (β:=R) (nX w274 w211 w212 w213 w214 w215 w216 w217 w218 p0) fun r=>(.normal,[(.ptr 0 0),false,(.ptr 1 0)],([.cells [zO,zO,zO,zO,zO,zO,zO,false],.cells [r.op,r.rd,r.rn,r.rm,r.ra,r.imm,r.cond,r.wide],.cells [w219]]:kO)):=by
 cases w274 <;> simp [-rZ,-oZ,-oJ,-p5,-pV,-qX,-qY,Mk,nX,Nd,acL]
def Mn (K:kT) (m:Nat) (aI:kO) (aK:kN) (aG:kN) (aC:kN) (aE:kN) (aB:kN):Option R :=
 (Mk K (aa5 aI) aK aG aI aC aE aB).bind fun aA=>(fun aD aF aH aJ=>Ex.pR aA.1 (kZ m .normal [aD,aF,aH] aJ)) (gd aA.2.1 0) (gd aA.2.1 1) (gd aA.2.1 2) aA.2.2
def nS (aB:Int) (aC:Int) (aD:Int) (aE:Int) (aF:Int) (aG:Int) (aH:Int) (aI:Bool) (aJ:Bool) (p0:Int):Option (lL) :=
 tb (nX aJ aB aC aD aE aF aG aH aI p0) fun aA=>some aA
theorem acM (w211:Int) (w212:Int) (w213:Int) (w214:Int) (w215:Int) (w216:Int) (w217:Int) (w218:Bool) (w219:Int) (w274:Bool) (p0:Int):(Mn KK 3 ([.cells [zO,zO,zO,zO,zO,zO,zO,false],.cells [w211,w212,w213,w214,w215,w216,w217,w218],.cells [w219]]:kO) w274 (.ptr 1 0) (.ptr 0 0) false p0)=tm (β:=R) (nS w211 w212 w213 w214 w215 w216 w217 w218 w274 p0) fun r=>(.normal,[(.ptr 0 0),false,(.ptr 1 0)],([.cells [zO,zO,zO,zO,zO,zO,zO,false],.cells [r.op,r.rd,r.rn,r.rm,r.ra,r.imm,r.cond,r.wide],.cells [w219]]:kO)):=by
 cases w218 <;> simp [-rZ,-oZ,-oJ,-p5,-pV,-qX,-qY,Mn,nS,Nd,TQ]
def Mj (K:kT) (m:Nat) (aK:kN) (aA:kN) (aE:kO) (aC:kN) (aD:kN) (aB:kN) (aF:kN):Option R :=
 kV aK (fa 5 aA fun aL=>ld false 1 aE aL fun aM=>ca (K 92 [(kN.kP aM),(kN.kP (11:Int))] aE) fun aN aH=>fa 5 aA fun aO=>(kR 1 aH aO aN).bind fun aI=>kZ m .normal [aC,aD,aA] aI) (bo .eql aB (25:Int) fun aG=>gS true aG (lI aF aE) aE fun aP aJ=>(lH aG aP false).bind fun aQ=>Mn K m aJ aQ aA aC aD aB)
def nW (aJ:Bool) (aA:Int) (aB:Int) (aC:Int) (aD:Int) (aE:Int) (aF:Int) (aG:Int) (aH:Bool) (p0:Int) (p1:Bool):Option (lL) :=
 tc aJ (tb ((t92 aF 11)) fun aI=>some (⟨aA,aB,aC,aD,aE,aI,aG,aH⟩:lL)) (tc (decide (p0=25)) (nS aA aB aC aD aE aF aG aH p1 p0) (nS aA aB aC aD aE aF aG aH false p0))
theorem acK (w260:Bool) (w211:Int) (w212:Int) (w213:Int) (w214:Int) (w215:Int) (w216:Int) (w217:Int) (w218:Bool) (w219:Int) (p0:Int) (p1:Bool):(Mj KK 3 w260 (.ptr 1 0) ([.cells [zO,zO,zO,zO,zO,zO,zO,false],.cells [w211,w212,w213,w214,w215,w216,w217,w218],.cells [w219]]:kO) (.ptr 0 0) false p0 p1)=tm (β:=R) (nW w260 w211 w212 w213 w214 w215 w216 w217 w218 p0 p1) fun r=>(.normal,[(.ptr 0 0),false,(.ptr 1 0)],([.cells [zO,zO,zO,zO,zO,zO,zO,false],.cells [r.op,r.rd,r.rn,r.rm,r.ra,r.imm,r.cond,r.wide],.cells [w219]]:kO)):=by
 cases w260 <;> simp +contextual [-rZ,-oZ,-oJ,-p5,-pV,-qX,-qY,Mj,nW,Nd,TQ,acM]
def Mi (K:kT) (m:Nat) (aT:kN) (aA:kN) (aC:kO) (aI:kN) (aB:kN) (aJ:kN) (aG:kN) (aH:kN) (aF:kN) (aK:kN):Option R :=
 kV aT (fa 5 aA fun aD=>ld false 1 aC aD fun aU=>bo .add aI aB fun aV=>bo .add aV (1:Int) fun aW=>bo .rem aW (2:Int) fun aX=>bo .add aJ aB fun aY=>bo .add aY (1:Int) fun aZ=>bo .rem aZ (2:Int) fun a_=>ca (K 93 [(kN.kP (23:Int))] (oR (lA [0] [aD]) aC)) fun bA aO=>bo .mul aX bA fun bB=>bo .add aU bB fun bD=>ca (K 93 [(kN.kP (22:Int))] (oR (lA [0] [aD]) (lO (lA [0] [aD]) aC aO))) fun bE aP=>bo .mul a_ bE fun bF=>bo .add bD bF fun bG=>ca (K 92 [(kN.kP bG),(kN.kP (24:Int))] (lO (lA [0] [aD]) (lO (lA [0] [aD]) aC aO) aP)) fun bH aQ=>fa 5 aA fun bI=>(kR 1 aQ bI bH).bind fun aR=>kZ m .normal [aG,aH,aA] aR) (bo .eql aF (24:Int) fun bJ=>(Mj K (aa5 aC) bJ aA aC aG aH aF aK).bind fun aE=>(fun aL aM aN aS=>Ex.pR aE.1 (kZ m .normal [aL,aM,aN] aS)) (gd aE.2.1 0) (gd aE.2.1 1) (gd aE.2.1 2) aE.2.2)
def nR (aR:Bool) (aB:Int) (aC:Int) (aD:Int) (aE:Int) (aF:Int) (aG:Int) (aH:Int) (aI:Bool) (aP:Int) (aA:Int) (aQ:Int) (p0:Int) (p1:Bool):Option (lL) :=
 tc aR (tb ((qA (IntKind.wrap .i64 ((IntKind.wrap .i64 (aP+aA))+1)) 2)) fun aJ=>tb ((qA (IntKind.wrap .i64 ((IntKind.wrap .i64 (aQ+aA))+1)) 2)) fun aK=>tb ((t93 23)) fun aL=>tb ((t93 22)) fun aM=>tb ((t92 (IntKind.wrap .i64 ((IntKind.wrap .i64 (aG+(IntKind.wrap .i64 (aJ*aL))))+(IntKind.wrap .i64 (aK*aM)))) 24)) fun aN=>some (⟨aB,aC,aD,aE,aF,aN,aH,aI⟩:lL)) (tb (nW (decide (p0=24)) aB aC aD aE aF aG aH aI p0 p1) fun aO=>some aO)
theorem TP (w233:Bool) (w211:Int) (w212:Int) (w213:Int) (w214:Int) (w215:Int) (w216:Int) (w217:Int) (w218:Bool) (w219:Int) (w206:Int) (w208:Int) (w207:Int) (p0:Int) (p1:Bool):(Mi KK 3 w233 (.ptr 1 0) ([.cells [zO,zO,zO,zO,zO,zO,zO,false],.cells [w211,w212,w213,w214,w215,w216,w217,w218],.cells [w219]]:kO) w206 w208 w207 (.ptr 0 0) false p0 p1)=tm (β:=R) (nR w233 w211 w212 w213 w214 w215 w216 w217 w218 w206 w208 w207 p0 p1) fun r=>(.normal,[(.ptr 0 0),false,(.ptr 1 0)],([.cells [zO,zO,zO,zO,zO,zO,zO,false],.cells [r.op,r.rd,r.rn,r.rm,r.ra,r.imm,r.cond,r.wide],.cells [w219]]:kO)):=by
 cases w233 <;> simp [-rZ,-oZ,-oJ,-p5,-pV,-qX,-qY,Mi,nR,wV,Nd,acK]
def Rf (K:kT) (m:Nat) (aM:kO) (aO:kN) (aK:kN) (aB:kN) (aD:kN) (aC:kN) (aG:kN) (aI:kN) (aE:kN) (aF:kN):Option R :=
 (Mi K (aa5 aM) aO aK aM aB aD aC aG aI aE aF).bind fun aA=>(fun aH aJ aL aN=>Ex.pR aA.1 (kZ m .normal [aH,aJ,aL] aN)) (gd aA.2.1 0) (gd aA.2.1 1) (gd aA.2.1 2) aA.2.2
def oX (aE:Int) (aF:Int) (aG:Int) (aH:Int) (aI:Int) (aJ:Int) (aK:Int) (aL:Bool) (aM:Bool) (aB:Int) (aD:Int) (aC:Int) (p0:Int) (p1:Bool):Option (lL) :=
 tb (nR aM aE aF aG aH aI aJ aK aL aB aD aC p0 p1) fun aA=>some aA
theorem anC (w211:Int) (w212:Int) (w213:Int) (w214:Int) (w215:Int) (w216:Int) (w217:Int) (w218:Bool) (w219:Int) (w233:Bool) (w206:Int) (w208:Int) (w207:Int) (p0:Int) (p1:Bool):(Rf KK 3 ([.cells [zO,zO,zO,zO,zO,zO,zO,false],.cells [w211,w212,w213,w214,w215,w216,w217,w218],.cells [w219]]:kO) w233 (.ptr 1 0) w206 w208 w207 (.ptr 0 0) false p0 p1)=tm (β:=R) (oX w211 w212 w213 w214 w215 w216 w217 w218 w233 w206 w208 w207 p0 p1) fun r=>(.normal,[(.ptr 0 0),false,(.ptr 1 0)],([.cells [zO,zO,zO,zO,zO,zO,zO,false],.cells [r.op,r.rd,r.rn,r.rm,r.ra,r.imm,r.cond,r.wide],.cells [w219]]:kO)):=by
 cases w218 <;> simp [-rZ,-oZ,-oJ,-p5,-pV,-qX,-qY,Rf,oX,TP]
def Q9 (K:kT) (m:Nat) (aN:kN) (aB:kO) (aG:kN) (aA:kN) (aE:kN) (aF:kN) (aC:kN) (aD:kN) (aH:kN) (aJ:kN) (aI:kN):Option R :=
 kV aN (ld false 1 aB aG fun aO=>bo .add aO (1:Int) fun aP=>fa 5 aA fun aQ=>ld false 1 aB aQ fun aR=>bo .sub aP aR fun aS=>fa 4 aA fun aT=>(kR 1 aB aT aS).bind fun aL=>kZ m .normal [aE,aF,aA] aL) (bo .eql aC (24:Int) fun aK=>gS true aK (lI aD aB) aB fun aU aM=>(lH aK aU false).bind fun aV=>Rf K m aM aV aA aH aJ aI aE aF aC aD)
def oS (aL:Bool) (aB:Int) (aC:Int) (aD:Int) (aE:Int) (aK:Int) (aA:Int) (aF:Int) (aG:Bool) (aM:Int) (p0:Int) (p1:Bool) (aH:Int) (aJ:Int) (aI:Int):Option (lL) :=
 tc aL (some (⟨aB,aC,aD,aE,(IntKind.wrap .i64 ((IntKind.wrap .i64 (aM+1))-aA)),aA,aF,aG⟩:lL)) (tc (decide (p0=24)) (oX aB aC aD aE aK aA aF aG p1 aH aJ aI p0 p1) (oX aB aC aD aE aK aA aF aG false aH aJ aI p0 p1))
theorem Xa (w210:Bool) (w211:Int) (w212:Int) (w213:Int) (w214:Int) (w215:Int) (w216:Int) (w217:Int) (w218:Bool) (w219:Int) (p0:Int) (p1:Bool) (w206:Int) (w208:Int) (w207:Int):(Q9 KK 3 w210 ([.cells [zO,zO,zO,zO,zO,zO,zO,false],.cells [w211,w212,w213,w214,w215,w216,w217,w218],.cells [w219]]:kO) (.ptr 2 0) (.ptr 1 0) (.ptr 0 0) false p0 p1 w206 w208 w207)=tm (β:=R) (oS w210 w211 w212 w213 w214 w215 w216 w217 w218 w219 p0 p1 w206 w208 w207) fun r=>(.normal,[(.ptr 0 0),false,(.ptr 1 0)],([.cells [zO,zO,zO,zO,zO,zO,zO,false],.cells [r.op,r.rd,r.rn,r.rm,r.ra,r.imm,r.cond,r.wide],.cells [w219]]:kO)):=by
 cases w210 <;> simp +contextual [-rZ,-oZ,-oJ,-p5,-pV,-qX,-qY,Q9,oS,TP,anC]
def Q_ (K:kT) (t33:kN) (bD:kO) (aU:kN) (a0:kN) (a1:kN) (a2:kN) (bJ:kN):Option R :=
 kV t33 ((lB [zO,zO,zO,zO,zO,zO,zO,false] [(0,1),(1,1),(2,1),(3,1),(4,1),(5,1),(6,1),(7,1)] []).bind fun bK=>(kR 8 bD aU bK).bind fun bF=>some (.ret,[aU,false],bF)) ((lB [zO,zO,zO,zO,zO,zO,zO,false] [(0,1),(1,1),(2,1),(3,1),(4,1),(5,1),(6,1),(7,1)] [(0,a0),(7,a1)]).bind fun bL=>kW (lR 8 bD (.agg [zO,zO,zO,zO,zO,zO,zO,false])) fun t42 bG=>(kR 8 bG t42 bL).bind fun bH=>kW (lR 1 bH zO) fun t45 bI=>(kR 1 bI t45 zO).bind fun bE=>(nP (Mm K (aa5 bE)) ([a0,a1,a2,aU,false,bJ,t42,t45,zO,zO,zO,zO],bE)).bind fun aA=>(fun aD aN a_ aE aG bB aO aI aJ aK aL aP aM=>Ex.l_ aA.1 none (fun aQ=>Ex.inBlock 0 aQ (bo .eql aD (18:Int) fun aV=>(Q9 K (aa5 aM) aV aM aI aO aE aG aD aN aJ aL aK).bind fun aC=>(fun aF bA aB aH=>Ex.pR aC.1 (ld true 8 aH aB fun aW=>ld true 8 aH aB fun aX=>ca (K 66 [(kN.kP aX)] (oR (lA [0] [aB]) aH)) fun aY aS=>bo .eql aY zO fun aZ=>(kR 8 (lO (lA [0] [aB]) aH aS) aF aW).bind fun aT=>some (.ret,[aF,aZ],aT))) (gd aC.2.1 0) (gd aC.2.1 1) (gd aC.2.1 2) aC.2.2) (fun aR=>some (aR,[aE,aG],aM)))) (gd aA.2.1 0) (gd aA.2.1 1) (gd aA.2.1 2) (gd aA.2.1 3) (gd aA.2.1 4) (gd aA.2.1 5) (gd aA.2.1 6) (gd aA.2.1 7) (gd aA.2.1 8) (gd aA.2.1 9) (gd aA.2.1 10) (gd aA.2.1 11) aA.2.2)
def Fq (aF:Bool) (p0:Int) (p1:Bool) (p2:(List UInt8)) (pY:(List UInt8)):Option (lL×Bool) :=
 tc aF (some ((⟨0,0,0,0,0,0,0,false⟩:lL),false)) (tb (rX (AI p2 pY) (0,0,0,0,(⟨p0,0,0,0,0,0,0,p1⟩:lL),0)) fun aA=>uL aA.1 none fun aC=>vO 0 aC (tb (oS (decide (p0=18)) aA.2.2.2.2.2.1.op aA.2.2.2.2.2.1.rd aA.2.2.2.2.2.1.rn aA.2.2.2.2.2.1.rm aA.2.2.2.2.2.1.ra aA.2.2.2.2.2.1.imm aA.2.2.2.2.2.1.cond aA.2.2.2.2.2.1.wide aA.2.2.2.2.2.2 p0 p1 aA.2.1 aA.2.2.2.1 aA.2.2.1) fun aB=>tb ((t66 aB)) fun aE=>some (aB,(decide (aE=0)))) fun aD=>Ao aD (some ((⟨0,0,0,0,0,0,0,false⟩:lL),false)))
theorem anA (w36:Bool) (p0:Int) (p1:Bool) (p2:(List UInt8)) (pY:(List UInt8)):((Q_ KK w36 ([.cells [zO,zO,zO,zO,zO,zO,zO,false]]:kO) (.ptr 0 0) p0 p1 p2 pY)).bind (TD 0)=tm (Fq w36 p0 p1 p2 pY) fun r=>(.ret (.tuple [(.agg [r.1.op,r.1.rd,r.1.rn,r.1.rm,r.1.ra,r.1.imm,r.1.cond,r.1.wide]),r.2]),[]):=by
 cases w36 <;> simp [-rZ,-oZ,-oJ,-p5,-pV,-qX,-qY,Q_,Fq,Eu,Xb,Xa,Xd,TD]
def m65 (K:kT) (a0 a1 a2:kN) (h0:kO):Option (mR×kO) :=
 (kW (lR 8 h0 (.agg [zO,zO,zO,zO,zO,zO,zO,false])) fun aF aD=>ca (K 90 [(kN.kP a0),(kN.kP a1)] aD) fun aA aB=>(nG aA).bind fun aG=>(nG a2).bind fun aH=>bo .neq aG aH fun t27=>gS false t27 (lI aA aB) aB fun aI aC=>gS false t27 (bo .eql aI (.str []) fun aJ=>lI aJ aC) aC fun t31 aE=>(lH t27 true t31).bind fun t33=>Q_ K t33 aE aF a0 a1 a2 aA).bind (TD (aa5 h0))
theorem akS K a0 a1 a2 h0:nN K 65 [a0,a1,a2] h0=m65 (lG mJ K) a0 a1 a2 h0:=by kernel_rfl
def t65 (p0:Int) (p1:Bool) (p2:(List UInt8)):Option (lL×Bool) :=
 tb ((t90 p0 p1)) fun pY=>tc (!decide (((pY.length:Nat):Int)=((p2.length:Nat):Int))) (Fq true p0 p1 p2 pY) (Fq (decide (pY=[])) p0 p1 p2 pY)
theorem r65 (p0:Int) (p1:Bool) (p2:(List UInt8)) (h:kO):KK 65 [p0,p1,p2] h=tm (t65 p0 p1 p2) fun r=>(.ret (.tuple [(.agg [r.1.op,r.1.rd,r.1.rn,r.1.rm,r.1.ra,r.1.imm,r.1.cond,r.1.wide]),r.2]),h):=lJ rfl rfl (akS ..) (by
 simp +contextual [-rZ,-oZ,-oJ,-p5,-pV,-qX,-qY,m65,t65,Eu,Xb,Xa,Xd,TD,anA])
def TC (mm:Nat) (DW:R):Option (mR×kO) :=
 (fun aA aB aC aD=>Ex.oH DW.1 ((kY true 8 aD aA).bind fun t106=>oM mm (.tuple [t106,aB,aC]) aD)) (gd DW.2.1 0) (gd DW.2.1 1) (gd DW.2.1 2) DW.2.2
def QW (K:kT) (m:Nat) (t45:kN) (a0:kN) (aA:kO) (t42:kN) (aB:kN) (aC:kN):Option R :=
 kV t45 (ca (K 64 [(kN.kP a0),(kN.kP (1:Int))] aA) fun aE aD=>bo .add t42 aE fun aF=>kZ m .normal [aB,zO,zO,aC,aF] aD) (kZ m .normal [aB,zO,zO,aC,t42] aA)
def Ix (aC:Bool) (p0:(List UInt8)) (aA:(List UInt8)):Option ((List UInt8)) :=
 tc aC (tb ((t64 p0 1)) fun Ph=>tb ((C0 aA Ph)) fun aB=>some aB) (some aA)
theorem W0 (w46:Bool) (p0:(List UInt8)) (r44:(List UInt8)) (pY:Int):(QW KK 1 w46 p0 ([.cells [zO,zO,zO,zO,zO,zO,zO,false]]:kO) r44 (.ptr 0 0) pY)=tm (β:=R) (Ix w46 p0 r44) fun r=>(.normal,[(.ptr 0 0),zO,zO,pY,r],([.cells [zO,zO,zO,zO,zO,zO,zO,false]]:kO)):=by
 cases w46 <;> simp [-rZ,-oZ,-oJ,-p5,-pV,-qX,-qY,QW,Ix,Og]
def Md (K:kT) (m:Nat) (s:List kN×kO):Option R :=
 (fun aB aE aF aC aD aA aI=>bo .leq aA (25:Int) fun t67=>kV t67 (ca (K 65 [(kN.kP aA),(kN.kP false),(kN.kP aD)] aI) fun t68 aK=>(lC 0 t68).bind fun t71=>(lC 1 t68).bind fun t72=>kW (lR 8 aK (.agg [zO,zO,zO,zO,zO,zO,zO,false])) fun t73 aL=>(kR 8 aL t73 t71).bind fun aG=>kV t72 (ld true 8 aG t73 fun t76=>(kR 8 aG aB t76).bind fun aM=>kZ m .ret [aB,aC,zO,aC,aD,aA] aM) (ca (K 65 [(kN.kP aA),(kN.kP true),(kN.kP aD)] aG) fun t78 aN=>(lC 0 t78).bind fun aQ=>(lC 1 t78).bind fun aR=>kW (lR 8 aN (.agg [zO,zO,zO,zO,zO,zO,zO,false])) fun aJ aO=>(kR 8 aO aJ aQ).bind fun aH=>kV aR (ld true 8 aH aJ fun aS=>(kR 8 aH aB aS).bind fun aP=>kZ m .ret [aB,aC,zO,aC,aD,aA] aP) (bo .add aA (1:Int) fun t88=>kZ m .normal [aB,aE,aF,aC,aD,t88] aH))) (kZ m (.exit 0) [aB,aE,aF,aC,aD,aA] aI)) (gd s.1 0) (gd s.1 1) (gd s.1 2) (gd s.1 3) (gd s.1 4) (gd s.1 5) s.2
def tT (pY:Int) (CH:(List UInt8)) (aA:Int×Int×lL):Option (Ey×Int×Int×lL) :=
 tc (decide (aA.2.1≤25)) (tb ((t65 aA.2.1 false CH)) fun aB=>tc aB.2 (some (.r,(pY,aA.2.1,aB.1))) (tb ((t65 aA.2.1 true CH)) fun r80=>tc r80.2 (some (.r,(pY,aA.2.1,r80.1))) (some (.n,(aA.1,(IntKind.wrap .i64 (aA.2.1+1)),aA.2.2))))) (some ((.x 0),(aA.1,aA.2.1,aA.2.2)))
theorem ag5 (pY:Int) (CH:(List UInt8)) (s59:Int×Int×lL):Md KK 1 ([(.ptr 0 0),s59.1,zO,pY,CH,s59.2.1],([.cells [s59.2.2.op,s59.2.2.rd,s59.2.2.rn,s59.2.2.rm,s59.2.2.ra,s59.2.2.imm,s59.2.2.cond,s59.2.2.wide]]:kO))=tm (β:=R) (tT pY CH s59) fun r=>(r.1.ex,[(.ptr 0 0),r.2.1,zO,pY,CH,r.2.2.1],([.cells [r.2.2.2.op,r.2.2.2.rd,r.2.2.2.rn,r.2.2.2.rm,r.2.2.2.ra,r.2.2.2.imm,r.2.2.2.cond,r.2.2.2.wide]]:kO)):=by
 simp [-rZ,-oZ,-oJ,-p5,-pV,-qX,-qY,Md,tT,r65]
theorem W6 (pY:Int) (CH:(List UInt8)) (i0:Int) (i4:Int):nP (Md KK 1) ([(.ptr 0 0),i0,zO,pY,CH,i4],([.cells [zO,zO,zO,zO,zO,zO,zO,false]]:kO))=tm (β:=R) (rX (tT pY CH) (i0,i4,(⟨0,0,0,0,0,0,0,false⟩:lL))) fun r=>(r.1.ex,[(.ptr 0 0),r.2.1,zO,pY,CH,r.2.2.1],([.cells [r.2.2.2.op,r.2.2.2.rd,r.2.2.2.rn,r.2.2.2.rm,r.2.2.2.ra,r.2.2.2.imm,r.2.2.2.cond,r.2.2.2.wide]]:kO)):=by
 exact uE (enc:=fun s59=>([(.ptr 0 0),(.int .i64 s59.1),(.int .i64 0),(.int .i64 pY),(.str CH),(.int .i64 s59.2.1)],([.cells [(.int .i64 s59.2.2.op),(.int .i64 s59.2.2.rd),(.int .i64 s59.2.2.rn),(.int .i64 s59.2.2.rm),(.int .i64 s59.2.2.ra),(.int .i64 s59.2.2.imm),(.int .i64 s59.2.2.cond),(.bool s59.2.2.wide)]]:kO))) (fun s59=>ag5 pY CH s59) (i0,i4,(⟨0,0,0,0,0,0,0,false⟩:lL))
def QX (K:kT) (t36:kN) (aK:kO) (aJ:kN) (a0:kN) (aO:kN):Option R :=
 kV t36 ((lB [zO,zO,zO,zO,zO,zO,zO,false] [(0,1),(1,1),(2,1),(3,1),(4,1),(5,1),(6,1),(7,1)] []).bind fun aV=>(kR 8 aK aJ aV).bind fun aU=>some (.ret,[aJ,zO,(3:Int)],aU)) (ca (K 64 [(kN.kP a0),(kN.kP zO)] aK) fun t42 aL=>bo .eql aO (4:Int) fun t45=>(QW K (aa5 aL) t45 a0 aL t42 aJ aO).bind fun CH=>(fun aB aC aE aG aH aM=>Ex.pR CH.1 ((nP (Md K (aa5 aM)) ([aB,aC,aE,aG,aH,(1:Int)],aM)).bind fun Pk=>(fun aA aD aF aP aQ aR aN=>Ex.l_ Pk.1 none (fun aS=>Ex.inBlock 0 aS ((lB [zO,zO,zO,zO,zO,zO,zO,false] [(0,1),(1,1),(2,1),(3,1),(4,1),(5,1),(6,1),(7,1)] []).bind fun aW=>(kR 8 aN aA aW).bind fun aI=>some (.ret,[aA,zO,(7:Int)],aI)) (fun aT=>some (aT,[aA,aD,aF],aN)))) (gd Pk.2.1 0) (gd Pk.2.1 1) (gd Pk.2.1 2) (gd Pk.2.1 3) (gd Pk.2.1 4) (gd Pk.2.1 5) Pk.2.2)) (gd CH.2.1 0) (gd CH.2.1 1) (gd CH.2.1 2) (gd CH.2.1 3) (gd CH.2.1 4) CH.2.2)
def Fp (aD:Bool) (p0:(List UInt8)) (pY:Int):Option (lL×Int×Int) :=
 tc aD (some ((⟨0,0,0,0,0,0,0,false⟩:lL),0,3)) (tb ((t64 p0 0)) fun aC=>tb (Ix (decide (pY=4)) p0 aC) fun CH=>tb (rX (tT pY CH) (0,1,(⟨0,0,0,0,0,0,0,false⟩:lL))) fun Pk=>uL Pk.1 none fun aA=>vO 0 aA (some ((⟨0,0,0,0,0,0,0,false⟩:lL),0,7)) fun aB=>Ao aB (some (Pk.2.2.2,Pk.2.1,0)))
theorem amY (w39:Bool) (p0:(List UInt8)) (pY:Int):((QX KK w39 ([.cells [zO,zO,zO,zO,zO,zO,zO,false]]:kO) (.ptr 0 0) p0 pY)).bind (TC 0)=tm (Fp w39 p0 pY) fun r=>(.ret (.tuple [(.agg [r.1.op,r.1.rd,r.1.rn,r.1.rm,r.1.ra,r.1.imm,r.1.cond,r.1.wide]),r.2.1,r.2.2]),[]):=by
 cases w39 <;> simp [-rZ,-oZ,-oJ,-p5,-pV,-qX,-qY,QX,Fp,r63,Og,W0,W6,TC]
def m45 (K:kT) (a0:kN) (h0:kO):Option (mR×kO) :=
 (kW (lR 8 h0 (.agg [zO,zO,zO,zO,zO,zO,zO,false])) fun aI aG=>ca (K 63 [(kN.kP a0)] aG) fun aB aC=>bo .eql aB zO fun aA=>gS false aA (lI a0 aC) aC fun aJ aD=>gS false aA ((nG aJ).bind fun aK=>lI aK aD) aD fun t29 aE=>gS false aA (lI aB aE) aE fun t31 aF=>gS false aA (bo .lss t29 t31 fun t33=>lI t33 aF) aF fun aL aH=>(lH aA true aL).bind fun t36=>QX K t36 aH aI a0 aB).bind (TC (aa5 h0))
theorem aj8 K a0 h0:nN K 45 [a0] h0=m45 (lG mJ K) a0 h0:=by kernel_rfl
def t45 (p0:(List UInt8)):Option (lL×Int×Int) :=
 tb ((t63 p0)) fun pY=>tc (decide (pY=0)) (Fp true p0 pY) (Fp (decide (((p0.length:Nat):Int)<pY)) p0 pY)
theorem U7 (p0:(List UInt8)) (h:kO):KK 45 [p0] h=tm (t45 p0) fun r=>(.ret (.tuple [(.agg [r.1.op,r.1.rd,r.1.rn,r.1.rm,r.1.ra,r.1.imm,r.1.cond,r.1.wide]),r.2.1,r.2.2]),h):=lJ rfl rfl (aj8 ..) (by
 simp +contextual [-rZ,-oZ,-oJ,-p5,-pV,-qX,-qY,m45,t45,r63,Og,W0,W6,TC,amY])
end
end
section
open Go Hk
theorem CM (x a n:Nat) (ha:a<64) (hn:n≤62):t131 (x:Int) (a:Int) (n:Int)=some ((x/2^a%2^n:Nat):Int):=by
 have hp:2^n≤2^62:=al2 (by decide) hn
 have hp0:0<2^n:=Nat.pow_pos (by decide)
 have e1:qP .i64 1 (n:Int)=some ((2^n:Nat):Int):=by
  unfold qP
  rw [if_neg (by omega),show min ((n:Int).toNat) IntKind.i64.bits=n from by simp [IntKind.bits];omega,Int.one_mul,oQ]
  rw [lP _ (by omega) (by omega)]
 have e2:IntKind.i64.wrap (((2^n:Nat):Int)-1)=((2^n-1:Nat):Int):=by
  generalize 2^n=q at hp hp0 ⊢
  rw [lP _ (by omega) (by omega)];omega
 unfold t131
 rw [C4 a ha,kS,e1,kS,e2,uC _ n hn,Int.natCast_emod]
theorem z4 (x a n:Nat) (ha:a<64) (hn:n≤62) (h:kO):KK 131 [.int .i64 (x:Int),.int .i64 (a:Int),.int .i64 (n:Int)] h=some (.ret (.int .i64 ((x/2^a%2^n:Nat):Int)),h):=by
 rw [xA,CM x a n ha hn];rfl
def xV (v n:Nat):Int:=if v/2^(n-1)=1 then(v:Int)-((2^n:Nat):Int) else v
theorem S6 (v n:Nat) (hn0:1≤n) (hn:n≤31) (hv:v<4294967296):t132 (v:Int) (n:Int)=some (xV v n):=by
 have hp:2^n≤2^31:=al2 (by decide) hn
 have hp0:0<2^n:=Nat.pow_pos (by decide)
 have e0:IntKind.i64.wrap ((n:Int)-1)=((n-1:Nat):Int):=by rw [lP _ (by omega) (by omega)];omega
 have e1:qP .i64 1 (n:Int)=some ((2^n:Nat):Int):=by
  unfold qP
  rw [if_neg (by omega),show min ((n:Int).toNat) IntKind.i64.bits=n from by simp [IntKind.bits];omega,Int.one_mul,oQ]
  rw [lP _ (by omega) (by omega)]
 unfold t132 xV
 rw [e0,C4 (n-1) (by omega),kS]
 by_cases h:v/2^(n-1)=1
 ·rw [if_pos h,h,e1]
  generalize 2^n=q at hp ⊢
  simp only [kS]
  rw [show decide (((1:Nat):Int)=1)=true from rfl,lD,lP _ (by omega) (by omega)]
 ·rw [if_neg h,decide_eq_false (by omega)];rfl
theorem auH (v n:Nat) (hn0:1≤n) (hn:n≤31) (hv:v<4294967296) (h:kO):KK 132 [.int .i64 (v:Int),.int .i64 (n:Int)] h=some (.ret (.int .i64 (xV v n)),h):=by
 rw [al9,S6 v n hn0 hn hv];rfl
theorem shN (x:Nat) (a:Nat) (ha:a<64):lF .shr (.int .i64 (x:Int)) (.int .u64 (a:Int))=some (.int .i64 ((x/2^a:Nat):Int)):=by
 have:=C4 (x:=x) a ha
 unfold sX at this
 rw [if_neg (by omega)] at this
 simp only [lF]
 rw [if_neg (by omega),←Option.some.inj this]
def mL (x:Nat):lL×Bool :=
 if x=48896 then(⟨1,0,0,0,0,0,0,false⟩,true)
 else if x/256=190 then(⟨2,0,0,0,0,(x%256:Nat),0,false⟩,true)
 else if x/64=416 then(⟨19,(x%8:Nat),(x/8%8:Nat),0,0,0,0,false⟩,true)
 else if x/64=384 then(⟨20,(x%8:Nat),(x/8%8:Nat),0,0,0,0,false⟩,true)
 else if x/64=480 then(⟨21,(x%8:Nat),(x/8%8:Nat),0,0,0,0,false⟩,true)
 else if x/64=448 then(⟨22,(x%8:Nat),(x/8%8:Nat),0,0,0,0,false⟩,true)
 else if x/64=266 then(⟨23,0,(x%8:Nat),(x/8%8:Nat),0,0,0,false⟩,true)
 else if x/2048=28 then(⟨24,0,0,0,0,2*xV (x%2048) 11,0,false⟩,true)
 else if x/4096=13∧x/256%16≤13 then(⟨25,0,0,0,0,2*xV (x%256) 8,(x/256%16:Nat),false⟩,true)
 else(⟨0,0,0,0,0,0,0,false⟩,false)
theorem UX {v n:Nat}(hv:v<4294967296) (hn:n≤31):-4294967296≤xV v n∧xV v n<4294967296:=by
 have hp:2^n≤2^31:=al2 (by decide) hn
 have hp0:0<2^n:=Nat.pow_pos (by decide)
 unfold xV;split <;> omega
theorem Uc {v n:Nat}(hv:v<4294967296) (hn:n≤31):IntKind.i64.wrap (2*xV v n)=2*xV v n:=by
 have:=UX hv hn;exact lP _ (by omega) (by omega)
set_option maxHeartbeats 8000000 in
theorem aB0 (x:Nat) (hx:x<65536) (h:kO):KK 111 [.int .i64 (x:Int)] h=some (.ret (.tuple [.agg (mL x).1.cells,.bool (mL x).2]),h):=by
 refine qC rfl rfl (ZO ..) ?_
 have a33:∀h,KK 131 [.int .i64 (x:Int),.int .i64 3,.int .i64 3] h=some (.ret (.int .i64 ((x/8%8:Nat):Int)),h):=fun h=>z4 x 3 3 (by decide) (by decide) h
 have a03:∀h,KK 131 [.int .i64 (x:Int),.int .i64 0,.int .i64 3] h=some (.ret (.int .i64 ((x%8:Nat):Int)),h):=fun h=>by have:=z4 x 0 3 (by decide) (by decide) h;rw [Nat.pow_zero,Nat.div_one] at this;exact this
 have a08:∀h,KK 131 [.int .i64 (x:Int),.int .i64 0,.int .i64 8] h=some (.ret (.int .i64 ((x%256:Nat):Int)),h):=fun h=>by have:=z4 x 0 8 (by decide) (by decide) h;rw [Nat.pow_zero,Nat.div_one] at this;exact this
 have a011:∀h,KK 131 [.int .i64 (x:Int),.int .i64 0,.int .i64 11] h=some (.ret (.int .i64 ((x%2048:Nat):Int)),h):=fun h=>by have:=z4 x 0 11 (by decide) (by decide) h;rw [Nat.pow_zero,Nat.div_one] at this;exact this
 have a84:∀h,KK 131 [.int .i64 (x:Int),.int .i64 8,.int .i64 4] h=some (.ret (.int .i64 ((x/256%16:Nat):Int)),h):=fun h=>z4 x 8 4 (by decide) (by decide) h
 have b11:∀h,KK 132 [.int .i64 ((x%2048:Nat):Int),.int .i64 11] h=some (.ret (.int .i64 (xV (x%2048) 11)),h):=fun h=>auH _ 11 (by decide) (by decide) (by omega) h
 have b8:∀h,KK 132 [.int .i64 ((x%256:Nat):Int),.int .i64 8] h=some (.ret (.int .i64 (xV (x%256) 8)),h):=fun h=>auH _ 8 (by decide) (by decide) (by omega) h
 have Ti:=Uc (v:=x%2048) (n:=11) (by omega) (by decide)
 have w8:=Uc (v:=x%256) (n:=8) (by omega) (by decide)
 have s8:lF .shr (.int .i64 (x:Int)) (.int .u64 8)=some (.int .i64 ((x/256:Nat):Int)):=shN x 8 (by decide)
 have s6:lF .shr (.int .i64 (x:Int)) (.int .u64 6)=some (.int .i64 ((x/64:Nat):Int)):=shN x 6 (by decide)
 have s11:lF .shr (.int .i64 (x:Int)) (.int .u64 11)=some (.int .i64 ((x/2048:Nat):Int)):=shN x 11 (by decide)
 have s12:lF .shr (.int .i64 (x:Int)) (.int .u64 12)=some (.int .i64 ((x/4096:Nat):Int)):=shN x 12 (by decide)
 unfold mL
 generalize ex:x/256%16=c at a84 ⊢
 generalize ((x%8:Nat):Int)=r0 at a03 ⊢
 generalize ((x/8%8:Nat):Int)=r1 at a33 ⊢
 generalize xV (x%2048) 11=g11 at b11 Ti ⊢
 generalize xV (x%256) 8=g8 at b8 w8 ⊢
 generalize ((x%2048:Nat):Int)=y11 at a011 b11
 generalize ((x%256:Nat):Int)=y8 at a08 b8 ⊢
 generalize e256:x/256=x256 at s8 ex ⊢
 generalize e64:x/64=x64 at s6 ⊢
 generalize e2048:x/2048=x2048 at s11 ⊢
 generalize e4096:x/4096=x4096 at s12 ⊢
 by_cases h0:x=48896
 ·have qh0:((x:Nat):Int)=48896:=by omega
  simp -implicitDefEqProofs [-kU,lU,lV,Gj,a03,a33,a08,a011,a84,b11,b8,s8,s6,s11,s12,Ti,w8,eq_true h0,eq_true qh0]
 have nh0:¬((x:Nat):Int)=48896:=by omega
 by_cases h1:x256=190
 ·have qh1:((x256:Nat):Int)=190:=by omega
  simp -implicitDefEqProofs [-kU,lU,lV,Gj,a03,a33,a08,a011,a84,b11,b8,s8,s6,s11,s12,Ti,w8,eq_true h1,eq_true qh1,eq_false h0,eq_false nh0]
 have nh1:¬((x256:Nat):Int)=190:=by omega
 by_cases h2:x64=416
 ·have qh2:((x64:Nat):Int)=416:=by omega
  simp -implicitDefEqProofs [-kU,lU,lV,Gj,a03,a33,a08,a011,a84,b11,b8,s8,s6,s11,s12,Ti,w8,eq_true h2,eq_true qh2,eq_false h0,eq_false nh0,eq_false h1,eq_false nh1]
 have nh2:¬((x64:Nat):Int)=416:=by omega
 by_cases h3:x64=384
 ·have qh3:((x64:Nat):Int)=384:=by omega
  simp -implicitDefEqProofs [-kU,lU,lV,Gj,a03,a33,a08,a011,a84,b11,b8,s8,s6,s11,s12,Ti,w8,eq_true h3,eq_true qh3,eq_false h0,eq_false nh0,eq_false h1,eq_false nh1,eq_false h2,eq_false nh2]
 have nh3:¬((x64:Nat):Int)=384:=by omega
 by_cases h4:x64=480
 ·have qh4:((x64:Nat):Int)=480:=by omega
  simp -implicitDefEqProofs [-kU,lU,lV,Gj,a03,a33,a08,a011,a84,b11,b8,s8,s6,s11,s12,Ti,w8,eq_true h4,eq_true qh4,eq_false h0,eq_false nh0,eq_false h1,eq_false nh1,eq_false h2,eq_false nh2,eq_false h3,eq_false nh3]
 have nh4:¬((x64:Nat):Int)=480:=by omega
 by_cases h5:x64=448
 ·have qh5:((x64:Nat):Int)=448:=by omega
  simp -implicitDefEqProofs [-kU,lU,lV,Gj,a03,a33,a08,a011,a84,b11,b8,s8,s6,s11,s12,Ti,w8,eq_true h5,eq_true qh5,eq_false h0,eq_false nh0,eq_false h1,eq_false nh1,eq_false h2,eq_false nh2,eq_false h3,eq_false nh3,eq_false h4,eq_false nh4]
 have nh5:¬((x64:Nat):Int)=448:=by omega
 by_cases h6:x64=266
 ·have qh6:((x64:Nat):Int)=266:=by omega
  simp -implicitDefEqProofs [-kU,lU,lV,Gj,a03,a33,a08,a011,a84,b11,b8,s8,s6,s11,s12,Ti,w8,eq_true h6,eq_true qh6,eq_false h0,eq_false nh0,eq_false h1,eq_false nh1,eq_false h2,eq_false nh2,eq_false h3,eq_false nh3,eq_false h4,eq_false nh4,eq_false h5,eq_false nh5]
 have nh6:¬((x64:Nat):Int)=266:=by omega
 by_cases h7:x2048=28
 ·have qh7:((x2048:Nat):Int)=28:=by omega
  simp -implicitDefEqProofs [-kU,lU,lV,Gj,a03,a33,a08,a011,a84,b11,b8,s8,s6,s11,s12,Ti,w8,eq_true h7,eq_true qh7,eq_false h0,eq_false nh0,eq_false h1,eq_false nh1,eq_false h2,eq_false nh2,eq_false h3,eq_false nh3,eq_false h4,eq_false nh4,eq_false h5,eq_false nh5,eq_false h6,eq_false nh6]
 have nh7:¬((x2048:Nat):Int)=28:=by omega
 by_cases h8:x4096=13
 ·have qh8:((x4096:Nat):Int)=13:=by omega
  by_cases h9:c≤13
  ·have qh9:((c:Nat):Int)≤13:=by omega
   simp -implicitDefEqProofs [-kU,lU,lV,Gj,a03,a33,a08,a011,a84,b11,b8,s8,s6,s11,s12,Ti,w8,eq_true h8,eq_true qh8,eq_true h9,eq_true qh9,eq_false h0,eq_false nh0,eq_false h1,eq_false nh1,eq_false h2,eq_false nh2,eq_false h3,eq_false nh3,eq_false h4,eq_false nh4,eq_false h5,eq_false nh5,eq_false h6,eq_false nh6,eq_false h7,eq_false nh7]
  ·have qh9:¬((c:Nat):Int)≤13:=by omega
   simp -implicitDefEqProofs [-kU,lU,lV,Gj,a03,a33,a08,a011,a84,b11,b8,s8,s6,s11,s12,Ti,w8,eq_true h8,eq_true qh8,eq_false h9,eq_false qh9,eq_false h0,eq_false nh0,eq_false h1,eq_false nh1,eq_false h2,eq_false nh2,eq_false h3,eq_false nh3,eq_false h4,eq_false nh4,eq_false h5,eq_false nh5,eq_false h6,eq_false nh6,eq_false h7,eq_false nh7]
 ·have qh8:¬((x4096:Nat):Int)=13:=by omega
  simp -implicitDefEqProofs [-kU,lU,lV,Gj,a03,a33,a08,a011,a84,b11,b8,s8,s6,s11,s12,Ti,w8,eq_false h8,eq_false qh8,eq_false h0,eq_false nh0,eq_false h1,eq_false nh1,eq_false h2,eq_false nh2,eq_false h3,eq_false nh3,eq_false h4,eq_false nh4,eq_false h5,eq_false nh5,eq_false h6,eq_false nh6,eq_false h7,eq_false nh7]
end
section
open Go Hk
theorem Nl (l:List Int) (hl:l.length≤100):t152 l=some (l.all fun r=>decide (r≤12)):=by
 have key:∀n j:Nat,j+n=l.length→∃k:Int,rX (yX l ((l.length:Nat):Int)) (j:Int)=some (if (l.drop j).all (fun r=>decide (r≤12)) then(.x 0,k) else(.r,k)):=by
  intro n
  induction n with
  | zero =>
   intro j hj
   refine⟨(j:Int),?_⟩
   rw [List.drop_eq_nil_of_le (by omega)]
   refine mV ?_ (by simp)
   have h:¬((j:Int)<((l.length:Nat):Int)):=by omega
   simp [yX,h]
  | succ n ih =>
   intro j hj
   have hlt:j<l.length:=by omega
   have h:((j:Int)<((l.length:Nat):Int)):=by omega
   have hd:l.drop j=l[j]::l.drop (j+1):=al3 hlt
   have ht:sF l (j:Int)=some l[j]:=by unfold sF;simp [hlt]
   rw [hd,List.all_cons]
   by_cases hc:l[j]≤12
   ·obtain⟨k,hk⟩:=ih (j+1) (by omega)
    refine⟨k,?_⟩
    rw [decide_eq_true hc,Bool.true_and,←hk]
    refine oB ?_
    have h12:¬(12<l[j]):=by omega
    simp only [yX,h,decide_true,lD,ht,kS,h12,decide_false,kX]
    rw [lP _ (by omega) (by omega)];simp
   ·refine⟨(j:Int),?_⟩
    rw [decide_eq_false hc,Bool.false_and]
    refine mV ?_ (by simp)
    have h12:(12<l[j]):=by omega
    simp [yX,h,ht,h12]
 obtain⟨k,hk⟩:=key l.length 0 (by omega)
 unfold t152
 rw [show((0:Nat):Int)=0 from rfl,List.drop_zero] at hk
 rw [hk]
 cases h:l.all (fun r=>decide (r≤12)) <;> simp [uL,vO,Ao]
theorem Wg (a b:Int) (h:kO):KK 152 [.slice [[.int .i64 a],[.int .i64 b]] .no] h=some (.ret (.bool (decide (a≤12)&&decide (b≤12))),h):=by
 have:=acH [a,b] h
 rw [Nl _ (by simp)] at this
 simpa [Rw,ci] using this
theorem Wh (a b c:Int) (h:kO):KK 152 [.slice [[.int .i64 a],[.int .i64 b],[.int .i64 c]] .no] h=some (.ret (.bool (decide (a≤12)&&(decide (b≤12)&&decide (c≤12)))),h):=by
 have:=acH [a,b,c] h
 rw [Nl _ (by simp)] at this
 simpa [Rw,ci] using this
theorem aiX (a b c d:Int) (h:kO):KK 152 [.slice [[.int .i64 a],[.int .i64 b],[.int .i64 c],[.int .i64 d]] .no] h=some (.ret (.bool (decide (a≤12)&&(decide (b≤12)&&(decide (c≤12)&&decide (d≤12))))),h):=by
 have:=acH [a,b,c,d] h
 rw [Nl _ (by simp)] at this
 simpa [Rw,ci] using this
theorem aiW (a:Int) (h:kO):KK 152 [.slice [[.int .i64 a]] .no] h=some (.ret (.bool (decide (a≤12))),h):=by
 have:=acH [a] h
 rw [Nl _ (by simp)] at this
 simpa [Rw,ci] using this
def vG:List kN:=[.int .i64 59904,.int .i64 10,.int .i64 59936,.int .i64 11,.int .i64 59968,.int .i64 12,.int .i64 60032,.int .i64 13,.int .i64 60160,.int .i64 14,.int .i64 60320,.int .i64 15]
theorem P6 (h:kO):KK 153 [] h=some (.ret (.agg vG),h):=by
 refine qC rfl rfl (aaT ..) ?_
 simp [avZ,vG]
end
section
open Go Hk
theorem K9 {x:Nat}(hx:x<4294967296):Jc .i64 (x:Int) 15=((x/16*16:Nat):Int):=by
 obtain⟨z,h1,h2,h3⟩:=N_ hx (show 15<4294967296 by decide)
 rw [show(15:Int)=((15:Nat):Int) from rfl,h1]
 congr 1
 refine Nat.eq_of_testBit_eq fun k=>?_
 rw [h3,show x/16*16=x/2^4*2^4 from rfl,Nat.testBit_mul_two_pow,Nat.testBit_div_two_pow,show(15:Nat)=2^4-1 from rfl,Nat.testBit_two_pow_sub_one]
 by_cases h:4≤k
 ·rw [show k-4+4=k from by omega]
  have h2:¬k<4:=by omega
  simp [h,h2]
 ·have h2:k<4:=by omega
  simp [h,h2]
theorem at7 {a b:Nat}(ha:a<1073741824) (hb:b<4):sD .i64 ((a*4:Nat):Int) (b:Int)=((a*4+b:Nat):Int):=by
 unfold sD
 rw [show IntKind.i64.bits=64 from rfl,BitVec.toNat_or,zU,zU,show(((a*4:Nat):Int)%18446744073709551616).toNat=a*4 from by omega,show((b:Int)%18446744073709551616).toNat=b from by omega]
 have:=Nat.two_pow_add_eq_or_of_lt (i:=2) (b:=b) (by omega) a
 rw [show(2:Nat)^2=4 from rfl,Nat.mul_comm] at this
 rw [←this,lP _ (by omega) (by omega)]
def nU (y:Nat):Nat:=y/4096%8*4+y/64%4
def n7 (x y:Nat):lL×Bool :=
 if y/32768=1 then(⟨0,0,0,0,0,0,0,false⟩,false)
 else if x=59983 then(⟨5+(y/16%4:Nat),(y/256%16:Nat),0,(y%16:Nat),0,(nU y:Nat),0,false⟩,decide (y/256%16≤12)&&decide (y%16≤12)&&(decide (y/16%4=0) || decide (0<nU y)))
 else if x=60015 then(⟨9,(y/256%16:Nat),0,(y%16:Nat),0,0,0,false⟩,decide (y/256%16≤12)&&decide (y%16≤12)&&decide (y/16%4=0)&&decide (nU y=0))
 else if x/16*16=59904∨x/16*16=59936∨x/16*16=59968∨x/16*16=60032∨x/16*16=60160∨x/16*16=60320 then
  (⟨if x/16*16=59904 then 10 else if x/16*16=59936 then 11 else if x/16*16=59968 then 12 else if x/16*16=60032 then 13 else if x/16*16=60160 then 14 else 15,(y/256%16:Nat),(x%16:Nat),(y%16:Nat),0,0,0,false⟩,
   decide (y/256%16≤12)&&(decide (x%16≤12)&&decide (y%16≤12))&&decide (y/16%4=0)&&decide (nU y=0))
 else(⟨0,0,0,0,0,0,0,false⟩,false)
def Cr (x d n m sh tu:Int) (j:Int):List kN×kO :=
 ([.int .i64 x,.ptr 0 0,.bool false,.ptr 1 0,.int .i64 sh,.int .i64 tu,.agg vG,.int .i64 j],[.cells [.int .i64 0,.int .i64 0,.int .i64 0,.int .i64 0,.int .i64 0,.int .i64 0,.int .i64 0,.bool false],.cells [.int .i64 0,.int .i64 d,.int .i64 n,.int .i64 m,.int .i64 0,.int .i64 0,.int .i64 0,.bool false]])
def KH (x d n m sh tu:Int) (j op:Int):R :=
 (.ret,[.int .i64 x,.ptr 0 0,.bool (decide (d≤12)&&(decide (n≤12)&&decide (m≤12))&&decide (tu=0)&&decide (sh=0)),.ptr 1 0,.int .i64 sh,.int .i64 tu,.agg vG,.int .i64 j],
  [.cells [.int .i64 op,.int .i64 d,.int .i64 n,.int .i64 m,.int .i64 0,.int .i64 0,.int .i64 0,.bool false],.cells [.int .i64 op,.int .i64 d,.int .i64 n,.int .i64 m,.int .i64 0,.int .i64 0,.int .i64 0,.bool false]])
theorem A9 (a b:Int) (h:kO):lE 2 1 [.int .i64 0] [(0,.int .i64 a),(1,.int .i64 b)] h=some (.slice [[.int .i64 a],[.int .i64 b]] (.own h.length),h++[.front 2 1]):=(rfl)
theorem EH (a b c:Int) (h:kO):lE 3 1 [.int .i64 0] [(0,.int .i64 a),(1,.int .i64 b),(2,.int .i64 c)] h=some (.slice [[.int .i64 a],[.int .i64 b],[.int .i64 c]] (.own h.length),h++[.front 3 1]):=(rfl)
theorem as0 (a b c d:Int) (h:kO):lE 4 1 [.int .i64 0] [(0,.int .i64 a),(1,.int .i64 b),(2,.int .i64 c),(3,.int .i64 d)] h=some (.slice [[.int .i64 a],[.int .i64 b],[.int .i64 c],[.int .i64 d]] (.own h.length),h++[.front 4 1]):=(rfl)
theorem Qg {h:kO}:(vG.map fun x=>kN.oW 2 h x)=vG:=rfl
section
variable {x:Nat}(hx:x<4294967296) {d n m sh tu:Int}
include hx
theorem p7 (j:Int) (fst op:Int) (hj0:0≤j) (hj:j<6) (hk:oI true 6 2 (.agg vG) (.int .i64 j)=some (.agg [.int .i64 fst,.int .i64 op])) (hne:((x/16*16:Nat):Int)≠fst) :
  t_ KK 2 (Cr x d n m sh tu j)=some (.normal,Cr x d n m sh tu (j+1)):=by
 have ha:=K9 hx
 have hw:IntKind.i64.wrap (j+1)=j+1:=lP _ (by omega) (by omega)
 generalize ((x/16*16:Nat):Int)=z at ha hne
 unfold Cr
 simp -implicitDefEqProofs [t_,hj,hk,ha,eq_false hne,hw,Qg]
theorem B6 (j:Int) (fst op:Int) (hj0:0≤j) (hj:j<6) (hk:oI true 6 2 (.agg vG) (.int .i64 j)=some (.agg [.int .i64 fst,.int .i64 op])) (he:((x/16*16:Nat):Int)=fst) :
  t_ KK 2 (Cr x d n m sh tu j)=some (KH x d n m sh tu j op):=by
 have ha:=K9 hx
 rw [he] at ha
 have kr:=fun h=>Wh d n m h
 unfold Cr KH
 generalize hb:(decide (d≤12)&&(decide (n≤12)&&decide (m≤12)))=b at kr ⊢
 clear hb
 cases b <;> by_cases htu:tu=0 <;> by_cases hsh:sh=0 <;>
  simp -implicitDefEqProofs [t_,hj,hk,ha,kr,Qg,EH,htu,hsh]
end
theorem CD {F:List kN×kO→Option R}{s s':List kN×kO}(h:F s=some (.ret,s')):nP F s=some (.ret,s'):=by rw [Bj,h];rfl
theorem kc0:oI true 6 2 (.agg vG) (.int .i64 0)=some (.agg [.int .i64 59904,.int .i64 10]):=(rfl)
theorem kc1:oI true 6 2 (.agg vG) (.int .i64 1)=some (.agg [.int .i64 59936,.int .i64 11]):=(rfl)
theorem kc2:oI true 6 2 (.agg vG) (.int .i64 2)=some (.agg [.int .i64 59968,.int .i64 12]):=(rfl)
theorem kc3:oI true 6 2 (.agg vG) (.int .i64 3)=some (.agg [.int .i64 60032,.int .i64 13]):=(rfl)
theorem kc4:oI true 6 2 (.agg vG) (.int .i64 4)=some (.agg [.int .i64 60160,.int .i64 14]):=(rfl)
theorem kc5:oI true 6 2 (.agg vG) (.int .i64 5)=some (.agg [.int .i64 60320,.int .i64 15]):=(rfl)
section
variable {x:Nat}(hx:x<4294967296) {d n m sh tu:Int}
include hx
theorem Wj  (h:x/16*16=59904):nP (t_ KK 2) (Cr x d n m sh tu 0)=some (KH x d n m sh tu 0 10):=by
 exact CD (B6 hx 0 59904 10 (by decide) (by decide) kc0 (by omega))
theorem ai2 (h0:x/16*16≠59904) (h:x/16*16=59936):nP (t_ KK 2) (Cr x d n m sh tu 0)=some (KH x d n m sh tu 1 11):=by
 rw [nK (p7 hx 0 59904 10 (by decide) (by decide) kc0 (by omega)),show(0:Int)+1=1 from rfl]
 exact CD (B6 hx 1 59936 11 (by decide) (by decide) kc1 (by omega))
theorem ai3 (h0:x/16*16≠59904) (h1:x/16*16≠59936) (h:x/16*16=59968):nP (t_ KK 2) (Cr x d n m sh tu 0)=some (KH x d n m sh tu 2 12):=by
 rw [nK (p7 hx 0 59904 10 (by decide) (by decide) kc0 (by omega)),show(0:Int)+1=1 from rfl]
 rw [nK (p7 hx 1 59936 11 (by decide) (by decide) kc1 (by omega)),show(1:Int)+1=2 from rfl]
 exact CD (B6 hx 2 59968 12 (by decide) (by decide) kc2 (by omega))
theorem ai4 (h0:x/16*16≠59904) (h1:x/16*16≠59936) (h2:x/16*16≠59968) (h:x/16*16=60032):nP (t_ KK 2) (Cr x d n m sh tu 0)=some (KH x d n m sh tu 3 13):=by
 rw [nK (p7 hx 0 59904 10 (by decide) (by decide) kc0 (by omega)),show(0:Int)+1=1 from rfl]
 rw [nK (p7 hx 1 59936 11 (by decide) (by decide) kc1 (by omega)),show(1:Int)+1=2 from rfl]
 rw [nK (p7 hx 2 59968 12 (by decide) (by decide) kc2 (by omega)),show(2:Int)+1=3 from rfl]
 exact CD (B6 hx 3 60032 13 (by decide) (by decide) kc3 (by omega))
theorem ai5 (h0:x/16*16≠59904) (h1:x/16*16≠59936) (h2:x/16*16≠59968) (h3:x/16*16≠60032) (h:x/16*16=60160):nP (t_ KK 2) (Cr x d n m sh tu 0)=some (KH x d n m sh tu 4 14):=by
 rw [nK (p7 hx 0 59904 10 (by decide) (by decide) kc0 (by omega)),show(0:Int)+1=1 from rfl]
 rw [nK (p7 hx 1 59936 11 (by decide) (by decide) kc1 (by omega)),show(1:Int)+1=2 from rfl]
 rw [nK (p7 hx 2 59968 12 (by decide) (by decide) kc2 (by omega)),show(2:Int)+1=3 from rfl]
 rw [nK (p7 hx 3 60032 13 (by decide) (by decide) kc3 (by omega)),show(3:Int)+1=4 from rfl]
 exact CD (B6 hx 4 60160 14 (by decide) (by decide) kc4 (by omega))
theorem ai6 (h0:x/16*16≠59904) (h1:x/16*16≠59936) (h2:x/16*16≠59968) (h3:x/16*16≠60032) (h4:x/16*16≠60160) (h:x/16*16=60320):nP (t_ KK 2) (Cr x d n m sh tu 0)=some (KH x d n m sh tu 5 15):=by
 rw [nK (p7 hx 0 59904 10 (by decide) (by decide) kc0 (by omega)),show(0:Int)+1=1 from rfl]
 rw [nK (p7 hx 1 59936 11 (by decide) (by decide) kc1 (by omega)),show(1:Int)+1=2 from rfl]
 rw [nK (p7 hx 2 59968 12 (by decide) (by decide) kc2 (by omega)),show(2:Int)+1=3 from rfl]
 rw [nK (p7 hx 3 60032 13 (by decide) (by decide) kc3 (by omega)),show(3:Int)+1=4 from rfl]
 rw [nK (p7 hx 4 60160 14 (by decide) (by decide) kc4 (by omega)),show(4:Int)+1=5 from rfl]
 exact CD (B6 hx 5 60320 15 (by decide) (by decide) kc5 (by omega))
theorem ai7 (h0:x/16*16≠59904) (h1:x/16*16≠59936) (h2:x/16*16≠59968) (h3:x/16*16≠60032) (h4:x/16*16≠60160) (h5:x/16*16≠60320):nP (t_ KK 2) (Cr x d n m sh tu 0)=some (.exit 1,Cr x d n m sh tu 6):=by
 rw [nK (p7 hx 0 59904 10 (by decide) (by decide) kc0 (by omega)),show(0:Int)+1=1 from rfl]
 rw [nK (p7 hx 1 59936 11 (by decide) (by decide) kc1 (by omega)),show(1:Int)+1=2 from rfl]
 rw [nK (p7 hx 2 59968 12 (by decide) (by decide) kc2 (by omega)),show(2:Int)+1=3 from rfl]
 rw [nK (p7 hx 3 60032 13 (by decide) (by decide) kc3 (by omega)),show(3:Int)+1=4 from rfl]
 rw [nK (p7 hx 4 60160 14 (by decide) (by decide) kc4 (by omega)),show(4:Int)+1=5 from rfl]
 rw [nK (p7 hx 5 60320 15 (by decide) (by decide) kc5 (by omega)),show(5:Int)+1=6 from rfl]
 refine s7 ?_
 unfold Cr
 simp -implicitDefEqProofs [t_,Qg]
end
set_option maxHeartbeats 8000000 in
theorem aB5 (x y:Nat) (hx:x<65536) (hy:y<65536) (h:kO):KK 133 [.int .i64 (x:Int),.int .i64 (y:Int)] h=some (.ret (.tuple [.agg (n7 x y).1.cells,.bool (n7 x y).2]),h):=by
 refine qC rfl rfl (Z_ ..) ?_
 have q84:∀h,KK 131 [.int .i64 (y:Int),.int .i64 8,.int .i64 4] h=some (.ret (.int .i64 ((y/256%16:Nat):Int)),h):=fun h=>z4 y 8 4 (by decide) (by decide) h
 have qx:∀h,KK 131 [.int .i64 (x:Int),.int .i64 0,.int .i64 4] h=some (.ret (.int .i64 ((x%16:Nat):Int)),h):=fun h=>by have:=z4 x 0 4 (by decide) (by decide) h;rw [Nat.pow_zero,Nat.div_one] at this;exact this
 have qy:∀h,KK 131 [.int .i64 (y:Int),.int .i64 0,.int .i64 4] h=some (.ret (.int .i64 ((y%16:Nat):Int)),h):=fun h=>by have:=z4 y 0 4 (by decide) (by decide) h;rw [Nat.pow_zero,Nat.div_one] at this;exact this
 have q123:∀h,KK 131 [.int .i64 (y:Int),.int .i64 12,.int .i64 3] h=some (.ret (.int .i64 ((y/4096%8:Nat):Int)),h):=fun h=>z4 y 12 3 (by decide) (by decide) h
 have q62:∀h,KK 131 [.int .i64 (y:Int),.int .i64 6,.int .i64 2] h=some (.ret (.int .i64 ((y/64%4:Nat):Int)),h):=fun h=>z4 y 6 2 (by decide) (by decide) h
 have q42:∀h,KK 131 [.int .i64 (y:Int),.int .i64 4,.int .i64 2] h=some (.ret (.int .i64 ((y/16%4:Nat):Int)),h):=fun h=>z4 y 4 2 (by decide) (by decide) h
 have s15:lF .shr (.int .i64 (y:Int)) (.int .u64 15)=some (.int .i64 ((y/32768:Nat):Int)):=shN y 15 (by decide)
 have s2:lF .shl (.int .i64 ((y/4096%8:Nat):Int)) (.int .u64 2)=some (.int .i64 ((y/4096%8*4:Nat):Int)):=by
  simp only [lF]
  rw [if_neg (by omega)]
  have:IntKind.i64.wrap (((y/4096%8:Nat):Int)*2^(min (2:Int).toNat IntKind.i64.bits))=((y/4096%8*4:Nat):Int):=by
   rw [show min (2:Int).toNat IntKind.i64.bits=2 from rfl,lP _ (by omega) (by omega)];omega
  rw [this]
 have o1:sD .i64 ((y/4096%8*4:Nat):Int) ((y/64%4:Nat):Int)=((nU y:Nat):Int):=at7 (by omega) (by omega)
 have hsh:nU y<32:=by unfold nU;omega
 have htu:y/16%4<4:=by omega
 have w5:IntKind.i64.wrap (5+((y/16%4:Nat):Int))=5+((y/16%4:Nat):Int):=lP _ (by omega) (by omega)
 have x32:x<4294967296:=by omega
 have hbig:=@Wj x x32 ((y/256%16:Nat):Int) ((x%16:Nat):Int) ((y%16:Nat):Int) ((nU y:Nat):Int) ((y/16%4:Nat):Int)
 unfold n7
 have kr2:∀h,KK 152 [.slice [[.int .i64 ((y/256%16:Nat):Int)],[.int .i64 ((y%16:Nat):Int)]] .no] h=some (.ret (.bool (decide (y/256%16≤12)&&decide (y%16≤12))),h):=fun h=>by
  rw [Wg,decide_eq_decide.2 (show((y/256%16:Nat):Int)≤12↔y/256%16≤12 by omega),decide_eq_decide.2 (show((y%16:Nat):Int)≤12↔y%16≤12 by omega)]
 have e3:(decide (((y/256%16:Nat):Int)≤12)&&(decide (((x%16:Nat):Int)≤12)&&decide (((y%16:Nat):Int)≤12))&&decide (((y/16%4:Nat):Int)=0)&&decide (((nU y:Nat):Int)=0))
   = (decide (y/256%16≤12)&&(decide (x%16≤12)&&decide (y%16≤12))&&decide (y/16%4=0)&&decide (nU y=0)):=by
  rw [decide_eq_decide.2 (show((y/256%16:Nat):Int)≤12↔y/256%16≤12 by omega),decide_eq_decide.2 (show((y%16:Nat):Int)≤12↔y%16≤12 by omega),decide_eq_decide.2 (show((x%16:Nat):Int)≤12↔x%16≤12 by omega),
   decide_eq_decide.2 (show((y/16%4:Nat):Int)=0↔y/16%4=0 by omega),decide_eq_decide.2 (show((nU y:Nat):Int)=0↔nU y=0 by omega)]
 have L0:=@Wj x x32 ((y/256%16:Nat):Int) ((x%16:Nat):Int) ((y%16:Nat):Int) ((nU y:Nat):Int) ((y/16%4:Nat):Int)
 have L1:=@ai2 x x32 ((y/256%16:Nat):Int) ((x%16:Nat):Int) ((y%16:Nat):Int) ((nU y:Nat):Int) ((y/16%4:Nat):Int)
 have L2:=@ai3 x x32 ((y/256%16:Nat):Int) ((x%16:Nat):Int) ((y%16:Nat):Int) ((nU y:Nat):Int) ((y/16%4:Nat):Int)
 have L3:=@ai4 x x32 ((y/256%16:Nat):Int) ((x%16:Nat):Int) ((y%16:Nat):Int) ((nU y:Nat):Int) ((y/16%4:Nat):Int)
 have L4:=@ai5 x x32 ((y/256%16:Nat):Int) ((x%16:Nat):Int) ((y%16:Nat):Int) ((nU y:Nat):Int) ((y/16%4:Nat):Int)
 have L5:=@ai6 x x32 ((y/256%16:Nat):Int) ((x%16:Nat):Int) ((y%16:Nat):Int) ((nU y:Nat):Int) ((y/16%4:Nat):Int)
 have L6:=@ai7 x x32 ((y/256%16:Nat):Int) ((x%16:Nat):Int) ((y%16:Nat):Int) ((nU y:Nat):Int) ((y/16%4:Nat):Int)
 simp only [KH,e3] at L0 L1 L2 L3 L4 L5
 simp only [Cr] at L0 L1 L2 L3 L4 L5 L6
 have p15:(((y/32768:Nat):Int)=1)=(y/32768=1):=propext ⟨fun h=>by omega,fun h=>by omega⟩
 have pA:((x:Int)=59983)=(x=59983):=propext ⟨fun h=>by omega,fun h=>by omega⟩
 have pB:((x:Int)=60015)=(x=60015):=propext ⟨fun h=>by omega,fun h=>by omega⟩
 have pT:(((y/16%4:Nat):Int)=0)=(y/16%4=0):=propext ⟨fun h=>by omega,fun h=>by omega⟩
 have pS:(((nU y:Nat):Int)=0)=(nU y=0):=propext ⟨fun h=>by omega,fun h=>by omega⟩
 have pS2:((0:Int)<((nU y:Nat):Int))=(0<nU y):=propext ⟨fun h=>by omega,fun h=>by omega⟩
 generalize hb3:(decide (y/256%16≤12)&&(decide (x%16≤12)&&decide (y%16≤12))&&decide (y/16%4=0)&&decide (nU y=0))=b3 at L0 L1 L2 L3 L4 L5 ⊢
 generalize hb2:(decide (y/256%16≤12)&&decide (y%16≤12))=b2 at kr2 ⊢
 clear hb3 hb2 e3 hbig
 generalize y/32768=Q at s15 p15 ⊢
 generalize x/16*16=X at L0 L1 L2 L3 L4 L5 L6 ⊢
 generalize hSH:nU y=SH at o1 L0 L1 L2 L3 L4 L5 L6 pS pS2 ⊢
 generalize hTU:y/16%4=TU at q42 w5 pT L0 L1 L2 L3 L4 L5 L6 ⊢
 generalize ((y/4096%8*4:Nat):Int)=S1 at s2 o1
 generalize ((y/64%4:Nat):Int)=S2 at q62 o1
 generalize ((y/4096%8:Nat):Int)=S3 at q123 s2
 generalize ((y/256%16:Nat):Int)=D at *
 generalize ((y%16:Nat):Int)=M at *
 generalize ((x%16:Nat):Int)=N at *
 by_cases hQ:Q=1
 ·have hQ':=p15.symm ▸ hQ
  simp -implicitDefEqProofs [-kU,lU,lV,H3,q84,qx,qy,q123,q62,q42,s15,s2,o1,w5,A9,EH,kr2,eq_true hQ,eq_true hQ']
 have w50:IntKind.i64.wrap 5=5:=by decide
 have hQ':¬(Q:Int)=1:=p15.symm ▸ hQ
 by_cases hA:x=59983
 ·have hA':(x:Int)=59983:=pA.symm ▸ hA
  cases b2 <;> by_cases hT:TU=0 <;> by_cases hS:0<SH <;>
   (first | have hT':(TU:Int)=0:=pT.symm ▸ hT | have hT':¬(TU:Int)=0:=pT.symm ▸ hT) <;>
   (first | have hS':(0:Int)<(SH:Int):=pS2.symm ▸ hS | have hS':¬(0:Int)<(SH:Int):=pS2.symm ▸ hS) <;>
   simp -implicitDefEqProofs [-kU,lU,lV,H3,q84,qx,qy,q123,q62,q42,s15,s2,o1,w5,A9,EH,kr2,eq_false hQ,eq_false hQ',eq_true hA,eq_true hA',hT,hT',hS,hS',w50]
 have hA':¬(x:Int)=59983:=pA.symm ▸ hA
 by_cases hB:x=60015
 ·have hB':(x:Int)=60015:=pB.symm ▸ hB
  cases b2 <;> by_cases hT:TU=0 <;> by_cases hS:SH=0 <;>
   (first | have hT':(TU:Int)=0:=pT.symm ▸ hT | have hT':¬(TU:Int)=0:=pT.symm ▸ hT) <;>
   (first | have hS':(SH:Int)=0:=pS.symm ▸ hS | have hS':¬(SH:Int)=0:=pS.symm ▸ hS) <;>
   simp -implicitDefEqProofs [-kU,lU,lV,H3,q84,qx,qy,q123,q62,q42,s15,s2,o1,w5,A9,EH,kr2,eq_false hQ,eq_false hQ',eq_false hA,eq_false hA',eq_true hB,eq_true hB',hT,hT',hS,hS']
 have hB':¬(x:Int)=60015:=pB.symm ▸ hB
 by_cases k0:X=59904
 ·simp -implicitDefEqProofs [-kU,lU,lV,H3,q84,qx,qy,q123,q62,q42,s15,s2,o1,w5,A9,EH,kr2,eq_false hQ,eq_false hQ',eq_false hA,eq_false hA',eq_false hB,eq_false hB',eq_true k0,P6,L0 k0]
 by_cases k1:X=59936
 ·simp -implicitDefEqProofs [-kU,lU,lV,H3,q84,qx,qy,q123,q62,q42,s15,s2,o1,w5,A9,EH,kr2,eq_false hQ,eq_false hQ',eq_false hA,eq_false hA',eq_false hB,eq_false hB',eq_false k0,eq_true k1,P6,L1 k0 k1]
 by_cases k2:X=59968
 ·simp -implicitDefEqProofs [-kU,lU,lV,H3,q84,qx,qy,q123,q62,q42,s15,s2,o1,w5,A9,EH,kr2,eq_false hQ,eq_false hQ',eq_false hA,eq_false hA',eq_false hB,eq_false hB',eq_false k0,eq_false k1,eq_true k2,P6,L2 k0 k1 k2]
 by_cases k3:X=60032
 ·simp -implicitDefEqProofs [-kU,lU,lV,H3,q84,qx,qy,q123,q62,q42,s15,s2,o1,w5,A9,EH,kr2,eq_false hQ,eq_false hQ',eq_false hA,eq_false hA',eq_false hB,eq_false hB',eq_false k0,eq_false k1,eq_false k2,eq_true k3,P6,L3 k0 k1 k2 k3]
 by_cases k4:X=60160
 ·simp -implicitDefEqProofs [-kU,lU,lV,H3,q84,qx,qy,q123,q62,q42,s15,s2,o1,w5,A9,EH,kr2,eq_false hQ,eq_false hQ',eq_false hA,eq_false hA',eq_false hB,eq_false hB',eq_false k0,eq_false k1,eq_false k2,eq_false k3,eq_true k4,P6,L4 k0 k1 k2 k3 k4]
 by_cases k5:X=60320
 ·simp -implicitDefEqProofs [-kU,lU,lV,H3,q84,qx,qy,q123,q62,q42,s15,s2,o1,w5,A9,EH,kr2,eq_false hQ,eq_false hQ',eq_false hA,eq_false hA',eq_false hB,eq_false hB',eq_false k0,eq_false k1,eq_false k2,eq_false k3,eq_false k4,eq_true k5,P6,L5 k0 k1 k2 k3 k4 k5]
 simp -implicitDefEqProofs [-kU,lU,lV,H3,q84,qx,qy,q123,q62,q42,s15,s2,o1,w5,A9,EH,kr2,eq_false hQ,eq_false hQ',eq_false hA,eq_false hA',eq_false hB,eq_false hB',eq_false k0,eq_false k1,eq_false k2,eq_false k3,eq_false k4,eq_false k5,P6,L6 k0 k1 k2 k3 k4 k5]
end
section
open Go Hk
theorem OU (x n:Nat) (hn:n≤62) (h:kO):KK 131 [.int .i64 (x:Int),.int .i64 0,.int .i64 (n:Int)] h=some (.ret (.int .i64 ((x%2^n:Nat):Int)),h):=by
 have:=z4 x 0 n (by decide) hn h;rw [Nat.pow_zero,Nat.div_one] at this;exact this
def n_ (x y:Nat):lL×Bool :=
 if y/16%16≠0 then(⟨0,0,0,0,0,0,0,false⟩,false)
 else if x/16*16=64256 then(⟨16,(y/256%16:Nat),(x%16:Nat),(y%16:Nat),0,0,0,false⟩,decide (y/4096%16=15)&&(decide (y/256%16≤12)&&(decide (x%16≤12)&&decide (y%16≤12))))
 else if x/16*16=64416 then(⟨17,(y/4096%16:Nat),(x%16:Nat),(y%16:Nat),(y/256%16:Nat),0,0,false⟩,decide (y/4096%16≠y/256%16)&&(decide (y/4096%16≤12)&&(decide (y/256%16≤12)&&(decide (x%16≤12)&&decide (y%16≤12)))))
 else(⟨0,0,0,0,0,0,0,false⟩,false)
theorem Cn (a b:Nat):(((a:Nat):Int)=((b:Nat):Int))=(a=b):=propext Int.ofNat_inj
theorem dle (a:Nat):decide (((a:Nat):Int)≤12)=decide (a≤12):=decide_eq_decide.2 ⟨fun h=>by omega,fun h=>by omega⟩
set_option maxHeartbeats 8000000 in
theorem aB6 (x y:Nat) (hx:x<65536) (hy:y<65536) (h:kO):KK 134 [.int .i64 (x:Int),.int .i64 (y:Int)] h=some (.ret (.tuple [.agg (n_ x y).1.cells,.bool (n_ x y).2]),h):=by
 refine qC rfl rfl (aaA ..) ?_
 have qx:∀h,KK 131 [.int .i64 (x:Int),.int .i64 0,.int .i64 4] h=some (.ret (.int .i64 ((x%16:Nat):Int)),h):=fun h=>OU x 4 (by decide) h
 have qy:∀h,KK 131 [.int .i64 (y:Int),.int .i64 0,.int .i64 4] h=some (.ret (.int .i64 ((y%16:Nat):Int)),h):=fun h=>OU y 4 (by decide) h
 have q12:∀h,KK 131 [.int .i64 (y:Int),.int .i64 12,.int .i64 4] h=some (.ret (.int .i64 ((y/4096%16:Nat):Int)),h):=fun h=>z4 y 12 4 (by decide) (by decide) h
 have q8:∀h,KK 131 [.int .i64 (y:Int),.int .i64 8,.int .i64 4] h=some (.ret (.int .i64 ((y/256%16:Nat):Int)),h):=fun h=>z4 y 8 4 (by decide) (by decide) h
 have q4:∀h,KK 131 [.int .i64 (y:Int),.int .i64 4,.int .i64 4] h=some (.ret (.int .i64 ((y/16%16:Nat):Int)),h):=fun h=>z4 y 4 4 (by decide) (by decide) h
 have ha:=K9 (x:=x) (by omega)
 have kr3:=fun h=>Wh ((y/256%16:Nat):Int) ((x%16:Nat):Int) ((y%16:Nat):Int) h
 have kr4:=fun h=>aiX ((y/4096%16:Nat):Int) ((y/256%16:Nat):Int) ((x%16:Nat):Int) ((y%16:Nat):Int) h
 simp only [dle] at kr3 kr4
 unfold n_
 generalize (decide (y/256%16≤12)&&(decide (x%16≤12)&&decide (y%16≤12)))=b3 at kr3 kr4 ⊢
 generalize (decide (y/4096%16≤12)&&b3)=b4 at kr4 ⊢
 have p4:(((y/16%16:Nat):Int)=0)=(y/16%16=0):=Cn _ 0
 have pa:(((x/16*16:Nat):Int)=64256)=(x/16*16=64256):=Cn _ 64256
 have pb:(((x/16*16:Nat):Int)=64416)=(x/16*16=64416):=Cn _ 64416
 have pc:(((y/4096%16:Nat):Int)=15)=(y/4096%16=15):=Cn _ 15
 have pd:(((y/4096%16:Nat):Int)=((y/256%16:Nat):Int))=(y/4096%16=y/256%16):=Cn _ _
 generalize y/16%16=Q at *
 generalize x/16*16=X at *
 generalize y/4096%16=A at *
 generalize y/256%16=B at *
 generalize ((y%16:Nat):Int)=M at *
 generalize ((x%16:Nat):Int)=N at *
 by_cases hQ:Q=0
 ·have hQ':=p4.symm ▸ hQ
  by_cases hA:X=64256
  ·have hA':=pa.symm ▸ hA
   by_cases hC:A=15
   ·have hC':=pc.symm ▸ hC
    simp -implicitDefEqProofs [-kU,lU,lV,Qj,qx,qy,q12,q8,q4,ha,kr3,EH,eq_true hQ,eq_true hQ',eq_true hA,eq_true hA',eq_true hC,eq_true hC']
   ·have hC':¬(A:Int)=15:=pc.symm ▸ hC
    simp -implicitDefEqProofs [-kU,lU,lV,Qj,qx,qy,q12,q8,q4,ha,kr3,EH,eq_true hQ,eq_true hQ',eq_true hA,eq_true hA',eq_false hC,eq_false hC']
  ·have hA':¬(X:Int)=64256:=pa.symm ▸ hA
   by_cases hB:X=64416
   ·have hB':=pb.symm ▸ hB
    by_cases hC:A=B
    ·have hC':=pd.symm ▸ hC
     simp -implicitDefEqProofs [-kU,lU,lV,Qj,qx,qy,q12,q8,q4,ha,kr4,as0,eq_true hQ,eq_true hQ',eq_false hA,eq_false hA',eq_true hB,eq_true hB',eq_true hC,eq_true hC']
    ·have hC':¬(A:Int)=(B:Int):=pd.symm ▸ hC
     simp -implicitDefEqProofs [-kU,lU,lV,Qj,qx,qy,q12,q8,q4,ha,kr4,as0,eq_true hQ,eq_true hQ',eq_false hA,eq_false hA',eq_true hB,eq_true hB',eq_false hC,eq_false hC']
   ·have hB':¬(X:Int)=64416:=pb.symm ▸ hB
    simp -implicitDefEqProofs [-kU,lU,lV,Qj,qx,qy,q12,q8,q4,ha,eq_true hQ,eq_true hQ',eq_false hA,eq_false hA',eq_false hB,eq_false hB']
 ·have hQ':¬(Q:Int)=0:=p4.symm ▸ hQ
  simp -implicitDefEqProofs [-kU,lU,lV,Qj,qx,qy,q12,q8,q4,ha,eq_false hQ,eq_false hQ']
end
section
open Go Hk
theorem tA {a b k:Nat}(hk:k≤40) (ha:a*2^k<4611686018427387904) (hb:b<2^k):sD .i64 ((a*2^k:Nat):Int) (b:Int)=((a*2^k+b:Nat):Int):=by
 have hp:2^k≤2^40:=al2 (by decide) hk
 have hp':2^k≤1099511627776:=hp
 have:=Nat.two_pow_add_eq_or_of_lt hb a
 rw [Nat.mul_comm] at this
 unfold sD
 rw [show IntKind.i64.bits=64 from rfl,BitVec.toNat_or,zU,zU]
 generalize a*2^k=A at *
 generalize 2^k=q at *
 rw [show((A:Int)%18446744073709551616).toNat=A from by omega,show((b:Int)%18446744073709551616).toNat=b from by omega,←this,lP _ (by omega) (by omega)]
theorem ac1 (a k:Nat) (hk:k<64) (ha:a*2^k<4611686018427387904):lF .shl (.int .i64 (a:Int)) (.int .u64 (k:Int))=some (.int .i64 ((a*2^k:Nat):Int)):=by
 simp only [lF]
 rw [if_neg (by omega),show min ((k:Int).toNat) IntKind.i64.bits=k from by simp [IntKind.bits];omega,oQ,←Int.natCast_mul]
 generalize a*2^k=A at *
 rw [lP _ (by omega) (by omega)]
def Am (x:Nat):Nat:=x/2048*2048+x/16%64*16
theorem VI {x:Nat}(hx:x<4294967296):Jc .i64 (x:Int) 1039=((Am x:Nat):Int):=by
 obtain⟨z,h1,h2,h3⟩:=N_ hx (show 1039<4294967296 by decide)
 rw [show(1039:Int)=((1039:Nat):Int) from rfl,h1]
 congr 1
 refine Nat.eq_of_testBit_eq fun k=>?_
 have hlt:x/16%64*16<2^11:=by omega
 rw [h3,Am,show x/2048*2048=2^11*(x/2^11) from by omega,Nat.testBit_two_pow_mul_add _ hlt,Nat.testBit_div_two_pow,show x/16%64*16=x/2^4%2^6*2^4 from rfl,Nat.testBit_mul_two_pow,Nat.testBit_mod_two_pow,Nat.testBit_div_two_pow]
 by_cases h:k<11
 ·rw [if_pos h]
  match k,h with
  | 0,_ | 1,_ | 2,_ | 3,_ | 4,_ | 5,_ | 6,_ | 7,_ | 8,_ | 9,_ | 10,_=>simp [show Nat.testBit 1039 0=true from rfl,show Nat.testBit 1039 1=true from rfl,show Nat.testBit 1039 2=true from rfl,show Nat.testBit 1039 3=true from rfl,show Nat.testBit 1039 4=false from rfl,show Nat.testBit 1039 5=false from rfl,show Nat.testBit 1039 6=false from rfl,show Nat.testBit 1039 7=false from rfl,show Nat.testBit 1039 8=false from rfl,show Nat.testBit 1039 9=false from rfl,show Nat.testBit 1039 10=true from rfl]
 ·have hp:2^11≤2^k:=al2 (by decide) (by omega)
  rw [if_neg h,Nat.testBit_lt_two_pow (Nat.lt_of_lt_of_le (by decide:1039<2^11) hp),show k-11+11=k from by omega];simp
def JQ (x y:Nat):Nat:=x%16*4096+x/1024%2*2048+y/4096%8*256+y%256
def qT (x y:Nat):lL×Bool :=
 if y/32768=1 then(⟨0,0,0,0,0,0,0,false⟩,false)
 else if x/16*16=62304 then(⟨18,(y/256%16:Nat),(x%16:Nat),0,(y%32:Nat)+1-(nU y:Nat),(nU y:Nat),0,false⟩,
  decide (y/32%2=0)&&decide (nU y≤y%32)&&(decide (y/256%16≤12)&&decide (x%16≤12)))
 else if Am x=62016 then(⟨3,(y/256%16:Nat),0,0,0,(JQ x y:Nat),0,false⟩,decide (y/256%16≤12))
 else if Am x=62144 then(⟨4,(y/256%16:Nat),0,0,0,(JQ x y:Nat),0,false⟩,decide (y/256%16≤12))
 else(⟨0,0,0,0,0,0,0,false⟩,false)
theorem P5 (a:Int) (h:kO):lE 1 1 [.int .i64 0] [(0,.int .i64 a)] h=some (.slice [[.int .i64 a]] (.own h.length),h++[.front 1 1]):=(rfl)
set_option maxRecDepth 100000 in
set_option maxHeartbeats 8000000 in
theorem aB7 (x y:Nat) (hx:x<65536) (hy:y<65536) (h:kO):KK 135 [.int .i64 (x:Int),.int .i64 (y:Int)] h=some (.ret (.tuple [.agg (qT x y).1.cells,.bool (qT x y).2]),h):=by
 refine qC rfl rfl (aaB ..) ?_
 have q84:∀h,KK 131 [.int .i64 (y:Int),.int .i64 8,.int .i64 4] h=some (.ret (.int .i64 ((y/256%16:Nat):Int)),h):=fun h=>z4 y 8 4 (by decide) (by decide) h
 have qx:∀h,KK 131 [.int .i64 (x:Int),.int .i64 0,.int .i64 4] h=some (.ret (.int .i64 ((x%16:Nat):Int)),h):=fun h=>OU x 4 (by decide) h
 have q123:∀h,KK 131 [.int .i64 (y:Int),.int .i64 12,.int .i64 3] h=some (.ret (.int .i64 ((y/4096%8:Nat):Int)),h):=fun h=>z4 y 12 3 (by decide) (by decide) h
 have q62:∀h,KK 131 [.int .i64 (y:Int),.int .i64 6,.int .i64 2] h=some (.ret (.int .i64 ((y/64%4:Nat):Int)),h):=fun h=>z4 y 6 2 (by decide) (by decide) h
 have q05:∀h,KK 131 [.int .i64 (y:Int),.int .i64 0,.int .i64 5] h=some (.ret (.int .i64 ((y%32:Nat):Int)),h):=fun h=>OU y 5 (by decide) h
 have q51:∀h,KK 131 [.int .i64 (y:Int),.int .i64 5,.int .i64 1] h=some (.ret (.int .i64 ((y/32%2:Nat):Int)),h):=fun h=>z4 y 5 1 (by decide) (by decide) h
 have q101:∀h,KK 131 [.int .i64 (x:Int),.int .i64 10,.int .i64 1] h=some (.ret (.int .i64 ((x/1024%2:Nat):Int)),h):=fun h=>z4 x 10 1 (by decide) (by decide) h
 have q08:∀h,KK 131 [.int .i64 (y:Int),.int .i64 0,.int .i64 8] h=some (.ret (.int .i64 ((y%256:Nat):Int)),h):=fun h=>OU y 8 (by decide) h
 have s15:lF .shr (.int .i64 (y:Int)) (.int .u64 15)=some (.int .i64 ((y/32768:Nat):Int)):=shN y 15 (by decide)
 have s2:lF .shl (.int .i64 ((y/4096%8:Nat):Int)) (.int .u64 2)=some (.int .i64 ((y/4096%8*4:Nat):Int)):=ac1 _ 2 (by decide) (by omega)
 have s8:lF .shl (.int .i64 ((y/4096%8:Nat):Int)) (.int .u64 8)=some (.int .i64 ((y/4096%8*256:Nat):Int)):=ac1 _ 8 (by decide) (by omega)
 have s12:lF .shl (.int .i64 ((x%16:Nat):Int)) (.int .u64 12)=some (.int .i64 ((x%16*4096:Nat):Int)):=ac1 _ 12 (by decide) (by omega)
 have s11:lF .shl (.int .i64 ((x/1024%2:Nat):Int)) (.int .u64 11)=some (.int .i64 ((x/1024%2*2048:Nat):Int)):=ac1 _ 11 (by decide) (by omega)
 have o1:sD .i64 ((y/4096%8*4:Nat):Int) ((y/64%4:Nat):Int)=((nU y:Nat):Int):=at7 (by omega) (by omega)
 have o2:sD .i64 ((x%16*4096:Nat):Int) ((x/1024%2*2048:Nat):Int)=((x%16*4096+x/1024%2*2048:Nat):Int):=tA (k:=12) (by decide) (by omega) (by omega)
 have o3:sD .i64 ((x%16*4096+x/1024%2*2048:Nat):Int) ((y/4096%8*256:Nat):Int)=((x%16*4096+x/1024%2*2048+y/4096%8*256:Nat):Int):=by
  have:=tA (a:=x%16*2+x/1024%2) (b:=y/4096%8*256) (k:=11) (by decide) (by omega) (by omega)
  rw [show(x%16*2+x/1024%2)*2^11=x%16*4096+x/1024%2*2048 from by omega] at this
  exact this
 have o4:sD .i64 ((x%16*4096+x/1024%2*2048+y/4096%8*256:Nat):Int) ((y%256:Nat):Int)=((JQ x y:Nat):Int):=by
  have:=tA (a:=x%16*16+x/1024%2*8+y/4096%8) (b:=y%256) (k:=8) (by decide) (by omega) (by omega)
  rw [show(x%16*16+x/1024%2*8+y/4096%8)*2^8=x%16*4096+x/1024%2*2048+y/4096%8*256 from by omega] at this
  exact this
 have ha:=K9 (x:=x) (by omega)
 have hc:=VI (x:=x) (by omega)
 have hsh:nU y<32:=by unfold nU;omega
 have hw1:IntKind.i64.wrap (((y%32:Nat):Int)+1)=((y%32:Nat):Int)+1:=lP _ (by omega) (by omega)
 have hw2:IntKind.i64.wrap (((y%32:Nat):Int)+1-((nU y:Nat):Int))=((y%32:Nat):Int)+1-((nU y:Nat):Int):=lP _ (by omega) (by omega)
 have kr1:=fun h=>aiW ((y/256%16:Nat):Int) h
 have kr2:=fun h=>Wg ((y/256%16:Nat):Int) ((x%16:Nat):Int) h
 simp only [dle] at kr1 kr2
 unfold qT
 have p15:(((y/32768:Nat):Int)=1)=(y/32768=1):=Cn _ 1
 have pa:(((x/16*16:Nat):Int)=62304)=(x/16*16=62304):=Cn _ 62304
 have pb:(((Am x:Nat):Int)=62016)=(Am x=62016):=Cn _ 62016
 have pc:(((Am x:Nat):Int)=62144)=(Am x=62144):=Cn _ 62144
 have pd:(((y/32%2:Nat):Int)=0)=(y/32%2=0):=Cn _ 0
 have pe:((1:Int)≤((y%32:Nat):Int)+1-((nU y:Nat):Int))=(nU y≤y%32):=propext ⟨fun h=>by omega,fun h=>by omega⟩
 generalize (decide (y/256%16≤12)&&decide (x%16≤12))=b2 at kr2 ⊢
 generalize decide (y/256%16≤12)=b1 at kr1 ⊢
 generalize ((JQ x y:Nat):Int)=IM at o4 ⊢
 generalize ((x%16*4096+x/1024%2*2048+y/4096%8*256:Nat):Int)=T3 at o3 o4
 generalize ((x%16*4096+x/1024%2*2048:Nat):Int)=T2 at o2 o3
 generalize ((x%16*4096:Nat):Int)=T1 at s12 o2
 generalize ((x/1024%2*2048:Nat):Int)=T0 at s11 o2
 generalize ((y/4096%8*256:Nat):Int)=T4 at s8 o3
 generalize ((y/4096%8*4:Nat):Int)=T5 at s2 o1
 generalize ((y/4096%8:Nat):Int)=T6 at q123 s2 s8
 generalize ((y/64%4:Nat):Int)=T7 at q62 o1
 generalize ((y%256:Nat):Int)=T8 at q08 o4
 generalize ((x/1024%2:Nat):Int)=T9 at q101 s11
 generalize ((y/256%16:Nat):Int)=D at q84 kr1 kr2 ⊢
 generalize ((x%16:Nat):Int)=N at qx s12 kr2 ⊢
 generalize ((nU y:Nat):Int)=SH at o1 hw2 pe ⊢
 generalize ((y%32:Nat):Int)=U at q05 hw1 hw2 pe ⊢
 generalize y/32768=Q at s15 p15 ⊢
 generalize x/16*16=X at ha pa ⊢
 generalize Am x=C at hc pb pc ⊢
 generalize y/32%2=V at q51 pd ⊢
 by_cases hQ:Q=1
 ·have hQ':=p15.symm ▸ hQ
  simp -implicitDefEqProofs [-kU,lU,lV,OZ,q84,qx,q123,q62,q05,q51,q101,q08,s15,s2,s8,s12,s11,o1,o2,o3,o4,ha,hc,hw1,hw2,kr1,kr2,P5,A9,eq_true hQ,eq_true hQ']
 have hQ':¬(Q:Int)=1:=p15.symm ▸ hQ
 by_cases hA:X=62304
 ·have hA':(X:Int)=62304:=pa.symm ▸ hA
  by_cases hV:V=0
  ·have hV':(V:Int)=0:=pd.symm ▸ hV
   by_cases hE:nU y≤y%32
   ·have hE':(1:Int)≤U+1-SH:=by rw [pe];exact hE
    simp -implicitDefEqProofs [-kU,lU,lV,OZ,q84,qx,q123,q62,q05,q51,q101,q08,s15,s2,s8,s12,s11,o1,o2,o3,o4,ha,hc,hw1,hw2,kr1,kr2,P5,A9,eq_false hQ,eq_false hQ',eq_true hA,eq_true hA',eq_true hV,eq_true hV',eq_true hE,eq_true hE']
   ·have hE':¬(1:Int)≤U+1-SH:=by rw [pe];exact hE
    simp -implicitDefEqProofs [-kU,lU,lV,OZ,q84,qx,q123,q62,q05,q51,q101,q08,s15,s2,s8,s12,s11,o1,o2,o3,o4,ha,hc,hw1,hw2,kr1,kr2,P5,A9,eq_false hQ,eq_false hQ',eq_true hA,eq_true hA',eq_true hV,eq_true hV',eq_false hE,eq_false hE']
  ·have hV':¬(V:Int)=0:=pd.symm ▸ hV
   simp -implicitDefEqProofs [-kU,lU,lV,OZ,q84,qx,q123,q62,q05,q51,q101,q08,s15,s2,s8,s12,s11,o1,o2,o3,o4,ha,hc,hw1,hw2,kr1,kr2,P5,A9,eq_false hQ,eq_false hQ',eq_true hA,eq_true hA',eq_false hV,eq_false hV']
 have hA':¬(X:Int)=62304:=pa.symm ▸ hA
 by_cases hB:C=62016
 ·have hB':(C:Int)=62016:=pb.symm ▸ hB
  simp -implicitDefEqProofs [-kU,lU,lV,OZ,q84,qx,q123,q62,q05,q51,q101,q08,s15,s2,s8,s12,s11,o1,o2,o3,o4,ha,hc,hw1,hw2,kr1,kr2,P5,A9,eq_false hQ,eq_false hQ',eq_false hA,eq_false hA',eq_true hB,eq_true hB']
 have hB':¬(C:Int)=62016:=pb.symm ▸ hB
 by_cases hC:C=62144
 ·have hC':(C:Int)=62144:=pc.symm ▸ hC
  simp -implicitDefEqProofs [-kU,lU,lV,OZ,q84,qx,q123,q62,q05,q51,q101,q08,s15,s2,s8,s12,s11,o1,o2,o3,o4,ha,hc,hw1,hw2,kr1,kr2,P5,A9,eq_false hQ,eq_false hQ',eq_false hA,eq_false hA',eq_false hB,eq_false hB',eq_true hC,eq_true hC']
 have hC':¬(C:Int)=62144:=pc.symm ▸ hC
 simp -implicitDefEqProofs [-kU,lU,lV,OZ,q84,qx,q123,q62,q05,q51,q101,q08,s15,s2,s8,s12,s11,o1,o2,o3,o4,ha,hc,hw1,hw2,kr1,kr2,P5,A9,eq_false hQ,eq_false hQ',eq_false hA,eq_false hA',eq_false hB,eq_false hB',eq_false hC,eq_false hC']
end
section
open Go Hk
def Gk (z hi lo:Nat):Nat:=(z*1024+hi)*2048+lo
def C_ (z hi lo:Nat):Nat:=(z*64+hi)*2048+lo
def qS (x y:Nat):lL×Bool :=
 if x/2048≠30∨y/16384≠2 then(⟨0,0,0,0,0,0,0,false⟩,false)
 else if y/4096%2=1 then(⟨24,0,0,0,0,2*xV (Gk (x/1024%2*4+(1+y/8192%2+x/1024%2)%2*2+(1+y/2048%2+x/1024%2)%2) (x%1024) (y%2048)) 24,0,true⟩,true)
 else(⟨25,0,0,0,0,2*xV (C_ (x/1024%2*4+y/2048%2*2+y/8192%2) (x%64) (y%2048)) 20,(x/64%16:Nat),true⟩,decide (x/64%16≤13))
theorem XK (x n:Nat) (hn:n≤62):t131 (x:Int) 0 (n:Int)=some ((x%2^n:Nat):Int):=by
 have:=CM x 0 n (by decide) hn;rw [Nat.pow_zero,Nat.div_one] at this;exact this
theorem uI (a:Nat) (ha:a<1024):qP .i64 (a:Int) 11=some ((a*2048:Nat):Int):=by
 show qP .i64 (a:Int) ((11:Nat):Int)=_
 unfold qP
 rw [if_neg (by omega),show min (((11:Nat):Int).toNat) IntKind.i64.bits=11 from rfl,oQ,←Int.natCast_mul,show 2^11=2048 from rfl,lP _ (by omega) (by omega)]
theorem tbr {s u v HI LO:Nat}(hs:s<2) (hu:u<2) (hv:v<2) (hh:HI<1024) (hl:LO<2048):∃v1 v2 v3 v4,qP .i64 (s:Int) 23=some v1∧qP .i64 (u:Int) 22=some v2∧qP .i64 (v:Int) 21=some v3∧qP .i64 (HI:Int) 11=some v4∧sD .i64 (sD .i64 (sD .i64 (sD .i64 v1 v2) v3) v4) (LO:Int)=((Gk (s*4+u*2+v) HI LO:Nat):Int):=by
 match s,u,v,hs,hu,hv with
 | 0,0,0,_,_,_ =>
  refine⟨0,0,0,_,rfl,rfl,rfl,uI HI (by omega),?_⟩
  have e1:sD .i64 (sD .i64 0 0) 0=((0*2^21:Nat):Int):=rfl
  rw [e1,tA (k:=21) (by decide) (by decide) (by omega)]
  have:=tA (a:=0+HI) (b:=LO) (k:=11) (by decide) (by omega) (by omega)
  rw [show(0+HI)*2^11=0*2^21+HI*2048 from by omega] at this
  have e2:0*2^21+HI*2048+LO=Gk (0*4+0*2+0) HI LO:=by unfold Gk;omega
  rw [this,e2]
 | 0,0,1,_,_,_ =>
  refine⟨0,0,2097152,_,rfl,rfl,rfl,uI HI (by omega),?_⟩
  have e1:sD .i64 (sD .i64 0 0) 2097152=((1*2^21:Nat):Int):=rfl
  rw [e1,tA (k:=21) (by decide) (by decide) (by omega)]
  have:=tA (a:=1024+HI) (b:=LO) (k:=11) (by decide) (by omega) (by omega)
  rw [show(1024+HI)*2^11=1*2^21+HI*2048 from by omega] at this
  have e2:1*2^21+HI*2048+LO=Gk (0*4+0*2+1) HI LO:=by unfold Gk;omega
  rw [this,e2]
 | 0,1,0,_,_,_ =>
  refine⟨0,4194304,0,_,rfl,rfl,rfl,uI HI (by omega),?_⟩
  have e1:sD .i64 (sD .i64 0 4194304) 0=((2*2^21:Nat):Int):=rfl
  rw [e1,tA (k:=21) (by decide) (by decide) (by omega)]
  have:=tA (a:=2048+HI) (b:=LO) (k:=11) (by decide) (by omega) (by omega)
  rw [show(2048+HI)*2^11=2*2^21+HI*2048 from by omega] at this
  have e2:2*2^21+HI*2048+LO=Gk (0*4+1*2+0) HI LO:=by unfold Gk;omega
  rw [this,e2]
 | 0,1,1,_,_,_ =>
  refine⟨0,4194304,2097152,_,rfl,rfl,rfl,uI HI (by omega),?_⟩
  have e1:sD .i64 (sD .i64 0 4194304) 2097152=((3*2^21:Nat):Int):=rfl
  rw [e1,tA (k:=21) (by decide) (by decide) (by omega)]
  have:=tA (a:=3072+HI) (b:=LO) (k:=11) (by decide) (by omega) (by omega)
  rw [show(3072+HI)*2^11=3*2^21+HI*2048 from by omega] at this
  have e2:3*2^21+HI*2048+LO=Gk (0*4+1*2+1) HI LO:=by unfold Gk;omega
  rw [this,e2]
 | 1,0,0,_,_,_ =>
  refine⟨8388608,0,0,_,rfl,rfl,rfl,uI HI (by omega),?_⟩
  have e1:sD .i64 (sD .i64 8388608 0) 0=((4*2^21:Nat):Int):=rfl
  rw [e1,tA (k:=21) (by decide) (by decide) (by omega)]
  have:=tA (a:=4096+HI) (b:=LO) (k:=11) (by decide) (by omega) (by omega)
  rw [show(4096+HI)*2^11=4*2^21+HI*2048 from by omega] at this
  have e2:4*2^21+HI*2048+LO=Gk (1*4+0*2+0) HI LO:=by unfold Gk;omega
  rw [this,e2]
 | 1,0,1,_,_,_ =>
  refine⟨8388608,0,2097152,_,rfl,rfl,rfl,uI HI (by omega),?_⟩
  have e1:sD .i64 (sD .i64 8388608 0) 2097152=((5*2^21:Nat):Int):=rfl
  rw [e1,tA (k:=21) (by decide) (by decide) (by omega)]
  have:=tA (a:=5120+HI) (b:=LO) (k:=11) (by decide) (by omega) (by omega)
  rw [show(5120+HI)*2^11=5*2^21+HI*2048 from by omega] at this
  have e2:5*2^21+HI*2048+LO=Gk (1*4+0*2+1) HI LO:=by unfold Gk;omega
  rw [this,e2]
 | 1,1,0,_,_,_ =>
  refine⟨8388608,4194304,0,_,rfl,rfl,rfl,uI HI (by omega),?_⟩
  have e1:sD .i64 (sD .i64 8388608 4194304) 0=((6*2^21:Nat):Int):=rfl
  rw [e1,tA (k:=21) (by decide) (by decide) (by omega)]
  have:=tA (a:=6144+HI) (b:=LO) (k:=11) (by decide) (by omega) (by omega)
  rw [show(6144+HI)*2^11=6*2^21+HI*2048 from by omega] at this
  have e2:6*2^21+HI*2048+LO=Gk (1*4+1*2+0) HI LO:=by unfold Gk;omega
  rw [this,e2]
 | 1,1,1,_,_,_ =>
  refine⟨8388608,4194304,2097152,_,rfl,rfl,rfl,uI HI (by omega),?_⟩
  have e1:sD .i64 (sD .i64 8388608 4194304) 2097152=((7*2^21:Nat):Int):=rfl
  rw [e1,tA (k:=21) (by decide) (by decide) (by omega)]
  have:=tA (a:=7168+HI) (b:=LO) (k:=11) (by decide) (by omega) (by omega)
  rw [show(7168+HI)*2^11=7*2^21+HI*2048 from by omega] at this
  have e2:7*2^21+HI*2048+LO=Gk (1*4+1*2+1) HI LO:=by unfold Gk;omega
  rw [this,e2]
theorem tcr {s u v HI LO:Nat}(hs:s<2) (hu:u<2) (hv:v<2) (hh:HI<64) (hl:LO<2048):∃v1 v2 v3 v4,qP .i64 (s:Int) 19=some v1∧qP .i64 (u:Int) 18=some v2∧qP .i64 (v:Int) 17=some v3∧qP .i64 (HI:Int) 11=some v4∧sD .i64 (sD .i64 (sD .i64 (sD .i64 v1 v2) v3) v4) (LO:Int)=((C_ (s*4+u*2+v) HI LO:Nat):Int):=by
 match s,u,v,hs,hu,hv with
 | 0,0,0,_,_,_ =>
  refine⟨0,0,0,_,rfl,rfl,rfl,uI HI (by omega),?_⟩
  have e1:sD .i64 (sD .i64 0 0) 0=((0*2^17:Nat):Int):=rfl
  rw [e1,tA (k:=17) (by decide) (by decide) (by omega)]
  have:=tA (a:=0+HI) (b:=LO) (k:=11) (by decide) (by omega) (by omega)
  rw [show(0+HI)*2^11=0*2^17+HI*2048 from by omega] at this
  have e2:0*2^17+HI*2048+LO=C_ (0*4+0*2+0) HI LO:=by unfold C_;omega
  rw [this,e2]
 | 0,0,1,_,_,_ =>
  refine⟨0,0,131072,_,rfl,rfl,rfl,uI HI (by omega),?_⟩
  have e1:sD .i64 (sD .i64 0 0) 131072=((1*2^17:Nat):Int):=rfl
  rw [e1,tA (k:=17) (by decide) (by decide) (by omega)]
  have:=tA (a:=64+HI) (b:=LO) (k:=11) (by decide) (by omega) (by omega)
  rw [show(64+HI)*2^11=1*2^17+HI*2048 from by omega] at this
  have e2:1*2^17+HI*2048+LO=C_ (0*4+0*2+1) HI LO:=by unfold C_;omega
  rw [this,e2]
 | 0,1,0,_,_,_ =>
  refine⟨0,262144,0,_,rfl,rfl,rfl,uI HI (by omega),?_⟩
  have e1:sD .i64 (sD .i64 0 262144) 0=((2*2^17:Nat):Int):=rfl
  rw [e1,tA (k:=17) (by decide) (by decide) (by omega)]
  have:=tA (a:=128+HI) (b:=LO) (k:=11) (by decide) (by omega) (by omega)
  rw [show(128+HI)*2^11=2*2^17+HI*2048 from by omega] at this
  have e2:2*2^17+HI*2048+LO=C_ (0*4+1*2+0) HI LO:=by unfold C_;omega
  rw [this,e2]
 | 0,1,1,_,_,_ =>
  refine⟨0,262144,131072,_,rfl,rfl,rfl,uI HI (by omega),?_⟩
  have e1:sD .i64 (sD .i64 0 262144) 131072=((3*2^17:Nat):Int):=rfl
  rw [e1,tA (k:=17) (by decide) (by decide) (by omega)]
  have:=tA (a:=192+HI) (b:=LO) (k:=11) (by decide) (by omega) (by omega)
  rw [show(192+HI)*2^11=3*2^17+HI*2048 from by omega] at this
  have e2:3*2^17+HI*2048+LO=C_ (0*4+1*2+1) HI LO:=by unfold C_;omega
  rw [this,e2]
 | 1,0,0,_,_,_ =>
  refine⟨524288,0,0,_,rfl,rfl,rfl,uI HI (by omega),?_⟩
  have e1:sD .i64 (sD .i64 524288 0) 0=((4*2^17:Nat):Int):=rfl
  rw [e1,tA (k:=17) (by decide) (by decide) (by omega)]
  have:=tA (a:=256+HI) (b:=LO) (k:=11) (by decide) (by omega) (by omega)
  rw [show(256+HI)*2^11=4*2^17+HI*2048 from by omega] at this
  have e2:4*2^17+HI*2048+LO=C_ (1*4+0*2+0) HI LO:=by unfold C_;omega
  rw [this,e2]
 | 1,0,1,_,_,_ =>
  refine⟨524288,0,131072,_,rfl,rfl,rfl,uI HI (by omega),?_⟩
  have e1:sD .i64 (sD .i64 524288 0) 131072=((5*2^17:Nat):Int):=rfl
  rw [e1,tA (k:=17) (by decide) (by decide) (by omega)]
  have:=tA (a:=320+HI) (b:=LO) (k:=11) (by decide) (by omega) (by omega)
  rw [show(320+HI)*2^11=5*2^17+HI*2048 from by omega] at this
  have e2:5*2^17+HI*2048+LO=C_ (1*4+0*2+1) HI LO:=by unfold C_;omega
  rw [this,e2]
 | 1,1,0,_,_,_ =>
  refine⟨524288,262144,0,_,rfl,rfl,rfl,uI HI (by omega),?_⟩
  have e1:sD .i64 (sD .i64 524288 262144) 0=((6*2^17:Nat):Int):=rfl
  rw [e1,tA (k:=17) (by decide) (by decide) (by omega)]
  have:=tA (a:=384+HI) (b:=LO) (k:=11) (by decide) (by omega) (by omega)
  rw [show(384+HI)*2^11=6*2^17+HI*2048 from by omega] at this
  have e2:6*2^17+HI*2048+LO=C_ (1*4+1*2+0) HI LO:=by unfold C_;omega
  rw [this,e2]
 | 1,1,1,_,_,_ =>
  refine⟨524288,262144,131072,_,rfl,rfl,rfl,uI HI (by omega),?_⟩
  have e1:sD .i64 (sD .i64 524288 262144) 131072=((7*2^17:Nat):Int):=rfl
  rw [e1,tA (k:=17) (by decide) (by decide) (by omega)]
  have:=tA (a:=448+HI) (b:=LO) (k:=11) (by decide) (by omega) (by omega)
  rw [show(448+HI)*2^11=7*2^17+HI*2048 from by omega] at this
  have e2:7*2^17+HI*2048+LO=C_ (1*4+1*2+1) HI LO:=by unfold C_;omega
  rw [this,e2]
theorem txb {a b:Nat}(ha:a<2) (hb:b<2):C5 .i64 (C5 .i64 1 (a:Int)) (b:Int)=(((1+a+b)%2:Nat):Int):=by
 match a,b,ha,hb with
 | 0,0,_,_=>rfl
 | 0,1,_,_=>rfl
 | 1,0,_,_=>rfl
 | 1,1,_,_=>rfl
theorem ao9 (x y:Nat) (hx:x<65536) (hy:y<65536):t136 (x:Int) (y:Int)=some (qS x y):=by
 have a1:t131 (x:Int) 10 1=some ((x/1024%2:Nat):Int):=CM x 10 1 (by decide) (by decide)
 have a2:t131 (y:Int) 13 1=some ((y/8192%2:Nat):Int):=CM y 13 1 (by decide) (by decide)
 have a3:t131 (y:Int) 11 1=some ((y/2048%2:Nat):Int):=CM y 11 1 (by decide) (by decide)
 have a4:t131 (y:Int) 0 11=some ((y%2048:Nat):Int):=XK y 11 (by decide)
 have a5:sX .i64 (x:Int) 11=some ((x/2048:Nat):Int):=C4 11 (by decide)
 have a6:sX .i64 (y:Int) 14=some ((y/16384:Nat):Int):=C4 14 (by decide)
 have a7:t131 (y:Int) 12 1=some ((y/4096%2:Nat):Int):=CM y 12 1 (by decide) (by decide)
 have a8:t131 (x:Int) 0 10=some ((x%1024:Nat):Int):=XK x 10 (by decide)
 have a9:t131 (x:Int) 6 4=some ((x/64%16:Nat):Int):=CM x 6 4 (by decide) (by decide)
 have a10:t131 (x:Int) 0 6=some ((x%64:Nat):Int):=XK x 6 (by decide)
 have hs:x/1024%2<2:=by omega
 have hj1:y/8192%2<2:=by omega
 have hj2:y/2048%2<2:=by omega
 have hhi:x%1024<1024:=by omega
 have hhi2:x%64<64:=by omega
 have hlo:y%2048<2048:=by omega
 have b1:=txb hj1 hs
 have b2:=txb hj2 hs
 unfold t136 qS
 simp only [a1,a2,a3,a4,a5,a6,kS]
 by_cases h1:x/2048=30
 ·by_cases h2:y/16384=2
  ·rw [if_neg (by omega),h1,h2]
   simp only [show decide (((30:Nat):Int)=30)=true from rfl,show decide (((2:Nat):Int)=2)=true from rfl,Bool.not_true,kX,AG,a7,kS]
   generalize x/1024%2=S at *
   generalize y/8192%2=J1 at *
   generalize y/2048%2=J2 at *
   generalize x%1024=HI at *
   generalize x%64=HI2 at *
   generalize y%2048=LO at *
   by_cases h3:y/4096%2=1
   ·rw [if_pos h3,h3]
    have u1:(1+J1+S)%2<2:=by omega
    have u2:(1+J2+S)%2<2:=by omega
    generalize (1+J1+S)%2=U1 at *
    generalize (1+J2+S)%2=U2 at *
    obtain⟨v1,v2,v3,v4,c1,c2,c3,c4,d⟩:=tbr hs u1 u2 hhi hlo
    have hb:Gk (S*4+U1*2+U2) HI LO<4294967296:=by unfold Gk;omega
    generalize Gk (S*4+U1*2+U2) HI LO=V at d hb ⊢
    have e:t132 (V:Int) 24=some (xV V 24):=S6 V 24 (by decide) (by decide) hb
    have ew:=Uc (v:=V) (n:=24) hb (by decide)
    rw [show decide (((1:Nat):Int)=1)=true from rfl,lD,c1,kS,b1,c2,kS,b2,c3,kS,a8,kS,c4,kS,d,e,kS,ew]
   ·rw [if_neg h3]
    have h3':¬((y/4096%2:Nat):Int)=1:=by omega
    obtain⟨v1,v2,v3,v4,c1,c2,c3,c4,d⟩:=tcr hs hj2 hj1 hhi2 hlo
    have hb:C_ (S*4+J2*2+J1) HI2 LO<4294967296:=by unfold C_;omega
    generalize C_ (S*4+J2*2+J1) HI2 LO=V at d hb ⊢
    have e:t132 (V:Int) 20=some (xV V 20):=S6 V 20 (by decide) (by decide) hb
    have ew:=Uc (v:=V) (n:=20) hb (by decide)
    rw [decide_eq_false h3',kX,a9,kS,c1,kS,c2,kS,c3,kS,a10,kS,c4,kS,d,e,kS,ew]
    rw [decide_eq_decide.2 (show((x/64%16:Nat):Int)≤13↔x/64%16≤13 by omega)]
  ·rw [if_pos (.inr h2),h1]
   have h2':¬((y/16384:Nat):Int)=2:=by omega
   simp only [show decide (((30:Nat):Int)=30)=true from rfl,Bool.not_true,kX,decide_eq_false h2',Bool.not_false,AG,lD]
 ·rw [if_pos (.inl h1)]
  have h1':¬((x/2048:Nat):Int)=30:=by omega
  simp only [decide_eq_false h1',Bool.not_false,lD,AG]
theorem aB8 (x y:Nat) (hx:x<65536) (hy:y<65536) (h:kO):KK 136 [.int .i64 (x:Int),.int .i64 (y:Int)] h=some (.ret (.tuple [.agg (qS x y).1.cells,.bool (qS x y).2]),h):=by
 rw [Ax,ao9 x y hx hy];rfl
end
section
open Go Hk
def sO:lL:=⟨0,0,0,0,0,0,0,false⟩
def nZ (x y:Nat):lL×Bool :=
 if (n7 x y).2 then((n7 x y).1,true) else if (n_ x y).2 then((n_ x y).1,true) else if (qT x y).2 then((qT x y).1,true) else if (qS x y).2 then((qS x y).1,true) else(sO,false)
def Lk:List (List kN):=[[.func 133 [] []],[.func 134 [] []],[.func 135 [] []],[.func 136 [] []]]
theorem bsF (h:kO):lE 4 1 [.nilfunc] [(0,(.func 133 [] [])),(1,(.func 134 [] [])),(2,(.func 135 [] [])),(3,(.func 136 [] []))] h=some (.slice Lk (.own h.length),h++[.front 4 1]):=(rfl)
def xX (x y j:Int) (i:lL) (b:Bool):List kN×kO :=
 ([.int .i64 x,.int .i64 y,.ptr 0 0,.bool b,.slice Lk (.own 1),.int .i64 4,.int .i64 j],[.cells i.cells,.front 4 1])
theorem Bg {h:kO}:kN.oW 2 h (.slice Lk (.own 1))=.slice Lk (.own 1):=(rfl)
theorem as2 (K:kT) (a:List kN) (h:kO):wR mJ K 133 a h=K 133 a h:=(rfl)
theorem asL (a:List kN):tY mJ 133 a=a.map kN.kP:=(rfl)
theorem auC:mD 1 (.slice Lk (.own 1)) (.int .i64 0)=some (.pptr [.func 133 [] []]):=(rfl)
set_option maxHeartbeats 4000000 in
theorem aoS (x y:Nat) (hx:x<65536) (hy:y<65536):vH KK 2 (xX x y 0 sO false)=some (if (n7 x y).2 then(.ret,xX x y 0 (n7 x y).1 true) else(.normal,xX x y 1 sO false)):=by
 have c:=aB5 x y hx hy
 unfold xX
 simp only [lL.lX] at c ⊢
 generalize (n7 x y).1=i at c ⊢
 generalize (n7 x y).2=b at c ⊢
 have hw:IntKind.i64.wrap 1=1:=by decide
 cases b <;> simp -implicitDefEqProofs [vH,auC,uO,as2,asL,c,Bg,hw,sO]
theorem as3 (K:kT) (a:List kN) (h:kO):wR mJ K 134 a h=K 134 a h:=(rfl)
theorem asM (a:List kN):tY mJ 134 a=a.map kN.kP:=(rfl)
theorem auD:mD 1 (.slice Lk (.own 1)) (.int .i64 1)=some (.pptr [.func 134 [] []]):=(rfl)
set_option maxHeartbeats 4000000 in
theorem aoT (x y:Nat) (hx:x<65536) (hy:y<65536):vH KK 2 (xX x y 1 sO false)=some (if (n_ x y).2 then(.ret,xX x y 1 (n_ x y).1 true) else(.normal,xX x y 2 sO false)):=by
 have c:=aB6 x y hx hy
 unfold xX
 simp only [lL.lX] at c ⊢
 generalize (n_ x y).1=i at c ⊢
 generalize (n_ x y).2=b at c ⊢
 have hw:IntKind.i64.wrap 2=2:=by decide
 cases b <;> simp -implicitDefEqProofs [vH,auD,uO,as3,asM,c,Bg,hw,sO]
theorem as4 (K:kT) (a:List kN) (h:kO):wR mJ K 135 a h=K 135 a h:=(rfl)
theorem asN (a:List kN):tY mJ 135 a=a.map kN.kP:=(rfl)
theorem auE:mD 1 (.slice Lk (.own 1)) (.int .i64 2)=some (.pptr [.func 135 [] []]):=(rfl)
set_option maxHeartbeats 4000000 in
theorem aoU (x y:Nat) (hx:x<65536) (hy:y<65536):vH KK 2 (xX x y 2 sO false)=some (if (qT x y).2 then(.ret,xX x y 2 (qT x y).1 true) else(.normal,xX x y 3 sO false)):=by
 have c:=aB7 x y hx hy
 unfold xX
 simp only [lL.lX] at c ⊢
 generalize (qT x y).1=i at c ⊢
 generalize (qT x y).2=b at c ⊢
 have hw:IntKind.i64.wrap 3=3:=by decide
 cases b <;> simp -implicitDefEqProofs [vH,auE,uO,as4,asN,c,Bg,hw,sO]
theorem as5 (K:kT) (a:List kN) (h:kO):wR mJ K 136 a h=K 136 a h:=(rfl)
theorem asO (a:List kN):tY mJ 136 a=a.map kN.kP:=(rfl)
theorem auF:mD 1 (.slice Lk (.own 1)) (.int .i64 3)=some (.pptr [.func 136 [] []]):=(rfl)
set_option maxHeartbeats 4000000 in
theorem aoV (x y:Nat) (hx:x<65536) (hy:y<65536):vH KK 2 (xX x y 3 sO false)=some (if (qS x y).2 then(.ret,xX x y 3 (qS x y).1 true) else(.normal,xX x y 4 sO false)):=by
 have c:=aB8 x y hx hy
 unfold xX
 simp only [lL.lX] at c ⊢
 generalize (qS x y).1=i at c ⊢
 generalize (qS x y).2=b at c ⊢
 have hw:IntKind.i64.wrap 4=4:=by decide
 cases b <;> simp -implicitDefEqProofs [vH,auF,uO,as5,asO,c,Bg,hw,sO]
theorem TA {F:List kN×kO→Option R}{s a b:List kN×kO}{c:Bool}(h:F s=some (if c then(.ret,a) else(.normal,b))):nP F s=if c then some (.ret,a) else nP F b:=by
 cases c
 ·exact nK h
 ·exact CD h
set_option maxHeartbeats 4000000 in
theorem aB1 (x y:Nat) (hx:x<65536) (hy:y<65536) (h:kO):KK 113 [.int .i64 (x:Int),.int .i64 (y:Int)] h=some (.ret (.tuple [.agg (nZ x y).1.cells,.bool (nZ x y).2]),h):=by
 refine qC rfl rfl (ZQ ..) ?_
 have e4:nP (vH KK 2) (xX x y 4 sO false)=some (.exit 0,xX x y 4 sO false):=by
  refine s7 ?_
  unfold xX
  simp -implicitDefEqProofs [vH,Bg,sO]
 have l:=TA (aoS x y hx hy)
 rw [TA (aoT x y hx hy),TA (aoU x y hx hy),TA (aoV x y hx hy),e4] at l
 unfold nZ
 generalize (n7 x y).1=i1 at l ⊢
 generalize (n_ x y).1=i2 at l ⊢
 generalize (qT x y).1=i3 at l ⊢
 generalize (qS x y).1=i4 at l ⊢
 have ln:((Lk.length:Nat):Int)=4:=rfl
 cases h1:(n7 x y).2
 ·cases h2:(n_ x y).2
  ·cases h3:(qT x y).2
   ·cases h4:(qS x y).2 <;> (rw [h1,h2,h3,h4] at l;simp only [xX,sO,lL.lX,if_false,if_true,Bool.false_eq_true] at l;simp -implicitDefEqProofs [Wo,bsF,ln,l,sO])
   ·rw [h1,h2,h3] at l;simp only [xX,sO,lL.lX,if_false,if_true,Bool.false_eq_true] at l;simp -implicitDefEqProofs [Wo,bsF,ln,l,sO]
  ·rw [h1,h2] at l;simp only [xX,sO,lL.lX,if_false,if_true,Bool.false_eq_true] at l;simp -implicitDefEqProofs [Wo,bsF,ln,l,sO]
 ·rw [h1] at l;simp only [xX,sO,lL.lX,if_false,if_true,Bool.false_eq_true] at l;simp -implicitDefEqProofs [Wo,bsF,ln,l,sO]
end
noncomputable section
open Go Hk
def m79 (K:kT) (a0:kN) (h0:kO):OH :=
 (kW (lR 8 h0 (.agg [zO,zO,zO,zO,zO,zO,zO,false])) fun t0 h1=>zE K 110 a0 h1 fun t2 h3=>(lF .eql t2 zO).bind fun t4=>nI false t4 (some a0) h3 fun t5 h6=>nI false t4 (nG t5) h6 fun t8 h9=>nI false t4 (some t2) h9 fun t10 aQ=>nI false t4 (lF .lss t8 t10) aQ fun t13 aJ=>(lH t4 true t13).bind fun t15=>kV t15 ((lB [zO,zO,zO,zO,zO,zO,zO,false] [(0,1),(1,1),(2,1),(3,1),(4,1),(5,1),(6,1),(7,1)] []).bind fun t16=>(kR 8 aJ t0 t16).bind fun aR=>some (.ret,[t0,zO,(3:Int)],aR)) (kW (lR 8 aJ (.agg [zO,zO,zO,zO,zO,zO,zO,false])) fun t18 aH=>(lF .eql t2 (2:Int)).bind fun bA=>(kV bA (yG K 112 a0 zO aH fun bB aS=>zE K 111 bB aS fun aN aT=>(lC 0 aN).bind fun bD=>(lC 1 aN).bind fun bE=>(kR 8 aT t18 bD).bind fun aU=>kZ (aa5 aH) .normal [t0,zO,zO,t2,t18,bE] aU) (yG K 112 a0 zO aH fun bF aV=>yG K 112 a0 (1:Int) aV fun bG aW=>yG K 113 bF bG aW fun t32 aX=>(lC 0 t32).bind fun bH=>(lC 1 t32).bind fun t35=>(kR 8 aX t18 bH).bind fun aY=>kZ (aa5 aH) .normal [t0,zO,zO,t2,t18,t35] aY)).bind fun aL=>Vd aL.2 fun aA aO aP aE aF aG aI=>Ex.pR aL.1 ((vN .not aG).bind fun t45=>kV t45 ((lB [zO,zO,zO,zO,zO,zO,zO,false] [(0,1),(1,1),(2,1),(3,1),(4,1),(5,1),(6,1),(7,1)] []).bind fun t46=>(kR 8 aI aA t46).bind fun aZ=>some (.ret,[aA,zO,(7:Int)],aZ)) ((kY true 8 aI aF).bind fun t48=>(kR 8 aI aA t48).bind fun a_=>some (.ret,[aA,aE,zO],a_))))).bind fun aM=>Js aM.2 fun aB aC aD aK=>Ex.oH aM.1 ((kY true 8 aK aB).bind fun t55=>oM (aa5 h0) (.tuple [t55,aC,aD]) aK)
theorem ak6 K a0 h0:nN K 79 [a0] h0=m79 (lG mJ K) a0 h0:=by kernel_rfl
end
section
open Go Hk
def wS (s:List UInt8) (n:Nat):Nat:=(s.getD (2*n) 0).toNat+256*(s.getD (2*n+1) 0).toNat
theorem zD (s:List UInt8) (n:Nat):wS s n<65536:=by
 have h1:=(s.getD (2*n) 0).toNat_lt
 have h2:=(s.getD (2*n+1) 0).toNat_lt
 unfold wS;omega
theorem yD (s:List UInt8) (k:Nat) (hk:k<s.length):uU s (k:Int)=some (((s.getD k 0).toNat:Nat):Int):=by
 unfold uU
 rw [if_pos (by omega)]
 simp [hk]
theorem Tf (a k:Nat) (hk:k<64) (ha:a*2^k<4611686018427387904):qP .i64 (a:Int) (k:Int)=some ((a*2^k:Nat):Int):=by
 unfold qP
 rw [if_neg (by omega),show min ((k:Int).toNat) IntKind.i64.bits=k from by simp [IntKind.bits];omega,oQ,←Int.natCast_mul]
 generalize a*2^k=A at *
 rw [lP _ (by omega) (by omega)]
theorem XH (s:List UInt8) (n:Nat) (hn:n<1000) (hl:2*n+2≤s.length):t112 s (n:Int)=some ((wS s n:Nat):Int):=by
 have e1:IntKind.i64.wrap (2*(n:Int))=((2*n:Nat):Int):=by rw [lP _ (by omega) (by omega)];omega
 have e2:IntKind.i64.wrap (((2*n:Nat):Int)+1)=((2*n+1:Nat):Int):=by rw [lP _ (by omega) (by omega)];omega
 have h1:=(s.getD (2*n) 0).toNat_lt
 have h2:=(s.getD (2*n+1) 0).toNat_lt
 unfold t112
 rw [e1,yD s _ (by omega),kS,e2,yD s _ (by omega),kS]
 unfold wS
 generalize (s.getD (2*n) 0).toNat=a at *
 generalize (s.getD (2*n+1) 0).toNat=b at *
 have e3:qP .i64 (b:Int) 8=some ((b*2^8:Nat):Int):=Tf b 8 (by decide) (by omega)
 rw [lP (b:Int) (by omega) (by omega),e3,kS,lP (a:Int) (by omega) (by omega)]
 have:=tA (a:=b) (b:=a) (k:=8) (by decide) (by omega) (by omega)
 have ec:sD .i64 (a:Int) ((b*2^8:Nat):Int)=sD .i64 ((b*2^8:Nat):Int) (a:Int):=by unfold sD;rw [BitVec.or_comm]
 rw [ec,this]
 congr 2;omega
theorem auG (s:List UInt8) (n:Nat) (hn:n<1000) (hl:2*n+2≤s.length) (h:kO):KK 112 [.str s,.int .i64 (n:Int)] h=some (.ret (.int .i64 ((wS s n:Nat):Int)),h):=by
 rw [SB,XH s n hn hl];rfl
def Xx (s:List UInt8):Int:=if s.length<2 then 0 else if 29≤wS s 0/2048 then 4 else 2
theorem aiV (s:List UInt8) (h:kO):KK 110 [.str s] h=some (.ret (.int .i64 (Xx s)),h):=by
 rw [Fc]
 unfold t110 Xx
 by_cases h2:s.length<2
 ·rw [if_pos h2,decide_eq_true (by omega)];rfl
 ·rw [if_neg h2,decide_eq_false (by omega),kX,show(0:Int)=((0:Nat):Int) from rfl,XH s 0 (by decide) (by omega),kS,show(11:Int)=((11:Nat):Int) from rfl,C4 11 (by decide),kS]
  have hlt:=zD s 0
  generalize wS s 0=w at *
  by_cases h3:29≤w/2048
  ·rw [if_pos h3,decide_eq_true (show(29:Int)≤((w/2^11:Nat):Int) by omega)];rfl
  ·rw [if_neg h3,decide_eq_false (show ¬(29:Int)≤((w/2^11:Nat):Int) by omega)];rfl
def mY (s:List UInt8):lL×Int×Int :=
 if s.length<2 then(sO,0,3)
 else if 29≤wS s 0/2048 then(if s.length<4 then(sO,0,3) else if (nZ (wS s 0) (wS s 1)).2 then((nZ (wS s 0) (wS s 1)).1,4,0) else(sO,0,7))
 else if (mL (wS s 0)).2 then((mL (wS s 0)).1,2,0) else(sO,0,7)
set_option maxHeartbeats 4000000 in
theorem c79 (s:List UInt8) (h:kO):KK 79 [.str s] h=some (.ret (.tuple [.agg (mY s).1.cells,.int .i64 (mY s).2.1,.int .i64 (mY s).2.2]),h):=by
 refine qC rfl rfl (ak6 ..) ?_
 have a110:=fun h=>aiV s h
 unfold mY
 by_cases h2:s.length<2
 ·have e:Xx s=0:=by unfold Xx;rw [if_pos h2]
  rw [e] at a110
  simp -implicitDefEqProofs [m79,a110,eq_true h2,sO]
 ·have k0:∀h,KK 112 [.str s,.int .i64 0] h=some (.ret (.int .i64 ((wS s 0:Nat):Int)),h):=fun h=>auG s 0 (by decide) (by omega) h
  by_cases h29:29≤wS s 0/2048
  ·have e:Xx s=4:=by unfold Xx;rw [if_neg h2,if_pos h29]
   rw [e] at a110
   by_cases h4:s.length<4
   ·have h4':((s.length:Nat):Int)<4:=by omega
    simp -implicitDefEqProofs [m79,a110,eq_false h2,eq_true h29,eq_true h4,eq_true h4',sO]
   ·have h4':¬((s.length:Nat):Int)<4:=by omega
    have k1:∀h,KK 112 [.str s,.int .i64 1] h=some (.ret (.int .i64 ((wS s 1:Nat):Int)),h):=fun h=>auG s 1 (by decide) (by omega) h
    have a113:=aB1 (wS s 0) (wS s 1) (zD s 0) (zD s 1)
    simp only [lL.lX] at a113
    generalize (nZ (wS s 0) (wS s 1)).1=i at a113 ⊢
    generalize (nZ (wS s 0) (wS s 1)).2=b at a113 ⊢
    cases b <;> simp -implicitDefEqProofs [m79,a110,eq_false h2,eq_true h29,eq_false h4,eq_false h4',sO,k0,k1,a113]
  ·have e:Xx s=2:=by unfold Xx;rw [if_neg h2,if_neg h29]
   rw [e] at a110
   have h2':¬((s.length:Nat):Int)<2:=by omega
   have a111:=aB0 (wS s 0) (zD s 0)
   simp only [lL.lX] at a111
   generalize (mL (wS s 0)).1=i at a111 ⊢
   generalize (mL (wS s 0)).2=b at a111 ⊢
   cases b <;> simp -implicitDefEqProofs [m79,a110,eq_false h2,eq_false h2',eq_false h29,sO,k0,a111]
end
section
open Go Hk
def bt (x:Int) (i:Nat):Nat:=(wr x).toNat/2^(8*i)%256
theorem VW (x:Int) (i:Nat):bt x i<256:=Nat.mod_lt _ (by decide)
def wB (x:Int):List UInt8:=[ar4 (bt x 0),ar4 (bt x 1),ar4 (bt x 2),ar4 (bt x 3)]
theorem C7 (x:Int):(wB x).length=4:=rfl
theorem u8n (n:Nat) (h:n<256):(ar4 n).toNat=n:=by simp;omega
theorem FA (x:Int) (i:Nat) (hi:i<4):((wB x).getD i 0).toNat=bt x i:=by
 have:=VW x i
 match i,hi with
 | 0,_=>exact u8n _ this
 | 1,_=>exact u8n _ this
 | 2,_=>exact u8n _ this
 | 3,_=>exact u8n _ this
def U6 (s:List UInt8):Nat:=(s.getD 0 0).toNat+256*(s.getD 1 0).toNat+65536*(s.getD 2 0).toNat+16777216*(s.getD 3 0).toNat
theorem alW (s:List UInt8):U6 s<4294967296:=by
 have h0:=(s.getD 0 0).toNat_lt
 have h1:=(s.getD 1 0).toNat_lt
 have h2:=(s.getD 2 0).toNat_lt
 have h3:=(s.getD 3 0).toNat_lt
 unfold U6;omega
theorem alX (x:Int):(U6 (wB x):Int)=wr x:=by
 have h0:=FA x 0 (by decide)
 have h1:=FA x 1 (by decide)
 have h2:=FA x 2 (by decide)
 have h3:=FA x 3 (by decide)
 have hr:=tW x
 unfold U6
 rw [h0,h1,h2,h3]
 unfold bt
 simp only [Nat.mul_zero,Nat.pow_zero,Nat.mul_one,show(2:Nat)^8=256 from rfl,show(2:Nat)^(8*2)=65536 from rfl,show(2:Nat)^(8*3)=16777216 from rfl]
 generalize wr x=w at *
 omega
theorem apT {s:List UInt8}(h:s.length=4):wB (U6 s)=s:=by
 obtain⟨a,b,c,d,rfl⟩:∃a b c d,s=[a,b,c,d]:=by
  match s,h with
  | [a,b,c,d],_=>exact⟨a,b,c,d,rfl⟩
 have h0:=a.toNat_lt
 have h1:=b.toNat_lt
 have h2:=c.toNat_lt
 have h3:=d.toNat_lt
 have e:U6 [a,b,c,d]=a.toNat+256*b.toNat+65536*c.toNat+16777216*d.toNat:=rfl
 have hw:(wr (U6 [a,b,c,d]:Int)).toNat=a.toNat+256*b.toNat+65536*c.toNat+16777216*d.toNat:=by rw [e];unfold wr;omega
 unfold wB bt
 rw [hw]
 simp only [Nat.mul_zero,Nat.pow_zero,Nat.mul_one,show(2:Nat)^8=256 from rfl,show(2:Nat)^(8*2)=65536 from rfl,show(2:Nat)^(8*3)=16777216 from rfl]
 have g:∀(u:UInt8) (n:Nat),n=u.toNat→ar4 n=u:=fun u n h=>by rw [h];simp
 rw [g a _ (by omega),g b _ (by omega),g c _ (by omega),g d _ (by omega)]
theorem afR (p:Int):t24 p=some (wB p):=by
 have hr:=tW p
 unfold t24 wB bt
 rw [yC,kS]
 simp only [Nat.mul_zero,Nat.pow_zero,Nat.mul_one,show(2:Nat)^8=256 from rfl,show(2:Nat)^(8*2)=65536 from rfl,show(2:Nat)^(8*3)=16777216 from rfl]
 generalize wr p=w at *
 obtain⟨n,rfl⟩:∃n:Nat,w=(n:Int):=⟨w.toNat,by omega⟩
 rw [pE hr.1 (by decide),kS,uR hr.1 (by decide),kS,lP _ (by omega) (by omega),pE (by omega) (by decide),kS,uR hr.1 (by decide),kS,lP _ (by omega) (by omega),pE (by omega) (by decide),kS,uR hr.1 (by decide),kS,lP _ (by omega) (by omega)]
 unfold tby
 simp only [ar6,List.map_nil,Tl]
 rw [show((n:Int)%256%256).toNat=(n:Int).toNat%256 from by omega,show((n:Int)/256%256%256).toNat=(n:Int).toNat/256%256 from by omega,show((n:Int)/65536%256%256).toNat=(n:Int).toNat/65536%256 from by omega,show((n:Int)/16777216%256).toNat=(n:Int).toNat/16777216%256 from by omega,Nat.div_one]
theorem XY (s:List UInt8) (k:Nat) (hk:k<s.length) (z:Int) (hz:z=(k:Int)):uU s z=some (((s.getD k 0).toNat:Nat):Int):=by rw [hz];exact yD s k hk
theorem azM (s:List UInt8) (hs:s.length=4):t14 s=some ((U6 s:Int),true):=by
 have h0:=(s.getD 0 0).toNat_lt
 have h1:=(s.getD 1 0).toNat_lt
 have h2:=(s.getD 2 0).toNat_lt
 have h3:=(s.getD 3 0).toNat_lt
 unfold t14 U6
 rw [hs,show(!decide (((4:Nat):Int)=4))=false from rfl,kX,XY s 0 (by omega) 0 rfl,kS,XY s 1 (by omega) 1 rfl,kS,XY s 2 (by omega) 2 rfl,kS,XY s 3 (by omega) 3 rfl,kS]
 generalize (s.getD 0 0).toNat=a at *
 generalize (s.getD 1 0).toNat=b at *
 generalize (s.getD 2 0).toNat=c at *
 generalize (s.getD 3 0).toNat=d at *
 rw [lP (a:Int) (by omega) (by omega),lP (b:Int) (by omega) (by omega),lP (c:Int) (by omega) (by omega),lP (d:Int) (by omega) (by omega),lP (256*(b:Int)) (by omega) (by omega),lP (65536*(c:Int)) (by omega) (by omega),lP (16777216*(d:Int)) (by omega) (by omega),lP (_+256*(b:Int)) (by omega) (by omega),lP (_+65536*(c:Int)) (by omega) (by omega),lP _ (by omega) (by omega)]
 rw [show(a:Int)+256*(b:Int)+65536*(c:Int)+16777216*(d:Int)=((a+256*b+65536*c+16777216*d:Nat):Int) from by omega]
theorem OT {a b k:Nat}(hk:k≤40) (ha:a<2^k) (hb:b*2^k<4611686018427387904):sD .i64 (a:Int) ((b*2^k:Nat):Int)=((b*2^k+a:Nat):Int):=by
 rw [←tA hk hb ha];unfold sD;rw [BitVec.or_comm]
theorem azU (s:List UInt8) (hs:s.length=4):t52 s=some ((U6 s:Int),true):=by
 have h0:=(s.getD 0 0).toNat_lt
 have h1:=(s.getD 1 0).toNat_lt
 have h2:=(s.getD 2 0).toNat_lt
 have h3:=(s.getD 3 0).toNat_lt
 unfold t52 U6
 rw [hs,show(!decide (((4:Nat):Int)=4))=false from rfl,kX]
 have e0:=XY s 0 (by omega) 0 rfl
 have e1:=XY s 1 (by omega) 1 rfl
 have e2:=XY s 2 (by omega) 2 rfl
 have e3:=XY s 3 (by omega) 3 rfl
 generalize (s.getD 0 0).toNat=a at *
 generalize (s.getD 1 0).toNat=b at *
 generalize (s.getD 2 0).toNat=c at *
 generalize (s.getD 3 0).toNat=d at *
 have w:∀n:Nat,n<4611686018427387904→IntKind.i64.wrap (n:Int)=(n:Int):=fun n h=>lP _ (by omega) (by omega)
 have sh:∀(n k:Nat),k≤24→n<256→qP .i64 (IntKind.i64.wrap (n:Int)) (IntKind.i64.wrap (8*((k:Nat):Int)))=some ((n*2^(8*k):Nat):Int)∨k > 3:=by
  intro n k _ hn
  by_cases hk:k≤3
  ·left
   rw [w n (by omega),show IntKind.i64.wrap (8*(k:Int))=((8*k:Nat):Int) from by rw [lP _ (by omega) (by omega)];omega]
   have:2^(8*k)≤2^24:=al2 (by decide) (by omega)
   exact Tf n (8*k) (by omega) (by have:=Nat.mul_le_mul (Nat.le_of_lt hn) this;omega)
  ·right;omega
 have s0:=(sh a 0 (by decide) h0).resolve_right (by decide)
 have s1:=(sh b 1 (by decide) h1).resolve_right (by decide)
 have s2:=(sh c 2 (by decide) h2).resolve_right (by decide)
 have s3:=(sh d 3 (by decide) h3).resolve_right (by decide)
 have o0:sD .i64 0 ((a*2^(8*0):Nat):Int)=((a*2^(8*0)+0:Nat):Int):=OT (a:=0) (b:=a) (k:=8*0) (by decide) (by decide) (by omega)
 have o1:sD .i64 ((a*2^(8*0)+0:Nat):Int) ((b*2^(8*1):Nat):Int)=((b*2^(8*1)+(a*2^(8*0)+0):Nat):Int):=OT (k:=8*1) (by decide) (by omega) (by omega)
 have o2:sD .i64 ((b*2^(8*1)+(a*2^(8*0)+0):Nat):Int) ((c*2^(8*2):Nat):Int)=((c*2^(8*2)+(b*2^(8*1)+(a*2^(8*0)+0)):Nat):Int):=OT (k:=8*2) (by decide) (by omega) (by omega)
 have o3:sD .i64 ((c*2^(8*2)+(b*2^(8*1)+(a*2^(8*0)+0)):Nat):Int) ((d*2^(8*3):Nat):Int)=((d*2^(8*3)+(c*2^(8*2)+(b*2^(8*1)+(a*2^(8*0)+0))):Nat):Int):=OT (k:=8*3) (by decide) (by omega) (by omega)
 have g0:wE s (0,0)=some (.n,(((a*2^(8*0)+0:Nat):Int),1)):=by
  unfold wE
  rw [show decide ((((0:Int),(0:Int)).2)<4)=true from rfl,lD,e0,kS,show(((0:Int),(0:Int)).2)=(((0:Nat)):Int) from rfl,s0,kS,o0];rfl
 have g1:wE s (((a*2^(8*0)+0:Nat):Int),1)=some (.n,(((b*2^(8*1)+(a*2^(8*0)+0):Nat):Int),2)):=by
  unfold wE
  dsimp only
  rw [show decide ((1:Int)<4)=true from rfl,lD,e1,kS,show(1:Int)=(((1:Nat)):Int) from rfl,s1,kS,o1];rfl
 have g2:wE s (((b*2^(8*1)+(a*2^(8*0)+0):Nat):Int),2)=some (.n,(((c*2^(8*2)+(b*2^(8*1)+(a*2^(8*0)+0)):Nat):Int),3)):=by
  unfold wE
  dsimp only
  rw [show decide ((2:Int)<4)=true from rfl,lD,e2,kS,show(2:Int)=(((2:Nat)):Int) from rfl,s2,kS,o2];rfl
 have g3:wE s (((c*2^(8*2)+(b*2^(8*1)+(a*2^(8*0)+0)):Nat):Int),3)=some (.n,(((d*2^(8*3)+(c*2^(8*2)+(b*2^(8*1)+(a*2^(8*0)+0))):Nat):Int),4)):=by
  unfold wE
  dsimp only
  rw [show decide ((3:Int)<4)=true from rfl,lD,e3,kS,show(3:Int)=(((3:Nat)):Int) from rfl,s3,kS,o3];rfl
 have g4:∀x,wE s (x,4)=some (.x 0,(x,4)):=fun x=>rfl
 rw [oB g0,oB g1,oB g2,oB g3,mV (g4 _) (by simp)]
 simp only [kS,uL,vO,show(Ey.x 0=Ey.n)=False from by simp]
 have:((d*2^(8*3)+(c*2^(8*2)+(b*2^(8*1)+(a*2^(8*0)+0))):Nat):Int)=((a+256*b+65536*c+16777216*d:Nat):Int):=by omega
 simp
 omega
theorem aB2 (a:Int) (h:kO):KK 119 [.int .i64 a] h=some (.ret (.str (wB a)),h):=by
 have hr:=tW a
 refine qC rfl rfl (ZV ..) ?_
 have k36':=fun h=>Zw a h
 have u0:IntKind.i64.wrap 0=0:=by decide
 have u1:IntKind.i64.wrap 1=1:=by decide
 have u2:IntKind.i64.wrap 2=2:=by decide
 have u3:IntKind.i64.wrap 3=3:=by decide
 have u4:IntKind.i64.wrap 4=4:=by decide
 have u8:IntKind.i64.wrap 8=8:=by decide
 have u16:IntKind.i64.wrap 16=16:=by decide
 have u24:IntKind.i64.wrap 24=24:=by decide
 have w8:∀i:Nat,(wr a).fdiv (2^(8*i))%256=(bt a i:Int):=by
  intro i
  unfold bt
  have e:(wr a)=(((wr a).toNat:Nat):Int):=by omega
  rw [e,oQ,Int.fdiv_eq_ediv_of_nonneg _ (Int.natCast_nonneg _)]
  simp
 have e0:sX .i64 (wr a) 0=some ((wr a).fdiv (2^(8*0))):=rfl
 have e1:sX .i64 (wr a) 8=some ((wr a).fdiv (2^(8*1))):=rfl
 have e2:sX .i64 (wr a) 16=some ((wr a).fdiv (2^(8*2))):=rfl
 have e3:sX .i64 (wr a) 24=some ((wr a).fdiv (2^(8*3))):=rfl
 have a0:lQ 4 1 (.ptr 0 0) (.int .i64 0)=some (.ptr 0 0):=rfl
 have a1:lQ 4 1 (.ptr 0 0) (.int .i64 1)=some (.ptr 0 1):=rfl
 have a2:lQ 4 1 (.ptr 0 0) (.int .i64 2)=some (.ptr 0 2):=rfl
 have a3:lQ 4 1 (.ptr 0 0) (.int .i64 3)=some (.ptr 0 3):=rfl
 have s4:zR 4 1 (.ptr 0 0) none none=some (.mslice 0 0 4 1):=rfl
 have w0:=w8 0
 have w1:=w8 1
 have w2:=w8 2
 have w3:=w8 3
 unfold wB
 generalize (wr a).fdiv (2^(8*0))=q0 at *
 generalize (wr a).fdiv (2^(8*1))=q1 at *
 generalize (wr a).fdiv (2^(8*2))=q2 at *
 generalize (wr a).fdiv (2^(8*3))=q3 at *
 generalize bt a 0=b0 at *
 generalize bt a 1=b1 at *
 generalize bt a 2=b2 at *
 generalize bt a 3=b3 at *
 have SY:∀x0 x1 x2 x3:Int,vI KK 1 ([.int .i64 a,.str [],.ptr 0 0,.int .i64 0],[.cells [.int .u8 x0,.int .u8 x1,.int .u8 x2,.int .u8 x3]]) =
   some (.normal,[.int .i64 a,.str [],.ptr 0 0,.int .i64 1],[.cells [.int .u8 (b0:Int),.int .u8 x1,.int .u8 x2,.int .u8 x3]]):=by
  intro x0 x1 x2 x3;unfold vI;simp -implicitDefEqProofs [k36',u0,u1,e0,a0,kZ,Tl,w0]
 have st1:∀x0 x1 x2 x3:Int,vI KK 1 ([.int .i64 a,.str [],.ptr 0 0,.int .i64 1],[.cells [.int .u8 x0,.int .u8 x1,.int .u8 x2,.int .u8 x3]]) =
   some (.normal,[.int .i64 a,.str [],.ptr 0 0,.int .i64 2],[.cells [.int .u8 x0,.int .u8 (b1:Int),.int .u8 x2,.int .u8 x3]]):=by
  intro x0 x1 x2 x3;unfold vI;simp -implicitDefEqProofs [k36',u8,u2,e1,a1,kZ,Tl,w1]
 have st2:∀x0 x1 x2 x3:Int,vI KK 1 ([.int .i64 a,.str [],.ptr 0 0,.int .i64 2],[.cells [.int .u8 x0,.int .u8 x1,.int .u8 x2,.int .u8 x3]]) =
   some (.normal,[.int .i64 a,.str [],.ptr 0 0,.int .i64 3],[.cells [.int .u8 x0,.int .u8 x1,.int .u8 (b2:Int),.int .u8 x3]]):=by
  intro x0 x1 x2 x3;unfold vI;simp -implicitDefEqProofs [k36',u16,u3,e2,a2,kZ,Tl,w2]
 have st3:∀x0 x1 x2 x3:Int,vI KK 1 ([.int .i64 a,.str [],.ptr 0 0,.int .i64 3],[.cells [.int .u8 x0,.int .u8 x1,.int .u8 x2,.int .u8 x3]]) =
   some (.normal,[.int .i64 a,.str [],.ptr 0 0,.int .i64 4],[.cells [.int .u8 x0,.int .u8 x1,.int .u8 x2,.int .u8 (b3:Int)]]):=by
  intro x0 x1 x2 x3;unfold vI;simp -implicitDefEqProofs [k36',u24,u4,e3,a3,kZ,Tl,w3]
 have st4:∀x0 x1 x2 x3:Int,vI KK 1 ([.int .i64 a,.str [],.ptr 0 0,.int .i64 4],[.cells [.int .u8 x0,.int .u8 x1,.int .u8 x2,.int .u8 x3]]) =
   some (.exit 0,[.int .i64 a,.str [],.ptr 0 0,.int .i64 4],[.cells [.int .u8 x0,.int .u8 x1,.int .u8 x2,.int .u8 x3]]):=by
  intro x0 x1 x2 x3;unfold vI;simp -implicitDefEqProofs [kZ]
 have lp:=(nK (SY 0 0 0 0)).trans ((nK (st1 _ _ _ _)).trans ((nK (st2 _ _ _ _)).trans ((nK (st3 _ _ _ _)).trans (s7 (st4 _ _ _ _)))))
 have bs:∀x0 x1 x2 x3:Int,yJ [.cells [.int .u8 x0,.int .u8 x1,.int .u8 x2,.int .u8 x3]] (.mslice 0 0 4 1)=some (.str [ar4 x0.toNat,ar4 x1.toNat,ar4 x2.toNat,ar4 x3.toNat]):=fun _ _ _ _=>rfl
 simp -implicitDefEqProofs [au5,lp,s4,bs]
end
section
open Go Hk
def Pw (s:List UInt8) (i:Nat):List UInt8:=(s.drop (4*i)).take 4
def BQ (s:List UInt8) (i:Nat):Nat:=U6 (Pw s i)
theorem Jl {s:List UInt8}{i:Nat}(h:4*i+4≤s.length):(Pw s i).length=4:=by simp [Pw];omega
theorem XZ {s:List UInt8}{i:Nat}(h:4*i+4≤s.length) (hs:s.length≤9223372036854775807):zP s (some (IntKind.wrap .i64 (4*(i:Int)))) (some (IntKind.wrap .i64 ((IntKind.wrap .i64 (4*(i:Int)))+4)))=some (Pw s i):=by
 rw [lP (4*(i:Int)) (by omega) (by omega),lP _ (by omega) (by omega)]
 simp only [zP,JZ]
 rw [if_pos (by omega),if_pos (by omega)]
 simp only
 rw [if_pos (by omega)]
 unfold Pw
 congr 2
 omega
theorem azP {s:List UInt8}{i:Nat}(h:4*i+4≤s.length) (hs:s.length≤9223372036854775807):t32 s (i:Int)=some (BQ s i:Int):=by
 unfold t32;rw [XZ h hs,kS,azU _ (Jl h),kS];rfl
theorem aED {s:List UInt8}{i:Nat}(h:4*i+4≤s.length) (hs:s.length≤9223372036854775807):t8 s (i:Int)=some (BQ s i:Int):=by
 unfold t8;rw [XZ h hs,kS,azM _ (Jl h),kS];rfl
def rH (s:List UInt8):Hd:=⟨(BQ s 1:Int)-1,(BQ s 3:Int)-1,⟨(BQ s 7:Int),(BQ s 8:Int),(BQ s 9:Int)⟩,(BQ s 10:Int)⟩
def Oe (p:Sz):Prop:=0≤p.inn∧p.inn<4294967296∧0≤p.outt∧p.outt<4294967296∧0≤p.rail∧p.rail<4294967296
theorem zC (s:List UInt8) (i:Nat):BQ s i<4294967296:=alW _
theorem Tz (s:List UInt8):Oe (rH s).sizes:=by
 have h1:=zC s 7
 have h2:=zC s 8
 have h3:=zC s 9
 unfold Oe rH;dsimp only;omega
def Ew (p:Sz) (n:Int):Int:=if p.inn%4≠0∨p.outt%4≠0∨p.rail%4≠0∨p.rail<4 then 2 else if 262144<n∨65536<p.inn∨65536<p.outt∨65536<p.rail then 5 else 0
theorem Kz {p:Sz}{n:Int}(h:Ew p n=0):n≤262144∧p.inn≤65536∧p.outt≤65536∧p.rail≤65536∧4≤p.rail∧p.inn%4=0∧p.outt%4=0∧p.rail%4=0:=by
 unfold Ew at h
 split at h
 ·omega
 ·split at h <;> omega
theorem n9 {p:Prop} [Decidable p] (h:p):decide p=true:=decide_eq_true h
theorem mT {p:Prop} [Decidable p] (h:¬p):decide p=false:=decide_eq_false h
theorem IB (l:List Int) (k:Nat) (hk:k<l.length) (hl:l.length<100) (u:Int) (hu:l[k]?=some u) (h0:0≤u) (e:Int) (g:Bool) :
  zL l (l.length:Nat) (e,g,(k:Int))=if u%4≠0 then some (.r,(2,g,(k:Int))) else some (.n,(e,(g || decide (65536<u)),((k+1:Nat):Int))):=by
 unfold zL
 dsimp only
 rw [n9 (by omega),lD,show sF l (k:Int)=some u from by unfold sF;rw [if_pos (by omega)];exact hu,kS,mT (by omega),kX,pE h0 (by decide),kS]
 unfold Iy
 by_cases h:u%4=0
 ·rw [n9 h,if_neg (by omega)]
  unfold Iz
  rw [lP _ (by omega) (by omega)]
  cases g <;> simp [tc]
 ·rw [mT h,if_pos h];rfl
theorem afV {p:Sz}(hp:Oe p) {n:Int}(h0:0≤n):t53 p n=some (Ew p n):=by
 obtain⟨a0,a1,b0,b1,c0,c1⟩:=hp
 unfold t53 Ew
 have s0:=IB [p.inn,p.outt,p.rail] 0 (by simp) (by simp) p.inn rfl a0 0
 have s1:=IB [p.inn,p.outt,p.rail] 1 (by simp) (by simp) p.outt rfl b0 0
 have s2:=IB [p.inn,p.outt,p.rail] 2 (by simp) (by simp) p.rail rfl c0 0
 have s3:∀g,zL [p.inn,p.outt,p.rail] ([p.inn,p.outt,p.rail].length:Nat) (0,g,((3:Nat):Int))=some (.x 0,(0,g,3)):=fun g=>rfl
 have out:∀(g:Bool),rX (zL [p.inn,p.outt,p.rail] (([p.inn,p.outt,p.rail].length:Nat):Int)) (0,g,((0:Nat):Int)) =
   if p.inn%4≠0∨p.outt%4≠0∨p.rail%4≠0 then rX (zL [p.inn,p.outt,p.rail] (([p.inn,p.outt,p.rail].length:Nat):Int)) (0,g,((0:Nat):Int)) else some (.x 0,(0,(((g || decide (65536<p.inn)) || decide (65536<p.outt)) || decide (65536<p.rail)),3)):=by
  intro g
  by_cases h:p.inn%4≠0∨p.outt%4≠0∨p.rail%4≠0
  ·rw [if_pos h]
  ·rw [if_neg h]
   have h1:p.inn%4=0:=by omega
   have h2:p.outt%4=0:=by omega
   have h3:p.rail%4=0:=by omega
   rw [oB ((s0 g).trans (if_neg (by omega))),oB ((s1 _).trans (if_neg (by omega))),oB ((s2 _).trans (if_neg (by omega)))]
   exact mV (s3 _) (by simp)
 have bad:∀(g:Bool),(p.inn%4≠0∨p.outt%4≠0∨p.rail%4≠0)→∃g' k,rX (zL [p.inn,p.outt,p.rail] (([p.inn,p.outt,p.rail].length:Nat):Int)) (0,g,((0:Nat):Int))=some (.r,(2,g',k)):=by
  intro g h
  by_cases h1:p.inn%4≠0
  ·exact⟨_,_,mV ((s0 g).trans (if_pos h1)) (by simp)⟩
  rw [oB ((s0 g).trans (if_neg h1))]
  by_cases h2:p.outt%4≠0
  ·exact⟨_,_,mV ((s1 _).trans (if_pos h2)) (by simp)⟩
  rw [oB ((s1 _).trans (if_neg h2))]
  exact⟨_,_,mV ((s2 _).trans (if_pos (by omega))) (by simp)⟩
 rw [show((0:Int),decide (262144<n),(0:Int))=(0,decide (262144<n),((0:Nat):Int)) from rfl]
 by_cases h:p.inn%4≠0∨p.outt%4≠0∨p.rail%4≠0
 ·obtain⟨g',k,e⟩:=bad (decide (262144<n)) h
  rw [e,if_pos (by omega)]
  simp [uL,vO,Ao]
 ·rw [out,if_neg h]
  simp only [kS,uL,vO]
  rw [mT (show ¬n<0 by omega),kX]
  unfold IA
  by_cases h4:p.rail<4
  ·rw [n9 h4,if_pos (by omega)];rfl
  ·rw [mT h4,if_neg (by omega)]
   by_cases h5:262144<n∨65536<p.inn∨65536<p.outt∨65536<p.rail
   ·rw [if_pos h5]
    have:(((decide (262144<n) || decide (65536<p.inn)) || decide (65536<p.outt)) || decide (65536<p.rail))=true:=by
     simp only [Bool.or_eq_true,decide_eq_true_eq];omega
    rw [this];rfl
   ·rw [if_neg h5]
    have:(((decide (262144<n) || decide (65536<p.inn)) || decide (65536<p.outt)) || decide (65536<p.rail))=false:=by
     simp only [Bool.or_eq_false_iff,decide_eq_false_iff_not];omega
    rw [this];rfl
theorem TW {p:Sz}(hp:Oe p) {n:Int}(h0:0≤n):t15 p n=some (Ew p n):=by
 obtain⟨a0,a1,b0,b1,c0,c1⟩:=hp
 have s2:∀w,Fl w p n=some (if w=true∨p.rail%4≠0 then 2 else if 262144<n∨65536<p.inn∨65536<p.outt∨65536<p.rail then 5 else 0):=by
  intro w
  unfold Fl
  cases w
  ·rw [kX,pE c0 (by decide),kS]
   unfold Iq
   by_cases h:p.rail%4=0
   ·rw [n9 h,show(!true)=false from rfl,kX,if_neg (by simp;omega)]
    by_cases h5:65536<max (max p.inn p.outt) p.rail
    ·rw [n9 h5,lD,if_pos (by omega)];rfl
    ·rw [mT h5,kX]
     by_cases h6:262144<n
     ·rw [n9 h6,if_pos (by omega)];rfl
     ·rw [mT h6,if_neg (by omega)];rfl
   ·rw [mT h,show(!false)=true from rfl,lD,if_pos (by omega)]
  ·rw [if_pos (Or.inl rfl)];rfl
 have s1:∀w,Fk w p n=some (if w=true∨p.outt%4≠0∨p.rail%4≠0 then 2 else if 262144<n∨65536<p.inn∨65536<p.outt∨65536<p.rail then 5 else 0):=by
  intro w
  unfold Fk
  cases w
  ·rw [kX,pE b0 (by decide),kS,s2]
   congr 1
   by_cases h:p.outt%4=0 <;> simp [h]
  ·rw [lD,s2,if_pos (Or.inl rfl),if_pos (Or.inl rfl)]
 have s0:∀w,Fj w p n=some (if w=true∨p.inn%4≠0∨p.outt%4≠0∨p.rail%4≠0 then 2 else if 262144<n∨65536<p.inn∨65536<p.outt∨65536<p.rail then 5 else 0):=by
  intro w
  unfold Fj
  cases w
  ·rw [kX,pE a0 (by decide),kS,s1]
   congr 1
   by_cases h:p.inn%4=0 <;> simp [h]
  ·rw [lD,s1,if_pos (Or.inl rfl),if_pos (Or.inl rfl)]
 unfold t15 Ew
 rw [lP _ (by omega) (by omega),s0,s0]
 by_cases h1:(min (min (min p.inn p.outt) (p.rail-4)) n)<0
 ·rw [n9 h1,lD,if_pos (Or.inl rfl),if_pos (by omega)]
 ·rw [mT h1,kX,mT (show ¬p.rail<4 by omega)]
  by_cases h:p.inn%4≠0∨p.outt%4≠0∨p.rail%4≠0
  ·rw [if_pos (Or.inr h),if_pos (by omega)]
  ·rw [if_neg (by simp only [Bool.false_eq_true,false_or];exact h),if_neg (show ¬(p.inn%4≠0∨p.outt%4≠0∨p.rail%4≠0∨p.rail<4) by omega)]
def x9 (a n:Int):Bool:=decide (64≤a)&&(decide (a<n)&&decide (a%2=0))
theorem afW (a n:Int):t54 a n=some (x9 a n):=by
 unfold t54 IC ID x9
 rw [show rC .i64 a 1=a%2 from by rw [show(1:Int)=((2^1-1:Nat):Int) from rfl,uC a 1 (by decide)];rfl]
 cases decide (64≤a) <;> cases decide (a<n) <;> simp [tc]
theorem afQ (a n:Int):t16 a n=some (x9 a n):=by
 unfold t16 Ir Is x9
 by_cases h:64≤a
 ·rw [n9 h,lD]
  by_cases h2:a<n
  ·rw [n9 h2,lD,pE (by omega) (by decide),kS];simp
  ·rw [mT h2,kX];simp
 ·rw [mT h,kX,kX];simp
def UG (h:Hd) (n:Int):Bool:=decide (Ew h.sizes n=0)&&(decide (h.mode<3)&&(x9 h.reset n&&x9 h.handler n))
theorem azQ {h:Hd}(hp:Oe h.sizes) (hm:0≤h.mode) {n:Int}(h0:0≤n):∃e,t33 h n=some e∧decide (e=0)=UG h n:=by
 unfold t33 UG
 rw [afV hp h0,kS]
 by_cases hz:Ew h.sizes n=0
 ·rw [n9 hz,show(!true)=false from rfl,kX,mT (by omega),kX]
  unfold Iu Iv Iw
  rw [afW,afW]
  by_cases h3:h.mode<3
  ·rw [n9 h3,mT (by omega),kX,kS]
   cases x9 h.reset n
   ·exact⟨2,rfl,rfl⟩
   ·rw [show(!true)=false from rfl,kX,kS]
    cases x9 h.handler n
    ·exact⟨2,rfl,rfl⟩
    ·exact⟨0,rfl,rfl⟩
  ·rw [mT h3,n9 (by omega),lD]
   exact⟨2,rfl,rfl⟩
 ·rw [mT hz,show(!false)=true from rfl,lD]
  exact⟨_,rfl,mT hz⟩
def AO (h:Hd) (i:Nat):Int:=if i=0 then 537133056 else if i=1 then h.reset+1 else if i=7 then h.sizes.inn else if i=8 then h.sizes.outt else if i=9 then h.sizes.rail else if i=10 then h.mode else h.handler+1
def tL (h:Hd) (n:Nat):List UInt8:=(ar2 n).flatMap fun i=>wB (AO h i)
theorem yF (h:Hd):∀n,(tL h n).length=4*n
 | 0=>rfl
 | n+1=>by
  unfold tL
  rw [List.range_succ,List.flatMap_append,List.length_append]
  have:=yF h n
  unfold tL at this
  rw [this]
  simp [C7];omega
def HdB (h:Hd):Prop:=Oe h.sizes∧-1≤h.reset∧h.reset<4294967295∧-1≤h.handler∧h.handler<4294967295∧0≤h.mode∧h.mode<4294967296
theorem Wb (s:List UInt8):HdB (rH s):=by
 refine⟨Tz s,?_⟩
 have h1:=zC s 1
 have h2:=zC s 3
 have h3:=zC s 10
 unfold rH;dsimp only;omega
theorem atV {h:Hd}(hb:HdB h) (i:Nat):0≤AO h i∧AO h i<4294967296:=by
 obtain⟨⟨a0,a1,b0,b1,c0,c1⟩,h1,h2,h3,h4,h5,h6⟩:=hb
 unfold AO
 repeat' split
 all_goals omega
theorem XO {h:Hd}(hb:HdB h) (x:List UInt8) (hx:x.length<1000) (i:Nat) (hi:i<16):CP h (x,(i:Int))=some (.n,(x++wB (AO h i),((i+1:Nat):Int))):=by
 obtain⟨⟨a0,a1,b0,b1,c0,c1⟩,h1,h2,h3,h4,h5,h6⟩:=hb
 unfold CP
 dsimp only
 rw [n9 (show(i:Int)<16 by omega),lD,lP (h.handler+1) (by omega) (by omega)]
 have j0:It (decide ((i:Int)=0)) (i:Int) h (h.handler+1)=some (AO h i):=by
  unfold It Nn Np Nq Nr Ns AO
  rw [lP (h.reset+1) (by omega) (by omega)]
  by_cases k0:i=0
  ·rw [n9 (by omega),if_pos k0];rfl
  rw [mT (by omega),if_neg k0,kX]
  by_cases k1:i=1
  ·rw [n9 (by omega),if_pos k1];rfl
  rw [mT (by omega),if_neg k1,kX]
  by_cases k7:i=7
  ·rw [n9 (by omega),if_pos k7];rfl
  rw [mT (by omega),if_neg k7,kX]
  by_cases k8:i=8
  ·rw [n9 (by omega),if_pos k8];rfl
  rw [mT (by omega),if_neg k8,kX]
  by_cases k9:i=9
  ·rw [n9 (by omega),if_pos k9];rfl
  rw [mT (by omega),if_neg k9,kX]
  by_cases k10:i=10
  ·rw [n9 (by omega),if_pos k10];rfl
  rw [mT (by omega),if_neg k10,kX];rfl
 rw [j0,kS,afR,kS,show C0 x (wB (AO h i))=some (x++wB (AO h i)) from by unfold C0;rw [if_pos (by rw [C7];omega)],kS,lP _ (by omega) (by omega)]
 rfl
theorem azN {h:Hd}(hb:HdB h):t17 h=some (tL h 16):=by
 have key:∀d j:Nat,j+d=16→rX (CP h) (tL h j,(j:Int))=some (.x 0,(tL h 16,16)):=by
  intro d
  induction d with
  | zero =>
   intro j hj
   obtain rfl:j=16:=by omega
   exact mV rfl (by simp)
  | succ d ih =>
   intro j hj
   have hl:=yF h j
   rw [oB (XO hb (tL h j) (by omega) j (by omega))]
   have:=ih (j+1) (by omega)
   rw [show tL h (j+1)=tL h j++wB (AO h j) from by unfold tL;rw [List.range_succ,List.flatMap_append];simp] at this
   exact this
 have:=key 16 0 rfl
 unfold t17
 rw [show(([]:List UInt8),(0:Int))=(tL h 0,((0:Nat):Int)) from rfl,this]
 rfl
theorem aEE {h:Hd}(hb:HdB h) {c:List UInt8}(hc:64+c.length≤9223372036854775807):∃e,t9 h c=some (if UG h (64+(c.length:Int)) then tL h 16++c else [],e)∧decide (e=0)=UG h (64+(c.length:Int)):=by
 obtain⟨hz,h1,h2,h3,h4,h5,h6⟩:=id hb
 unfold t9 UG
 rw [lP _ (by omega) (by omega),TW hz (by omega),kS]
 generalize hn:(64+(c.length:Int))=n
 by_cases h0:Ew h.sizes n=0
 ·rw [n9 h0,show(!true)=false from rfl,kX,mT (by omega),kX]
  unfold Pp Pq Pr
  rw [afQ,afQ,azN hb]
  by_cases h3:h.mode<3
  ·rw [n9 h3,mT (by omega),kX,kS]
   cases x9 h.reset n
   ·exact⟨2,rfl,rfl⟩
   ·rw [show(!true)=false from rfl,kX,kS]
    cases x9 h.handler n
    ·exact⟨2,rfl,rfl⟩
    ·refine⟨0,?_,rfl⟩
     rw [show(!true)=false from rfl,kX,kS,show C0 (tL h 16) c=some (tL h 16++c) from by unfold C0;rw [if_pos (by have:=Kz h0;rw [yF];omega)],kS];rfl
  ·rw [mT h3,n9 (by omega),lD]
   exact⟨2,rfl,rfl⟩
 ·rw [mT h0,show(!false)=true from rfl,lD]
  exact⟨_,rfl,mT h0⟩
theorem xU {f:Nat→List UInt8}(hf:∀i,(f i).length=4) {s:List UInt8}:∀n,4*n≤s.length→((ar2 n).flatMap f=s.take (4*n)↔∀i,i<n→f i=Pw s i)
 | 0,_=>by simp
 | n+1,h=>by
  have ih:=xU hf (s:=s) n (by omega)
  have hl:((ar2 n).flatMap f).length=4*n:=by
   clear ih h
   induction n with
   | zero=>rfl
   | succ n ih=>rw [List.range_succ,List.flatMap_append,List.length_append,ih];simp [hf];omega
  rw [List.range_succ,List.flatMap_append,show 4*(n+1)=4*n+4 from by omega,List.take_add]
  constructor
  ·intro e
   have e2:=List.append_inj e (by rw [hl,List.length_take];omega)
   intro i hi
   by_cases hn:i=n
   ·subst hn
    have:=e2.2
    simpa [Pw] using this
   ·exact ih.1 e2.1 i (by omega)
  ·intro a
   rw [ih.2 fun i hi=>a i (by omega)]
   congr 1
   simpa [Pw] using a n (by omega)
def frB (s:List UInt8):Bool:=(ar2 16).all fun i=>decide ((BQ s i:Int)=AO (rH s) i)
theorem Lm {s:List UInt8}:frB s=true↔∀i,i<16→(BQ s i:Int)=AO (rH s) i:=by
 unfold frB;rw [al0];simp
def uH (s:List UInt8):Hd×Int :=
 if s.length<64 then(⟨0,0,⟨0,0,0⟩,0⟩,3)
 else if UG (rH s) s.length=true∧frB s=true then(rH s,0)
 else(⟨0,0,⟨0,0,0⟩,0⟩,4)
theorem KE {s:List UInt8}(h:¬s.length<64):(tL (rH s) 16++s.drop 64=s)↔∀i,i<16→(BQ s i:Int)=AO (rH s) i:=by
 have e1:(tL (rH s) 16++s.drop 64=s)↔tL (rH s) 16=s.take (4*16):=by
  constructor
  ·intro e
   have:=congrArg (List.take 64) e
   rw [List.take_append_of_le_length (by rw [yF];omega),List.take_of_length_le (by rw [yF];omega)] at this
   exact this
  ·intro e;rw [e];exact List.take_append_drop 64 s
 rw [e1]
 unfold tL
 rw [xU (fun i=>C7 _) 16 (by omega)]
 constructor
 ·intro a i hi
  have:=a i hi
  have hb:=atV (Wb s) i
  unfold BQ
  rw [←this,alX];exact af8 hb.1 hb.2
 ·intro a i hi
  rw [←a i hi]
  exact apT (Jl (by omega))
theorem aEC (s:List UInt8) (hs:s.length≤9223372036854775807):t4 s=some (uH s):=by
 unfold t4 uH
 by_cases h:s.length<64
 ·rw [if_pos h,n9 (by omega)];rfl
 ·rw [if_neg h,mT (by omega),kX]
  have a:=fun i (hi:i<16)=>aED (s:=s) (i:=i) (by omega) (by omega)
  have a1:=a 1 (by decide)
  have a3:=a 3 (by decide)
  have a7:=a 7 (by decide)
  have a8:=a 8 (by decide)
  have a9:=a 9 (by decide)
  have a10:=a 10 (by decide)
  have l1:=zC s 1
  have l3:=zC s 3
  rw [show(1:Int)=((1:Nat):Int) from rfl,show(3:Int)=((3:Nat):Int) from rfl,show(7:Int)=((7:Nat):Int) from rfl,show(8:Int)=((8:Nat):Int) from rfl,show(9:Int)=((9:Nat):Int) from rfl,show(10:Int)=((10:Nat):Int) from rfl,a1,a3,a7,a8,a9,a10]
  simp only [kS]
  rw [show zP s (some 64) none=some (s.drop 64) from by
   simp only [zP,JZ];rw [if_pos (by decide)];simp only;rw [if_pos (by constructor <;> first | decide | omega)];rw [List.take_of_length_le (by simp)];rfl,kS]
  rw [lP ((BQ s 1:Int)-((1:Nat):Int)) (by omega) (by omega),lP ((BQ s 3:Int)-((1:Nat):Int)) (by omega) (by omega)]
  have hb:=Wb s
  obtain⟨e,h9,he⟩:=aEE hb (c:=s.drop 64) (by simp;omega)
  rw [show(64+((s.drop 64).length:Int))=(s.length:Int) from by simp;omega] at h9 he
  have hd:(⟨(BQ s 1:Int)-((1:Nat):Int),(BQ s 3:Int)-((1:Nat):Int),⟨(BQ s 7:Int),(BQ s 8:Int),(BQ s 9:Int)⟩,(BQ s 10:Int)⟩:Hd)=rH s:=rfl
  rw [hd,h9,kS]
  dsimp only
  rw [he]
  cases ho:UG (rH s) (s.length:Int)
  ·rw [if_neg (by simp)];rfl
  ·simp only [if_true,Bool.not_true,kX,true_and]
   unfold Pn
   by_cases hw:∀i,i<16→(BQ s i:Int)=AO (rH s) i
   ·rw [if_pos (Lm.2 hw),n9 ((KE h).2 hw)];rfl
   ·rw [if_neg fun q=>hw (Lm.1 q),mT fun q=>hw ((KE h).1 q)];rfl
end
section
open Go Hk
theorem abH {v z:kN}{j n:Nat}:kU (ai1 j v++ai1 (n+1) z) j [v]=ai1 (j+1) v++ai1 n z:=by
 unfold kU
 have e:List.drop (j+[v].length) (ai1 j v++ai1 (n+1) z)=ai1 n z:=by
  rw [List.drop_append,aq8 (by simp),List.nil_append,List.length_replicate,show j+[v].length-j=1 from by simp,List.replicate_succ];rfl
 rw [e,List.take_append_of_le_length (by simp),List.take_of_length_le (by simp),List.replicate_succ']
theorem Pm {m:Nat}{h:kO}:∀{l:List Int},mI m h (l.map (kN.int .i64))=some (l.map (kN.int .i64))
 | []=>rfl
 | x::l=>by simp [Pm (l:=l)]
theorem HV {p:Nat}{j:Nat}(h:j<16):lQ 16 1 (.ptr p 0) (.int .i64 (j:Int))=some (.ptr p j):=by
 simp only [lQ];rw [if_pos (by omega)];simp
def Tm (v:Int) (j:Nat):List kN:=ai1 j (.int .i64 v)++ai1 (16-j) (.int .i64 0)
theorem Ys {v:Int}{j:Nat}(h:j≤16):(Tm v j).length=16:=by unfold Tm;simp;omega
theorem Yt {v:Int}{j:Nat}(h:j<16):kU (Tm v j) j [.int .i64 v]=Tm v (j+1):=by
 unfold Tm
 rw [show 16-j=(16-(j+1))+1 from by omega]
 exact abH
theorem Tn {v:Int}{j m:Nat}{h:kO}:mI m h (Tm v j)=some (Tm v j):=by
 have e:Tm v j=(ai1 j v++ai1 (16-j) 0).map (kN.int .i64):=by unfold Tm;simp
 rw [e,Pm]
theorem Vj {v w:Int}{j k:Nat}{h:kO}:nQ h ((Tm v j).drop k) [.int .i64 w]=[.int .i64 w]:=sA _ _ (by simp [kN.isNil])
theorem l34 (hd:Hd) (z:List kN) (hz:∀h,mI 3 h z=some z):∀n j:Nat,j+n=16→nP (Mc KK 3) ([.ptr 0 0,.ptr 1 0,.ptr 2 0,.int .i64 (j:Int)],[.cells hd.cells,.cells z,.cells (Tm (sD .i64 hd.handler 1) j)])=some (.exit 0,[.ptr 0 0,.ptr 1 0,.ptr 2 0,.int .i64 16],[.cells hd.cells,.cells z,.cells (Tm (sD .i64 hd.handler 1) 16)]):=by
 intro n
 induction n with
 | zero =>
  intro j hj
  obtain rfl:j=16:=by omega
  refine s7 ?_
  simp [Mc,hz,Tn]
 | succ n ih =>
  intro j hj
  have h1:(j:Int)<16:=by omega
  have h2:IntKind.i64.wrap ((j:Int)+1)=((j+1:Nat):Int):=by rw [lP _ (by omega) (by omega)];simp
  have h3:j<16:=by omega
  rw [←ih (j+1) (by omega)]
  refine nK ?_
  simp [-kU,Mc,h1,HV h3,h2,Yt h3,Vj,Ys (show j≤16 by omega),hz,Tn,show j≤15 by omega]
def OQ (h:Hd):List kN:=[.int .i64 (AO h 0),.int .i64 (AO h 1),.int .i64 (AO h 2),.int .i64 (AO h 3),.int .i64 (AO h 4),.int .i64 (AO h 5),.int .i64 (AO h 6),.int .i64 (AO h 7),.int .i64 (AO h 8),.int .i64 (AO h 9),.int .i64 (AO h 10),.int .i64 (AO h 11),.int .i64 (AO h 12),.int .i64 (AO h 13),.int .i64 (AO h 14),.int .i64 (AO h 15)]
theorem az8 {n:Int}(h0:0≤n) (h1:n<4294967296) (h2:n%2=0):sD .i64 n 1=n+1:=by
 have:=tA (a:=(n/2).toNat) (b:=1) (k:=1) (by decide) (by omega) (by decide)
 rw [show(((n/2).toNat*2^1:Nat):Int)=n from by omega,show((n/2).toNat*2^1+1:Nat)=(n+1).toNat from by omega] at this
 rw [show(1:Int)=((1:Nat):Int) from rfl,this];omega
theorem c34 {hd:Hd}(r0:0≤hd.reset) (r1:hd.reset<4294967295) (r2:hd.reset%2=0) (g0:0≤hd.handler) (g1:hd.handler<4294967295) (g2:hd.handler%2=0) (h:kO):KK 34 [.agg hd.cells] h=some (.ret (.agg (OQ hd)),h):=by
 refine qC rfl rfl (ajZ ..) ?_
 have l:=l34 hd [(.int .i64 0),(.int .i64 0),(.int .i64 0),(.int .i64 0),(.int .i64 0),(.int .i64 0),(.int .i64 0),(.int .i64 0),(.int .i64 0),(.int .i64 0),(.int .i64 0),(.int .i64 0),(.int .i64 0),(.int .i64 0),(.int .i64 0),(.int .i64 0)] (fun h=>rfl) 16 0 rfl
 rw [az8 g0 (by omega) g2] at l
 have t1:=az8 r0 (by omega) r2
 rw [show Tm (hd.handler+1) 0=[(.int .i64 0),(.int .i64 0),(.int .i64 0),(.int .i64 0),(.int .i64 0),(.int .i64 0),(.int .i64 0),(.int .i64 0),(.int .i64 0),(.int .i64 0),(.int .i64 0),(.int .i64 0),(.int .i64 0),(.int .i64 0),(.int .i64 0),(.int .i64 0)] from rfl,
  show Tm (hd.handler+1) 16=[(.int .i64 (hd.handler+1)),(.int .i64 (hd.handler+1)),(.int .i64 (hd.handler+1)),(.int .i64 (hd.handler+1)),(.int .i64 (hd.handler+1)),(.int .i64 (hd.handler+1)),(.int .i64 (hd.handler+1)),(.int .i64 (hd.handler+1)),(.int .i64 (hd.handler+1)),(.int .i64 (hd.handler+1)),(.int .i64 (hd.handler+1)),(.int .i64 (hd.handler+1)),(.int .i64 (hd.handler+1)),(.int .i64 (hd.handler+1)),(.int .i64 (hd.handler+1)),(.int .i64 (hd.handler+1))] from rfl] at l
 have i0:=HV (p:=2) (j:=0) (by decide)
 have i1:=HV (p:=2) (j:=1) (by decide)
 have i7:=HV (p:=2) (j:=7) (by decide)
 have i8:=HV (p:=2) (j:=8) (by decide)
 have i9:=HV (p:=2) (j:=9) (by decide)
 have i10:=HV (p:=2) (j:=10) (by decide)
 simp only [Hd.lX,Int.natCast_zero,show((0:Nat):Int)=0 from rfl,show((1:Nat):Int)=1 from rfl,show((7:Nat):Int)=7 from rfl,show((8:Nat):Int)=8 from rfl,show((9:Nat):Int)=9 from rfl,show((10:Nat):Int)=10 from rfl] at l i0 i1 i7 i8 i9 i10
 simp -implicitDefEqProofs [m34,l,i0,i1,i7,i8,i9,i10,t1,kU,OQ,AO]
theorem Zm (h:Hd) (j:Nat) (hj:j<16):(OQ h)[j]?=some (.int .i64 (AO h j)):=by
 match j,hj with
 | 0,_=>rfl
 | 1,_=>rfl
 | 2,_=>rfl
 | 3,_=>rfl
 | 4,_=>rfl
 | 5,_=>rfl
 | 6,_=>rfl
 | 7,_=>rfl
 | 8,_=>rfl
 | 9,_=>rfl
 | 10,_=>rfl
 | 11,_=>rfl
 | 12,_=>rfl
 | 13,_=>rfl
 | 14,_=>rfl
 | 15,_=>rfl
 | n+16,h=>omega
theorem at5 {h:Hd}{j:Nat}(hj:j<16):oI false 16 1 (.agg (OQ h)) (.int .i64 (j:Int))=some (.int .i64 (AO h j)):=by
 have:=Zm h j hj
 unfold oI
 simp [hj,show(OQ h).length=16 from rfl]
 exact⟨by omega,(List.getElem?_eq_some_iff.1 this).2⟩
def zHd:Hd:=⟨0,0,⟨0,0,0⟩,0⟩
theorem k32 {s:List UInt8}{i:Nat}(h:4*i+4≤s.length) (hs:s.length≤9223372036854775807) (hp:kO):KK 32 [.str s,.int .i64 (i:Int)] hp=some (.ret (.int .i64 (BQ s i:Int)),hp):=by
 rw [xG,azP h hs];rfl
theorem l25 (s:List UInt8) (hl:¬s.length<64) (hs:s.length≤9223372036854775807) (hd:Hd):∀n j:Nat,j+n=16 →
  ((∀i,j≤i→i<16→(BQ s i:Int)=AO hd i)→nP (Bn KK 2) ([.str s,.ptr 0 0,.int .i64 0,.ptr 1 0,.agg (OQ hd),.int .i64 (j:Int)],[.cells zHd.cells,.cells hd.cells])=some (.exit 0,[.str s,.ptr 0 0,.int .i64 0,.ptr 1 0,.agg (OQ hd),.int .i64 16],[.cells zHd.cells,.cells hd.cells])) ∧
  ((¬∀i,j≤i→i<16→(BQ s i:Int)=AO hd i)→∃k,nP (Bn KK 2) ([.str s,.ptr 0 0,.int .i64 0,.ptr 1 0,.agg (OQ hd),.int .i64 (j:Int)],[.cells zHd.cells,.cells hd.cells])=some (.ret,[.str s,.ptr 0 0,.int .i64 4,.ptr 1 0,.agg (OQ hd),.int .i64 k],[.cells zHd.cells,.cells hd.cells])):=by
 intro n
 induction n with
 | zero =>
  intro j hj
  obtain rfl:j=16:=by omega
  refine⟨fun _=>s7 ?_,fun h=>absurd (fun i h1 h2=>by omega) h⟩
  simp [Bn,OQ]
 | succ n ih =>
  intro j hj
  have h1:(j:Int)<16:=by omega
  have h2:IntKind.i64.wrap ((j:Int)+1)=((j+1:Nat):Int):=by rw [lP _ (by omega) (by omega)];simp
  have h3:j<16:=by omega
  have kk:=fun hp=>k32 (s:=s) (i:=j) (by omega) (by omega) hp
  by_cases he:(BQ s j:Int)=AO hd j
  ·have e:nP (Bn KK 2) ([.str s,.ptr 0 0,.int .i64 0,.ptr 1 0,.agg (OQ hd),.int .i64 (j:Int)],[.cells zHd.cells,.cells hd.cells])=nP (Bn KK 2) ([.str s,.ptr 0 0,.int .i64 0,.ptr 1 0,.agg (OQ hd),.int .i64 ((j+1:Nat):Int)],[.cells zHd.cells,.cells hd.cells]):=by
    refine nK ?_
    have he':AO hd j=(BQ s j:Int):=he.symm
    have ix:=at5 (h:=hd) h3
    rw [he'] at ix
    have sa:∀m h,(OQ hd).map (fun x=>kN.oW m h x)=OQ hd:=fun m h=>rfl
    simp [Bn,h1,ix,kk,h2,zHd,sa]
   have q:=ih (j+1) (by omega)
   rw [e]
   refine⟨fun a=>q.1 fun i hi=>a i (by omega),fun a=>q.2 fun b=>a fun i hi hi2=>?_⟩
   by_cases hij:i=j
   ·rw [hij];exact he
   ·exact b i (by omega) hi2
  ·refine⟨fun a=>absurd (a j (Nat.le_refl _) h3) he,fun _=>⟨(j:Int),?_⟩⟩
   have ix:=at5 (h:=hd) h3
   have sa:∀m h,(OQ hd).map (fun x=>kN.oW m h x)=OQ hd:=fun m h=>rfl
   rw [Bj]
   simp [Bn,h1,ix,kk,he,zHd,sa]
theorem ae6 {h:Hd}{n:Int}(hn:n<4294967295) (e:UG h n=true):64≤h.reset∧h.reset<n∧h.reset%2=0∧64≤h.handler∧h.handler<n∧h.handler%2=0∧Ew h.sizes n=0∧h.mode<3:=by
 unfold UG x9 at e
 simp only [ae7,decide_eq_true_eq] at e
 omega
theorem c25 (s:List UInt8) (hs:s.length≤9223372036854775807) (h:kO):KK 25 [.str s] h=some (.ret (.tuple [.agg (uH s).1.cells,.int .i64 (uH s).2]),h):=by
 refine qC rfl rfl (ajS ..) ?_
 unfold uH
 by_cases hl:s.length<64
 ·rw [if_pos hl]
  simp [m25,show((s.length:Nat):Int)<64 from by omega]
 ·rw [if_neg hl]
  have l1:=zC s 1
  have l3:=zC s 3
  have kk:=fun(i:Nat) (hi:i<16) hp=>k32 (s:=s) (i:=i) (by omega) (by omega) hp
  have w1:=kk 1 (by decide)
  have w3:=kk 3 (by decide)
  have w7:=kk 7 (by decide)
  have w8:=kk 8 (by decide)
  have w9:=kk 9 (by decide)
  have w10:=kk 10 (by decide)
  simp only [show((1:Nat):Int)=1 from rfl,show((3:Nat):Int)=3 from rfl,show((7:Nat):Int)=7 from rfl,show((8:Nat):Int)=8 from rfl,show((9:Nat):Int)=9 from rfl,show((10:Nat):Int)=10 from rfl] at w1 w3 w7 w8 w9 w10
  have e1:IntKind.i64.wrap ((BQ s 1:Int)-1)=(rH s).reset:=lP _ (by omega) (by omega)
  have e3:IntKind.i64.wrap ((BQ s 3:Int)-1)=(rH s).handler:=lP _ (by omega) (by omega)
  have e7:(BQ s 7:Int)=(rH s).sizes.inn:=rfl
  have e8:(BQ s 8:Int)=(rH s).sizes.outt:=rfl
  have e9:(BQ s 9:Int)=(rH s).sizes.rail:=rfl
  have e10:(BQ s 10:Int)=(rH s).mode:=rfl
  have hb:=Wb s
  obtain⟨e,he,hz⟩:=azQ (h:=rH s) (n:=((s.length:Nat):Int)) hb.1 hb.2.2.2.2.2.1 (by omega)
  have k33:∀hp,KK 33 [.agg (rH s).cells,.int .i64 ((s.length:Nat):Int)] hp=some (.ret (.int .i64 e),hp):=fun hp=>(CF (rH s) _ hp).trans (by rw [he];rfl)
  have lp:=l25 s hl hs (rH s) 16 0 rfl
  have fi:=Lm (s:=s)
  have k34:UG (rH s) (s.length:Int)=true→∀hp,KK 34 [.agg (rH s).cells] hp=some (.ret (.agg (OQ (rH s))),hp):=fun ok hp=>by
   have q:s.length<4294967295:=by
    by_cases hq:s.length<4294967295
    ·exact hq
    ·exfalso
     have:Ew (rH s).sizes (s.length:Int)=0:=by unfold UG at ok;simp only [ae7,decide_eq_true_eq] at ok;exact ok.1
     have:=Kz this;omega
   have:=ae6 (by omega) ok
   exact c34 (by omega) (by omega) (by omega) (by omega) (by omega) (by omega) hp
  rw [e1.symm.trans e1] at *
  simp only [e7,e8,e9,e10] at w7 w8 w9 w10
  generalize rH s=hd at *
  simp only [Hd.lX] at k33 k34 lp
  simp only [zHd] at lp
  cases ho:UG hd (s.length:Int)
  ·rw [if_neg (by simp)]
   rw [ho] at hz
   have hz':¬e=0:=of_decide_eq_false hz
   simp -implicitDefEqProofs [m25,show ¬((s.length:Nat):Int)<64 from by omega,w1,w3,w7,w8,w9,w10,e1,e3,k33,hz']
  ·rw [ho] at hz
   have hz':e=0:=of_decide_eq_true hz
   subst hz'
   have k34':=k34 ho
   by_cases hf:∀i,i<16→(BQ s i:Int)=AO hd i
   ·rw [if_pos ⟨rfl,fi.2 hf⟩]
    have l:=lp.1 fun i _ h2=>hf i h2
    simp only [show((0:Nat):Int)=0 from rfl] at l
    simp -implicitDefEqProofs [m25,show ¬((s.length:Nat):Int)<64 from by omega,w1,w3,w7,w8,w9,w10,e1,e3,k33,k34',l]
   ·rw [if_neg fun q=>hf (fi.1 q.2)]
    obtain⟨k,l⟩:=lp.2 fun q=>hf fun i h2=>q i (Nat.zero_le _) h2
    simp only [show((0:Nat):Int)=0 from rfl] at l
    simp -implicitDefEqProofs [m25,show ¬((s.length:Nat):Int)<64 from by omega,w1,w3,w7,w8,w9,w10,e1,e3,k33,k34',l]
end
section
open Go Hk
def pZ (p:Sz) (n:Int):List mZ:=[⟨0,n,false⟩,⟨536936448,p.inn,true⟩,⟨537001984,p.outt,true⟩,⟨537133056,p.rail,true⟩,⟨537395200,p.rail,true⟩,⟨537919488,4,true⟩,⟨538968064,4,true⟩]
theorem afT {p:Sz}(hp:Oe p) {n:Int}(h0:0≤n) (hz:Ew p n=0):t35 p n=some (pZ p n,0):=by
 unfold t35;rw [afV hp h0,kS,hz];rfl
theorem az3 {p:Sz}(hp:Oe p) {n:Int}(h0:0≤n) (hz:Ew p n=0):t97 p n=some (pZ p n,0):=by
 unfold t97;rw [TW hp h0,kS,hz];rfl
def yT (r:mZ) (a n:Int):Bool:=decide (r.base≤a)&&(decide (n≤r.len)&&decide (a-r.base≤r.len-n))
def Rb (r:mZ):Prop:=0≤r.base∧r.base<4294967296∧0≤r.len∧r.len<4294967296
theorem afK {p:Sz}{n:Int}(h0:0≤n) (hp:Oe p) (hz:Ew p n=0):∀r∈pZ p n,Rb r:=by
 obtain⟨a0,a1,b0,b1,c0,c1⟩:=hp
 have:=Kz hz
 intro r hr
 simp only [pZ,List.mem_cons,List.not_mem_nil,or_false] at hr
 unfold Rb
 rcases hr with rfl | rfl | rfl | rfl | rfl | rfl | rfl <;> dsimp only <;> omega
section
variable {a n:Int}(a0:0≤a) (a1:a<4294967296) (hn:n=1∨n=4)
include a0 a1 hn
theorem apE {r:mZ}(hb:Rb r):t154 r a n=some (yT r a n):=by
 obtain⟨b0,b1,c0,c1⟩:=hb
 unfold t154 En Eo yT
 rw [lP (a-r.base) (by omega) (by omega),lP (r.len-n) (by omega) (by omega)]
 cases decide (r.base≤a) <;> cases decide (n≤r.len) <;> simp [tc]
end
def Gd (w:Bool) (a n:Int):List mZ→Nat→Option Nat
 | [],_=>none
 | r::rs,k=>if yT r a n=true then(if w=true∧r.write=false then none else some k) else Gd w a n rs (k+1)
section
variable {a n:Int}(a0:0≤a) (a1:a<4294967296) (hn:n=1∨n=4) (w:Bool) {l:List mZ}(hl:l.length<100) (hb:∀r∈l,Rb r)
include a0 a1 hn hl hb
theorem aC1:∀(d j:Nat),j+d=l.length→(∀k,Gd w a n (l.drop j) j=some k→rX (xP a n l ((l.length:Nat):Int)) (w,0,(j:Int))=some (.r,(w,(k:Int),(k:Int))))∧(Gd w a n (l.drop j) j=none→∃s,rX (xP a n l ((l.length:Nat):Int)) (w,0,(j:Int))=some (.x 1,s)):=by
 intro d
 induction d with
 | zero =>
  intro j hj
  rw [aq8 (by omega)]
  refine⟨fun k h=>(by cases h),fun _=>⟨(w,0,(j:Int)),mV ?_ (by simp)⟩⟩
  unfold xP
  dsimp only
  rw [mT (show ¬(j:Int)<(l.length:Int) by omega),kX]
 | succ d ih =>
  intro j hj
  have hj2:j<l.length:=by omega
  have hd:l.drop j=l[j]::l.drop (j+1):=al3 hj2
  have hi:sF l (j:Int)=some l[j]:=by unfold sF;rw [if_pos (by omega)];simp [hj2]
  have ht:=apE a0 a1 hn (hb l[j] (List.getElem_mem hj2))
  have st:xP a n l ((l.length:Nat):Int) (w,0,(j:Int))=if yT l[j] a n=true then(if w=true∧l[j].write=false then some (.x 1,(w,0,(j:Int))) else some (.r,(w,(j:Int),(j:Int)))) else some (.n,(w,0,((j+1:Nat):Int))):=by
   unfold xP Em
   dsimp only
   rw [n9 (show(j:Int)<(l.length:Int) by omega),lD,hi,kS,ht,kS,lP _ (by omega) (by omega)]
   cases yT l[j] a n <;> cases w <;> cases l[j].write <;> simp [tc]
  have q:=ih (j+1) (by omega)
  rw [hd]
  unfold Gd
  by_cases h1:yT l[j] a n=true
  ·rw [if_pos h1] at st ⊢
   by_cases h2:w=true∧l[j].write=false
   ·rw [if_pos h2] at st ⊢
    exact⟨fun k h=>(by cases h),fun _=>⟨_,mV st (by simp)⟩⟩
   ·rw [if_neg h2] at st ⊢
    exact⟨fun k h=>by cases h;exact mV st (by simp),fun h=>by cases h⟩
  ·rw [if_neg h1] at st ⊢
   rw [oB st]
   exact q
theorem l98:∀(d j:Nat),j+d=l.length→(∀k,Gd w a n (l.drop j) j=some k→rX (zM l a n) (w,0,0,(j:Int))=some (.r,(w,(k:Int),0,(k:Int))))∧(Gd w a n (l.drop j) j=none→(∃s,rX (zM l a n) (w,0,0,(j:Int))=some (.x 0,s))∨∃i,rX (zM l a n) (w,0,0,(j:Int))=some (.r,(w,0,8,i))):=by
 intro d
 induction d with
 | zero =>
  intro j hj
  rw [aq8 (by omega)]
  refine⟨fun k h=>(by cases h),fun _=>Or.inl ⟨(w,0,0,(j:Int)),mV ?_ (by simp)⟩⟩
  unfold zM
  dsimp only
  rw [mT (show ¬(j:Int)<(l.length:Int) by omega),kX]
 | succ d ih =>
  intro j hj
  have hj2:j<l.length:=by omega
  have hd:l.drop j=l[j]::l.drop (j+1):=al3 hj2
  have hi:sF l (j:Int)=some l[j]:=by unfold sF;rw [if_pos (by omega)];simp [hj2]
  obtain⟨b0,b1,c0,c1⟩:=hb l[j] (List.getElem_mem hj2)
  have st:zM l a n (w,0,0,(j:Int))=if yT l[j] a n=true then(if w=true∧l[j].write=false then some (.r,(w,0,8,(j:Int))) else some (.r,(w,(j:Int),0,(j:Int)))) else some (.n,(w,0,0,((j+1:Nat):Int))):=by
   unfold zM I_ Ja Jb yT
   dsimp only
   rw [n9 (show(j:Int)<(l.length:Int) by omega),lD,hi]
   simp only [kS]
   rw [lP (a-l[j].base) (by omega) (by omega),lP (l[j].len-n) (by omega) (by omega),lP ((j:Int)+1) (by omega) (by omega)]
   cases decide (l[j].base≤a) <;> cases decide (n≤l[j].len) <;> cases decide (a-l[j].base≤l[j].len-n) <;> cases w <;> cases l[j].write <;> simp [tc]
  have q:=ih (j+1) (by omega)
  rw [hd]
  unfold Gd
  by_cases h1:yT l[j] a n=true
  ·rw [if_pos h1] at st ⊢
   by_cases h2:w=true∧l[j].write=false
   ·rw [if_pos h2] at st ⊢
    exact⟨fun k h=>(by cases h),fun _=>Or.inr ⟨_,mV st (by simp)⟩⟩
   ·rw [if_neg h2] at st ⊢
    exact⟨fun k h=>by cases h;exact mV st (by simp),fun h=>by cases h⟩
  ·rw [if_neg h1] at st ⊢
   rw [oB st]
   exact q
def C9 (w:Bool) (a n:Int) (l:List mZ):Option Nat:=if a%n=0 then Gd w a n l 0 else none
def Tw (o:Option Nat):Int×Int:=match o with
 | some k=>((k:Int),0)
 | none=>(0,8)
theorem apA:t138 l a n w=some (Tw (C9 w a n l)):=by
 have s0:t138 l a n w=B_ false a n l w:=by
  unfold t138
  rcases hn with rfl | rfl <;> rfl
 rw [s0]
 unfold B_ C9
 rw [kX,pE a0 (by omega),kS]
 by_cases hm:a%n=0
 ·rw [if_pos hm,n9 hm,show(!true)=false from rfl,kX]
  have q:=aC1 a0 a1 hn w hl hb l.length 0 (by omega)
  rw [show((0:Nat):Int)=0 from rfl,List.drop_zero] at q
  cases hf:Gd w a n l 0 with
  | some k=>rw [q.1 k hf];rfl
  | none=>obtain⟨s,e⟩:=q.2 hf;rw [e];rfl
 ·rw [if_neg hm,mT hm];rfl
theorem az4:t98 l a n w=some (Tw (C9 w a n l)):=by
 have s0:t98 l a n w=Fy false a n l w:=by
  unfold t98
  rcases hn with rfl | rfl <;> rfl
 rw [s0]
 unfold Fy C9
 rw [kX,pE a0 (by omega),kS]
 by_cases hm:a%n=0
 ·rw [if_pos hm,n9 hm,show(!true)=false from rfl,kX]
  have q:=l98 a0 a1 hn w hl hb l.length 0 (by omega)
  rw [show((0:Nat):Int)=0 from rfl,List.drop_zero] at q
  cases hf:Gd w a n l 0 with
  | some k=>rw [q.1 k hf];rfl
  | none=>rcases q.2 hf with ⟨s,e⟩ | ⟨s,e⟩ <;> rw [e] <;> rfl
 ·rw [if_neg hm,mT hm];rfl
end
theorem Tx {w:Bool}{a n:Int}:∀{l:List mZ}{j k:Nat},Gd w a n l j=some k→∃r,j≤k∧l[k-j]?=some r∧yT r a n=true∧(w=true→r.write=true)
 | [],_,_,h=>by cases h
 | r::rs,j,k,h=>by
  unfold Gd at h
  by_cases h1:yT r a n=true
  ·rw [if_pos h1] at h
   by_cases h2:w=true∧r.write=false
   ·rw [if_pos h2] at h;cases h
   ·rw [if_neg h2] at h
    cases h
    refine⟨r,Nat.le_refl _,by simp,h1,fun hw=>?_⟩
    cases hr:r.write
    ·exact absurd ⟨hw,hr⟩ h2
    ·rfl
  ·rw [if_neg h1] at h
   obtain⟨r',e1,e2,e3⟩:=Tx h
   refine⟨r',by omega,?_,e3⟩
   rw [show k-j=(k-(j+1))+1 from by omega,List.getElem?_cons_succ];exact e2
theorem Qc {w:Bool}{a n:Int}{l:List mZ}{k:Nat}(h:C9 w a n l=some k):∃r,l[k]?=some r∧yT r a n=true∧(w=true→r.write=true):=by
 unfold C9 at h
 split at h
 ·obtain⟨r,_,e2,e3⟩:=Tx h
  exact⟨r,e2,e3⟩
 ·cases h
theorem Nf {r:mZ}{a n:Int}(h:yT r a n=true):r.base≤a∧a+n≤r.base+r.len:=by
 unfold yT at h;simp only [ae7,decide_eq_true_eq] at h;omega
end
noncomputable section
open Go Hk
def EN (K:kT) (m:Nat) (s:List kN×kO):Option R :=
 uq9 s fun aE aF aG aH aI aD aB aC aA aJ=>aq .lss aA aC ((mD 3 aB aA).bind fun aM=>(kY true 3 aJ aM).bind fun aN=>kW (lR 3 aJ (.agg [zO,zO,false])) fun t27 aL=>(kR 3 aL t27 aN).bind fun aK=>fq 1 t27 aK fun t31=>(lF .add aD t31).bind fun t32=>(lF .add aA (1:Int)).bind fun t33=>kZ m .normal [aE,aF,aG,aH,aI,t32,aB,aC,t33] aK) (kZ m (.exit 0) [aE,aF,aG,aH,aI,aD,aB,aC,aA] aJ)
def Bo (K:kT) (m:Nat) (s:List kN×kO):Option R :=
 uq9 s fun aF aG aH aI aA aC aD aE aB aK=>aq .lss aB aE ((mD 3 aD aB).bind fun t64=>(kY true 3 aK t64).bind fun t65=>kW (lR 3 aK (.agg [zO,zO,false])) fun t66 aN=>(kR 3 aN t66 t65).bind fun aJ=>(lM aA).bind fun aQ=>(kQ 1 aQ).bind fun aL=>(kY false 1 aJ aL).bind fun t71=>fq 1 t66 aJ fun t73=>(n8 1 aC none (some t73)).bind fun t74=>kW (vA 1 1 [(.slice [] .nil)] [(0,t74)] (oR (lA [0] [aL]) aJ)) fun t75 aO=>kW (sM 1 24 (lO (lA [0] [aL]) aJ aO) t71 t75) fun t77 aP=>(lM aA).bind fun aR=>(kQ 1 aR).bind fun t80=>(kR 1 aP t80 t77).bind fun aM=>fq 1 t66 aM fun aS=>(n8 1 aC (some aS) none).bind fun aT=>(lF .add aB (1:Int)).bind fun t85=>kZ m .normal [aF,aG,aH,aI,aA,aT,aD,aE,t85] aM) (kZ m (.exit 2) [aF,aG,aH,aI,aA,aC,aD,aE,aB] aK)
def m26 (K:kT) (a0 a1 a2:kN) (h0:kO):OH :=
 (kW (lR 3 h0 a0) fun t0 h1=>(kY true 3 h1 t0).bind fun t2=>(nG a1).bind fun t3=>yG K 35 t2 t3 h1 fun t4 h5=>(lC 0 t4).bind fun t6=>(lC 1 t4).bind fun t7=>aq .neq t7 zO (some (.ret,[.nilptr,t7],h5)) ((nG a2).bind fun t9=>fq 0 t0 h5 fun bI=>aq .neq t9 bI (some (.ret,[.nilptr,(2:Int)],h5)) ((s5 t6).bind fun t13=>(nP (EN K (aa5 h5)) ([a1,a2,.nilptr,zO,t6,zO,t6,t13,zO],h5)).bind fun bA=>uq9 bA.2 fun aJ aL aC aD aB aF aT aU aV aZ=>Ex.l_ bA.1 none (fun bD=>Ex.inBlock 0 bD ((lB [(.slice [] .nil),(.slice [] .nil)] [(0,1),(1,1)] [(0,aB)]).bind fun bK=>kW (lR 2 aZ bK) fun t48 bH=>kW (pI 1 1 [(.int .u8 0)] aF bH) fun bL a_=>(s5 aB).bind fun t52=>(nP (Bo K (aa5 a_)) ([aJ,aL,aC,aD,t48,bL,aB,t52,zO],a_)).bind fun bB=>uq9 bB.2 fun aK aM aN aO aA aS aW aX aY aP=>Ex.l_ bB.1 none (fun bF=>Ex.inBlock 2 bF ((lM aA).bind fun bM=>fq 1 bM aP fun t101=>(mD 1 t101 zO).bind fun t102=>(kY false 1 aP t102).bind fun t103=>kW (zA aP t103 aK) fun t104 aE=>(lM aA).bind fun t106=>fq 1 t106 aE fun t108=>(mD 1 t108 (1:Int)).bind fun t109=>(kY false 1 aE t109).bind fun t110=>kW (zA aE t110 aM) fun bJ aQ=>some (.ret,[aA,zO],aQ)) (fun bG=>some (bG,[aN,aO],aP)))) (fun bE=>some (bE,[aC,aD],aZ)))))).bind fun aI=>F3 aI.2 fun aG aH aR=>Ex.oH aI.1 (zY (aa5 h0) (.tuple [aG,aH]) aR)
theorem Ww K a0 a1 a2 h0:nN K 26 [a0,a1,a2] h0=m26 (lG mJ K) a0 a1 a2 h0:=by kernel_rfl
def m82 (K:kT) (a0 a1 a2 a3:kN) (h0:kO):OH :=
 (Ym K 118 a0 a1 a2 true h0 fun t0 h1=>(lC 0 t0).bind fun t2=>(lC 1 t0).bind fun t3=>aq .neq t3 zO (some (.ret,[t3],h1)) (zE K 119 a3 h1 fun t5 h6=>kW (zA h6 t2 t5) fun t7 h8=>some (.ret,[zO],h8))).bind fun r9=>Jr r9.2 fun aA aB=>Ex.oH r9.1 (oM (aa5 h0) aA aB)
theorem ak9 K a0 a1 a2 a3 h0:nN K 82 [a0,a1,a2,a3] h0=m82 (lG mJ K) a0 a1 a2 a3 h0:=by kernel_rfl
def EO (K:kT) (m:Nat) (s:List kN×kO):Option R :=
 Vd s fun aE aF aD aC aB aA aG=>aq .lss aA aB ((mD 1 aC aA).bind fun t14=>(kY false 1 aG t14).bind fun t15=>(mC .i64 t15).bind fun t16=>(lF .mul (8:Int) aA).bind fun t17=>(lF .shl t16 t17).bind fun t18=>(lF .or aD t18).bind fun aH=>(lF .add aA (1:Int)).bind fun aI=>kZ m .normal [aE,aF,aH,aC,aB,aI] aG) (kZ m (.exit 0) [aE,aF,aD,aC,aB,aA] aG)
def m83 (K:kT) (a0 a1 a2:kN) (h0:kO):OH :=
 (Ym K 118 a0 a1 a2 false h0 fun t0 h1=>(lC 0 t0).bind fun t2=>(lC 1 t0).bind fun t3=>aq .neq t3 zO (some (.ret,[zO,t3],h1)) ((s5 t2).bind fun t5=>(nP (EO K (aa5 h1)) ([zO,zO,zO,t2,t5,zO],h1)).bind fun aJ=>Vd aJ.2 fun aB aD aA aF aG aH aI=>Ex.l_ aJ.1 none (fun e22=>Ex.inBlock 0 e22 (some (.ret,[aA,zO],aI)) (fun aK=>some (aK,[aB,aD],aI))))).bind fun yP=>F3 yP.2 fun aC aE aL=>Ex.oH yP.1 (oM (aa5 h0) (.tuple [aC,aE]) aL)
theorem alA K a0 a1 a2 h0:nN K 83 [a0,a1,a2] h0=m83 (lG mJ K) a0 a1 a2 h0:=by kernel_rfl
def ajE (K:kT) (a0 a1 a2 a3:kN) (h0:kO):OH :=
 ((fun(t1:kN) (h0:kO)=>(Kb .eql a0 .nilptr).bind fun t2=>kV t2 ((fun(t4:kN) (h3:kO)=>some (.ret,[t4,(1:Int)],h3)) (.slice [] (.own (aa5 h0))) (h0++[.front 0 0])) ((lM a0).bind fun t5=>fq 0 t5 h0 fun t7=>Ym K 138 t7 a1 a2 a3 h0 fun t8 h9=>(lC 0 t8).bind fun t10=>(lC 1 t8).bind fun aC=>aq .neq aC zO ((fun(t14:kN) (aE:kO)=>some (.ret,[t14,aC],aE)) (.slice [] (.own (aa5 h9))) (h9++[.front 0 0])) ((lM a0).bind fun t15=>fq 0 t15 h9 fun t17=>(mD 3 t17 t10).bind fun t18=>fq 0 t18 h9 fun aG=>(lF .sub a1 aG).bind fun aD=>(lM a0).bind fun aH=>fq 1 aH h9 fun t24=>(mD 1 t24 t10).bind fun aI=>(kY false 1 h9 aI).bind fun aJ=>(lF .add aD a2).bind fun t27=>(n8 1 aJ (some aD) (some t27)).bind fun aK=>some (.ret,[aK,zO],h9)))) (.slice [] (.own (aa5 h0))) (h0++[.front 0 0])).bind fun uZ=>F3 uZ.2 fun aA aB aF=>Ex.oH uZ.1 (oM (aa5 h0) (.tuple [aA,aB]) aF)
theorem TB K a0 a1 a2 a3 h0:nN K 118 [a0,a1,a2,a3] h0=ajE (lG mJ K) a0 a1 a2 a3 h0:=by kernel_rfl
def m11 (K:kT) (a0 a1 a2:kN) (h0:kO):OH :=
 ((fun(t1:kN) (h0:kO)=>yG K 19 a0 a1 h0 fun t2 h3=>(lC 0 t2).bind fun t4=>(lC 1 t2).bind fun t5=>aq .neq t5 zO ((fun(t8:kN) (h7:kO)=>some (.ret,[t8,t5],h7)) (.slice [] (.own (aa5 h3))) (h3++[.front 0 0])) ((lF .lss a2 zO).bind fun t9=>nI false t9 (some a2) h3 fun t10 aE=>nI false t9 (lF .gtr t10 (1048576:Int)) aE fun t13 aC=>(lH t9 true t13).bind fun t15=>kV t15 ((fun(t17:kN) (aF:kO)=>some (.ret,[t17,(2:Int)],aF)) (.slice [] (.own (aa5 aC))) (aC++[.front 0 0])) (kW (lR 1 aC (.slice [] .nil)) fun t18 aG=>(lB [zO,zO,zO,zO] [(0,1),(1,1),(2,1),(3,1)] []).bind fun aI=>Ym K 20 t4 aI a2 (.func 21 [] [t18]) aG fun aK aD=>(kY false 1 aD t18).bind fun aJ=>some (.ret,[aJ,zO],aD)))) (.slice [] (.own (aa5 h0))) (h0++[.front 0 0])).bind fun pY=>F3 pY.2 fun aA aB aH=>Ex.oH pY.1 (oM (aa5 h0) (.tuple [aA,aB]) aH)
theorem ajF K a0 a1 a2 h0:nN K 11 [a0,a1,a2] h0=m11 (lG mJ K) a0 a1 a2 h0:=by kernel_rfl
def m19 (K:kT) (a0 a1:kN) (h0:kO):OH :=
 (zE K 25 a0 h0 fun t0 h1=>(lC 0 t0).bind fun t2=>(lC 1 t0).bind fun t3=>kW (lR 6 h1 (.agg [zO,zO,zO,zO,zO,zO])) fun t4 h5=>(kR 6 h5 t4 t2).bind fun h6=>aq .neq t3 zO (some (.ret,[.nilptr,t3],h6)) ((kQ 2 t4).bind fun t8=>(kY true 3 h6 t8).bind fun t9=>AP K 26 t9 a0 a1 h6 fun t10 aC=>(lC 0 t10).bind fun aL=>(lC 1 t10).bind fun t13=>aq .neq t13 zO (some (.ret,[.nilptr,t13],aC)) ((kY true 6 aC t4).bind fun t15=>(nG a0).bind fun t16=>(lF .quo t16 (2:Int)).bind fun t17=>(lF .add t17 (1:Int)).bind fun t18=>kW (pI 11 80 [zO,zO,zO,zO,zO,zO,zO,false,zO,false,false] t18 (oR (lA [0] [t4]) aC)) fun aM aF=>(lB [zO,zO,zO,zO,zO,zO,(.str []),.nilptr,zO,zO,zO,zO,zO,zO,zO,zO,zO,zO,zO,zO,zO,zO,zO,zO,false,false,false,false,false,(.slice [] .nil)] [(0,6),(6,1),(7,1),(8,20),(28,1),(29,1)] [(0,t15),(1,a0),(2,aL),(5,aM)]).bind fun aN=>kW (lR 30 (lO (lA [0] [t4]) aC aF) aN) fun aD aG=>(lM aD).bind fun t24=>(kQ 8 t24).bind fun aO=>(kQ 0 aO).bind fun aP=>(lM aD).bind fun t27=>(kQ 8 t27).bind fun aQ=>(kQ 0 aQ).bind fun t29=>zE K 27 zO aG fun aR aH=>(lQ 15 1 aP (13:Int)).bind fun t32=>(kR 1 aH t32 (537133056:Int)).bind fun aI=>(lQ 15 1 t29 (14:Int)).bind fun aS=>(kR 1 aI aS aR).bind fun aE=>fq 0 t4 aE fun aT=>(lM aD).bind fun t38=>(kQ 8 t38).bind fun aU=>(kQ 15 aU).bind fun aV=>(kR 1 aE aV aT).bind fun aJ=>some (.ret,[aD,zO],aJ)))).bind fun Da=>F3 Da.2 fun aA aB aK=>Ex.oH Da.1 (zY (aa5 h0) (.tuple [aA,aB]) aK)
theorem QA K a0 a1 h0:nN K 19 [a0,a1] h0=m19 (lG mJ K) a0 a1 h0:=by kernel_rfl
def Bl (K:kT) (m:Nat) (s:List kN×kO):Option R :=
 Vd s fun aD aG aQ aR aE aA aX=>(lM aD).bind fun t13=>fq 28 t13 aX fun t15=>(vN .not t15).bind fun t16=>nI true t16 (kQ 1 aA) aX fun t18 aY=>nI true t16 (kY false 1 aY t18) aY fun bM bD=>nI true t16 (some aG) bD fun bN bE=>nI true t16 (lF .lss bM bN) bE fun bO aH=>(lH t16 bO false).bind fun bP=>kV bP ((lM aD).bind fun t29=>(kQ 8 t29).bind fun bQ=>fq 15 bQ aH fun t32=>(lM aD).bind fun t33=>(kQ 0 t33).bind fun bR=>fq 1 bR aH fun t36=>(lF .eql t32 t36).bind fun bS=>(kV bS (fq 3 aA aH fun bT=>(lF .add bT (1:Int)).bind fun bU=>(kQ 3 aA).bind fun bV=>(kR 1 aH bV bU).bind fun bF=>kZ (aa5 aH) .normal [aD,aG,aQ,aR,aE,aA] bF) (kZ (aa5 aH) .normal [aD,aG,aQ,aR,aE,aA] aH)).bind fun bB=>Vd bB.2 fun aI aK aL aC aN aF bG=>Ex.pR bB.1 ((lB [zO,zO,zO,zO] [(0,1),(1,1),(2,1),(3,1)] []).bind fun bW=>kW (lR 4 bG (.agg [zO,zO,zO,zO])) fun t52 bH=>(kR 4 bH t52 bW).bind fun aO=>fq 1 aC aO fun bX=>fq 1 aF aO fun bY=>(lF .eql bX bY).bind fun bZ=>(kV bZ ((kY true 4 aO aC).bind fun b_=>(kR 4 aO t52 b_).bind fun bI=>kZ (aa5 aO) .normal [aI,aK,aL,aC,aN,aF,t52] bI) (kZ (aa5 aO) .normal [aI,aK,aL,aC,aN,aF,t52] aO)).bind fun F0=>uq7 F0.2 fun aJ aS aM aT aU aB aP aZ=>Ex.pR F0.1 ((kY true 4 aZ aP).bind fun t71=>yG K 28 aJ t71 aZ fun t72 bJ=>(lC 0 t72).bind fun t74=>(lC 1 t72).bind fun t75=>kW (lR 4 bJ (.agg [zO,zO,zO,zO])) fun t76 bK=>(kR 4 bK t76 t74).bind fun a_=>(kY true 4 a_ t76).bind fun cA=>(uO aM).bind fun aV=>lW (wR mJ K aV.1 (tY mJ aV.1 (aV.2.1++[cA]++aV.2.2)) a_) (fun t80 bA=>fq 1 aB bA fun cB=>(lF .add cB (1:Int)).bind fun t85=>(kQ 1 aB).bind fun cC=>(kR 1 bA cC t85).bind fun aW=>fq 2 aB aW fun t89=>fq 3 t76 aW fun t91=>(lF .add t89 t91).bind fun t92=>(kQ 2 aB).bind fun t93=>(kR 1 aW t93 t92).bind fun bL=>kZ m .normal [aJ,aS,aM,aT,aU,aB] bL) (fun _ _=>none)))) (kZ m (.exit 0) [aD,aG,aQ,aR,aE,aA] aH)
def m20 (K:kT) (a0 a1 a2 a3:kN) (h0:kO):OH :=
 (kW (lR 4 h0 a1) fun t0 h1=>kW (lR 9 h1 (.agg [false,zO,zO,zO,zO,zO,(.str []),(.str []),(.str [])])) fun t2 h3=>kW (lR 9 h3 (.agg [false,zO,zO,zO,zO,zO,(.str []),(.str []),(.str [])])) fun t4 h5=>(nP (Bl K (aa5 h5)) ([a0,a2,a3,t0,t2,t4],h5)).bind fun SO=>Vd SO.2 fun aG aK aL aJ aA aB aC=>Ex.l_ SO.1 none (fun aM=>Ex.inBlock 0 aM ((lM aG).bind fun t105=>fq 28 t105 aC fun t107=>(kQ 0 aB).bind fun t108=>(kR 1 aC t108 t107).bind fun aE=>(kY true 9 aE aB).bind fun t110=>(kR 9 aE aA t110).bind fun aI=>some (.ret,[aA],aI)) (fun aH=>some (aH,[aA],aC)))).bind fun SB=>Jr SB.2 fun aD aF=>Ex.oH SB.1 ((kY true 9 aF aD).bind fun t115=>oM (aa5 h0) t115 aF)
theorem ajN K a0 a1 a2 a3 h0:nN K 20 [a0,a1,a2,a3] h0=m20 (lG mJ K) a0 a1 a2 a3 h0:=by kernel_rfl
def m21 (K:kT) (a0 a1:kN) (h0:kO):OH :=
 (kW (lR 4 h0 a0) fun t0 h1=>(kY false 1 h1 a1).bind fun t2=>(kY true 4 h1 t0).bind fun t3=>kW (lE 1 4 [zO,zO,zO,zO] [(0,t3)] h1) fun t4 h5=>kW (rS 4 32 h5 t2 t4) fun t6 h7=>(kR 1 h7 a1 t6).bind fun h8=>some (.normal,([]:List kN),h8)).bind fun r9=>(fun aA=>Ex.oH r9.1 (oM (aa5 h0) (.tuple []) aA))  r9.2.2
theorem ajO K a0 a1 h0:nN K 21 [a0,a1] h0=m21 (lG mJ K) a0 a1 h0:=by kernel_rfl
def WE (K:kT) (a0 a1 a2:kN) (pv:Option kN) (h0:kO):Option kO :=
 ((wQ 103 (.agg [zO]) (Option.getD pv .niliface)).bind fun t0=>(lC 0 t0).bind fun t1=>(lC 1 t0).bind fun t2=>kW (lR 1 h0 (.agg [zO])) fun t3 h4=>(kR 1 h4 t3 t1).bind fun h5=>(kV t2 ((kY false 1 h5 a0).bind fun t6=>(lM t6).bind fun t7=>(kQ 8 t7).bind fun t8=>fq 15 t8 h5 fun t10=>fq 0 t3 h5 fun t12=>(lB [zO,zO,zO,zO] [(0,1),(1,1),(2,1),(3,1)] [(0,(2:Int)),(1,t10),(2,t12),(3,(12:Int))]).bind fun t13=>(kR 4 h5 a1 t13).bind fun h14=>(kR 1 h14 a2 true).bind fun h15=>(kY false 1 h15 a0).bind fun t16=>(kY false 1 h15 a0).bind fun t17=>(lM t17).bind fun t18=>(kQ 0 t18).bind fun t19=>fq 1 t19 h15 fun t21=>(lM t16).bind fun t22=>(kQ 8 t22).bind fun t23=>(kQ 15 t23).bind fun t24=>(kR 1 h15 t24 t21).bind fun h25=>kZ (aa5 h5) .normal ([]:List kN) h25) (kZ (aa5 h5) .normal ([]:List kN) h5)).bind fun r26=>(fun h27=>Ex.pR r26.1 (some (.normal,[],h27)))  r26.2.2).bind fun r=>Ex.Uw r.1 (vT (aa5 h0) r.2.2)
def aaZ (K:kT) (caps:List kN) (pv:Option kN) (h0:kO):Option kO:=WE K (ad8 caps 0 .junk) (ad8 caps 1 .junk) (ad8 caps 2 .junk) pv h0
def m28 (K:kT) (a0 a1:kN) (h0:kO):OH :=
 (kW (lR 1 h0 a0) fun t0 h1=>kW (lR 4 h1 a1) fun t2 h3=>kW (lR 4 h3 (.agg [zO,zO,zO,zO])) fun t4 h5=>kW (lR 1 h5 false) fun t6 h7=>(kY false 1 h7 t0).bind fun t8=>zE K 37 t8 h7 fun t9 aI=>kV t9 ((lB [zO,zO,zO,zO] [(0,1),(1,1),(2,1),(3,1)] []).bind fun aV=>(kR 4 aI t4 aV).bind fun aO=>(kR 1 aO t6 false).bind fun aP=>some (.ret,[t4,t6],aP)) ((kY true 4 aI t2).bind fun t14=>zE K 38 t14 aI fun t15 aG=>(lF .neq t15 zO).bind fun t17=>(kV t17 ((lB [zO,zO,zO,zO] [(0,1),(1,1),(2,1),(3,1)] []).bind fun t18=>(kR 4 aG t2 t18).bind fun aQ=>kZ (aa5 aG) .normal [t0,t2,t4,t6] aQ) (kZ (aa5 aG) .normal [t0,t2,t4,t6] aG)).bind fun aM=>X1 aM.2 fun aC aD aA aB aJ=>Ex.pR aM.1 ((kY false 1 aJ aC).bind fun aW=>(kY true 4 aJ aD).bind fun t27=>yG K 39 aW t27 aJ fun aZ aK=>((kY false 1 aK aC).bind fun t32=>fq 0 aD aK fun aX=>(lF .eql aX (1:Int)).bind fun t35=>lW (Yp K 41 t32 t35 aK) (fun t36 aS=>(kR 4 aS aA t36).bind fun aT=>(kR 1 aT aB true).bind fun aU=>some (.ret,[aA,aB],aU)) (fun aY aR=>some ((.pan aY),[aA,aB],aR))).bind fun aH=>Ex.OK aH.1 (Option.map (fun hh=>(.ret,aH.2.1,hh)) (aaZ K [aC,aA,aB] none aH.2.2)) (fun vv=>Option.map (fun hh=>(.ret,[aA,aB],hh)) (aaZ K [aC,aA,aB] (some vv) aH.2.2))))).bind fun aN=>F3 aN.2 fun aE aF aL=>Ex.oH aN.1 ((kY true 4 aL aE).bind fun t45=>(kY false 1 aL aF).bind fun t46=>oM (aa5 h0) (.tuple [t45,t46]) aL)
theorem ajU K a0 a1 h0:nN K 28 [a0,a1] h0=m28 (lG mJ K) a0 a1 h0:=by kernel_rfl
def m37 (K:kT) (a0:kN) (h0:kO):OH :=
 ((Kb .eql a0 .nilptr).bind fun t0=>nI false t0 (some a0) h0 fun t1 h2=>nI false t0 (lM t1) h2 fun t4 h5=>nI false t0 (kQ 28 t4) h5 fun t7 h8=>nI false t0 (kY false 1 h8 t7) h8 fun t10 aB=>(lH t0 true t10).bind fun aD=>some (.ret,[aD],aB)).bind fun r13=>Jr r13.2 fun aA aC=>Ex.oH r13.1 (oM (aa5 h0) aA aC)
theorem aj2 K a0 h0:nN K 37 [a0] h0=m37 (lG mJ K) a0 h0:=by kernel_rfl
def m41 (K:kT) (a0 a1:kN) (h0:kO):OH :=
 (kW (lR 4 h0 (.agg [zO,zO,zO,zO])) fun t2 h3=>(lM a0).bind fun t6=>(kQ 8 t6).bind fun t7=>fq 15 t7 h3 fun t9=>(lB [zO,zO,zO,zO] [(0,1),(1,1),(2,1),(3,1)] [(1,t9)]).bind fun t10=>kW (lR 4 h3 (.agg [zO,zO,zO,zO])) fun aF bD=>(kR 4 bD aF t10).bind fun bE=>lW (uk1 K 56 a0 bE) (fun t16 bG=>(lC 0 t16).bind fun t18=>(lC 1 t16).bind fun bU=>kW (lR 8 bG (.agg [zO,zO,zO,zO,zO,zO,zO,false])) fun aN bH=>(kR 8 bH aN t18).bind fun aC=>kV a1 ((lM a0).bind fun t27=>(kQ 8 t27).bind fun bV=>fq 15 bV aC fun bW=>lW (Yp K 57 bW bU aC) (fun t31 bJ=>(lM a0).bind fun t33=>(kQ 8 t33).bind fun bX=>(kQ 15 bX).bind fun t35=>(kR 1 bJ t35 t31).bind fun bK=>(kQ 0 aF).bind fun bY=>(kR 1 bK bY (1:Int)).bind fun bL=>(kQ 3 aF).bind fun bZ=>(kR 1 bL bZ (1:Int)).bind fun aZ=>(kY true 4 aZ aF).bind fun t45=>(kR 4 aZ t2 t45).bind fun bM=>some (.ret,[t2],bM)) (fun cE bI=>some ((.pan cE),[t2],bI))) ((lM a0).bind fun b_=>(kQ 8 b_).bind fun t52=>(kY true 20 (aC++[.free]) t52).bind fun t53=>(kY true 8 (aC++[.free]) aN).bind fun t54=>kW (q_ ((aa5 aC)+0) 4 (aC++[.free]) (.agg [zO,zO,zO,false])) fun t55 aV=>bif (List.take (aa5 aC) aV).all (nH (aa5 aC)) then(lW (Yp K 58 (tK (aa5 aC) t53) (tK (aa5 aC) t54) (List.take (aa5 aC) aV)) (fun t57 bN=>lI t57 bN) Gg).bind (JP (aa5 aC) aV fun a_ bO=>(lC 0 a_).bind fun cA=>(lC 1 a_).bind fun t62=>(kR 4 bO t55 cA).bind fun aE=>(kV t62 ((kY true 4 aE t55).bind fun t68=>(kQ 0 t55).bind fun aQ=>(kY false 1 aE aQ).bind fun cB=>lW (Yp K 59 a0 t68 (oR (lA [0] [aQ]) aE)) (fun t71 bQ=>(kQ 2 aF).bind fun t73=>(kR 1 (lO (lA [0] [aQ]) aE bQ) t73 cB).bind fun bR=>kZ (aa5 aE) .normal [a0,t2,aF,aN,t71] bR) (fun v h'=>(fun cF bP=>kZ (aa5 aE) (.pan cF) [a0,t2,aF,aN,zO] bP) v (lO (lA [0] [aQ]) aE h'))) (kZ (aa5 aE) .normal [a0,t2,aF,aN,zO] aE)).bind fun r75=>uq5 r75.2 fun aA aB aG aH aO aP=>Ex.l_ r75.1 ((lM aA).bind fun t85=>(kQ 8 t85).bind fun cC=>(kY true 20 aP cC).bind fun t87=>(kY true 8 aP aH).bind fun t88=>lW (Yp K 60 t87 t88 aP) (fun t89 bT=>(kQ 3 aG).bind fun t91=>(kR 1 bT t91 t89).bind fun aD=>(lM aA).bind fun t95=>(kQ 8 t95).bind fun t96=>(kY true 20 (aD++[.free]) t96).bind fun t97=>(kY true 8 (aD++[.free]) aH).bind fun t98=>kW (q_ ((aa5 aD)+0) 20 (aD++[.free]) (.agg [zO,zO,zO,zO,zO,zO,zO,zO,zO,zO,zO,zO,zO,zO,zO,zO,false,false,false,false])) fun bA aI=>bif (List.take (aa5 aD) aI).all (nH (aa5 aD)) then(lW (uk3 K 61 (tK (aa5 aD) t97) (tK (aa5 aD) t98) (tK (aa5 aD) aO) (List.take (aa5 aD) aI)) (fun t101 aR=>lI t101 aR) Gg).bind (JP (aa5 aD) aI fun t103 aS=>(lC 0 t103).bind fun t105=>(lC 1 t103).bind fun t106=>(kR 20 aS bA t105).bind fun aL=>(kY true 20 aL bA).bind fun t110=>(vN .not t106).bind fun aW=>(lM aA).bind fun t112=>(kQ 8 t112).bind fun aX=>(kR 20 aL aX t110).bind fun aT=>(lM aA).bind fun t115=>(kQ 28 t115).bind fun t116=>(kR 1 aT t116 aW).bind fun aM=>(kY true 4 aM aG).bind fun aY=>(kR 4 aM aB aY).bind fun aU=>some (.ret,[aB],aU)) else none) (fun cG bS=>some ((.pan cG),[aB],bS))) (fun bB=>some (bB,[aB],aP))) else none)) (fun cD bF=>some ((.pan cD),[t2],bF))).bind fun Pe=>Jr Pe.2 fun aK aJ=>Ex.Ga Pe.1 ((kY true 4 aJ aK).bind fun t125=>oM (aa5 h0) t125 aJ) (fun v=>OO (aa5 h0) v aJ)
theorem Wy K a0 a1 h0:nN K 41 [a0,a1] h0=m41 (lG mJ K) a0 a1 h0:=by kernel_rfl
def m56 (K:kT) (a0:kN) (h0:kO):OH :=
 (kW (lR 8 h0 (.agg [zO,zO,zO,zO,zO,zO,zO,false])) fun t2 h3=>(lM a0).bind fun t6=>(kQ 8 t6).bind fun t7=>fq 15 t7 h3 fun t9=>(lF .and t9 (1:Int)).bind fun bB=>(lF .neq bB zO).bind fun t13=>(oU false t13 (lI t9 h3) (lI (.tuple []) h3)).bind (sY (fun t14 aN=>(oU false t13 (lI a0 aN) (lI (.tuple []) aN)).bind (sY (fun t16 aO=>(oU false t13 ((lM t16).bind fun t18=>lI t18 aO) (lI (.tuple []) aO)).bind (sY (fun bD aP=>(oU false t13 ((kQ 6 bD).bind fun bE=>lI bE aP) (lI (.tuple []) aP)).bind (sY (fun bF aK=>(oU false t13 ((kY false 1 aK bF).bind fun t24=>lI t24 aK) (lI (.tuple []) aK)).bind (sY (fun bG aQ=>(oU false t13 ((nG bG).bind fun t27=>lI t27 aQ) (lI (.tuple []) aQ)).bind (sY (fun bH aR=>(oU false t13 ((lF .geq t14 bH).bind fun bI=>lI bI aR) (lI (.tuple []) aR)).bind (sY (fun t31 aE=>(lH t13 true t31).bind fun t33=>kV t33 ((lB [zO] [(0,1)] []).bind fun t36=>Aj (.iface 103 t36) aE (fun bS aV=>some ((.pan bS),[t2,zO],aV))) ((lM a0).bind fun bJ=>fq 29 bJ aE fun bK=>(lF .quo t9 (2:Int)).bind fun t42=>(mD 11 bK t42).bind fun aH=>(lM aH).bind fun t46=>fq 9 t46 aE fun t48=>(vN .not t48).bind fun t49=>(kV t49 ((lM a0).bind fun t52=>fq 6 t52 aE fun t54=>(nT t54 (some t9) none).bind fun t55=>lW (uk1 K 79 t55 aE) (fun aM aX=>(lC 0 aM).bind fun bL=>(lC 1 aM).bind fun bM=>(lC 2 aM).bind fun bN=>kW (lR 8 aX (.agg [zO,zO,zO,zO,zO,zO,zO,false])) fun aT aY=>(kR 8 aY aT bL).bind fun aS=>(kY true 8 aS aT).bind fun t66=>(lF .neq bN zO).bind fun t67=>(lB [zO,zO,zO,zO,zO,zO,zO,false,zO,false,false] [(0,8),(8,1),(9,1),(10,1)] [(0,t66),(1,bM),(2,true),(3,t67)]).bind fun t68=>(lM aH).bind fun bO=>(kR 11 aS bO t68).bind fun aZ=>kZ (aa5 aE) .normal [t2,zO,aH] aZ) (fun bT aW=>kZ (aa5 aE) (.pan bT) [t2,zO,aH] aW)) (kZ (aa5 aE) .normal [t2,zO,aH] aE)).bind fun r71=>Js r71.2 fun aA aF aD aG=>Ex.l_ r71.1 ((lM aD).bind fun bP=>fq 10 bP aG fun bQ=>kV bQ ((lB [zO] [(0,1)] []).bind fun bR=>Aj (.iface 103 bR) aG (fun bU a_=>some ((.pan bU),[aA,aF],a_))) ((lM aD).bind fun t87=>(kQ 0 t87).bind fun t88=>(kY true 8 aG t88).bind fun t89=>(lM aD).bind fun t90=>(kQ 8 t90).bind fun t91=>(kY false 1 aG t91).bind fun t92=>(kR 8 (oR (lA [0] [t91]) aG) aA t89).bind fun bA=>some (.ret,[aA,t92],(lO (lA [0] [t91]) aG bA)))) (fun aU=>some (aU,[aA,aF],aG)))) (fun aC aB=>some ((.pan aC),[t2,zO],aB)))) (fun aC aB=>some ((.pan aC),[t2,zO],aB)))) (fun aC aB=>some ((.pan aC),[t2,zO],aB)))) (fun aC aB=>some ((.pan aC),[t2,zO],aB)))) (fun aC aB=>some ((.pan aC),[t2,zO],aB)))) (fun aC aB=>some ((.pan aC),[t2,zO],aB)))) (fun aC aB=>some ((.pan aC),[t2,zO],aB)))).bind fun Jq=>F3 Jq.2 fun aI aJ aL=>Ex.Ga Jq.1 ((kY true 8 aL aI).bind fun t98=>oM (aa5 h0) (.tuple [t98,aJ]) aL) (fun v=>OO (aa5 h0) v aL)
theorem WA K a0 h0:nN K 56 [a0] h0=m56 (lG mJ K) a0 h0:=by kernel_rfl
def m59 (K:kT) (a0 a1:kN) (h0:kO):OH :=
 (kW (lR 4 h0 a1) fun t2 h3=>fq 3 t2 h3 fun t7=>kV t7 ((lM a0).bind fun t10=>fq 7 t10 h3 fun aH=>fq 0 t2 h3 fun t14=>fq 1 t2 h3 fun t16=>fq 2 t2 h3 fun t18=>lW (uk4 K 82 aH t14 t16 t18 h3) (fun aI aB=>aq .neq aI zO (fq 0 t2 aB fun aJ=>(lB [zO] [(0,1)] [(0,aJ)]).bind fun aK=>Aj (.iface 103 aK) aB (fun aO aE=>some ((.pan aO),[zO],aE))) (some (.ret,[zO],aB))) (fun v8 h9=>some ((.pan v8),[zO],h9))) ((lM a0).bind fun t31=>fq 7 t31 h3 fun t33=>fq 0 t2 h3 fun t35=>fq 1 t2 h3 fun aL=>lW (uk3 K 83 t33 t35 aL h3) (fun t38 aC=>(lC 0 t38).bind fun aM=>(lC 1 t38).bind fun aN=>aq .neq aN zO (fq 0 t2 aC fun t48=>(lB [zO] [(0,1)] [(0,t48)]).bind fun t49=>Aj (.iface 103 t49) aC (fun aQ aG=>some ((.pan aQ),[zO],aG))) (some (.ret,[aM],aC))) (fun aP aF=>some ((.pan aP),[zO],aF)))).bind fun CH=>Jr CH.2 fun aA aD=>Ex.Ga CH.1 (oM (aa5 h0) aA aD) (fun v=>OO (aa5 h0) v aD)
theorem akM K a0 a1 h0:nN K 59 [a0,a1] h0=m59 (lG mJ K) a0 a1 h0:=by kernel_rfl
def m12 (K:kT) (a0 a1 a2:kN) (h0:kO):OH :=
 ((fun(t1:kN) (h0:kO)=>yG K 22 a0 a1 h0 fun t2 h3=>(lC 0 t2).bind fun t4=>(lC 1 t2).bind fun t5=>kW (lR 33 h3 (.agg [(.int .i64 0),(.int .i64 0),(.int .i64 0),(.int .i64 0),(.int .i64 0),(.int .i64 0),(.int .i64 0),(.int .i64 0),(.int .i64 0),(.str []),(.str []),(.int .i64 0),(.int .i64 0),(.int .i64 0),(.int .i64 0),(.int .i64 0),(.int .i64 0),(.int .i64 0),(.int .i64 0),(.int .i64 0),(.int .i64 0),(.int .i64 0),(.int .i64 0),(.int .i64 0),(.int .i64 0),(.int .i64 0),(.int .i64 0),(.bool false),(.bool false),(.bool false),(.bool false),(.bool false),(.slice [] .nil)])) fun t6 h7=>(kR 33 h7 t6 t4).bind fun h8=>aq .neq t5 zO ((fun(aM:kN) (aF:kO)=>some (.ret,[aM,t5],aF)) (.slice [] (.own (aa5 h8))) (h8++[.front 0 0])) ((lF .lss a2 zO).bind fun aD=>nI false aD (some a2) h8 fun t13 aG=>nI false aD (lF .gtr t13 (1048576:Int)) aG fun t16 aC=>(lH aD true t16).bind fun t18=>kV t18 ((fun(aN:kN) (aH:kO)=>some (.ret,[aN,(2:Int)],aH)) (.slice [] (.own (aa5 aC))) (aC++[.front 0 0])) ((kY true 33 aC t6).bind fun aO=>(lB [zO,zO,zO,zO] [(0,1),(1,1),(2,1),(3,1)] []).bind fun aP=>lW (K 23 [aO,aP,a2] aC) (fun aE aI=>(lC 0 aE).bind fun aQ=>(lC 1 aE).bind fun aR=>(lC 2 aE).bind fun t27=>kW (lR 33 aI (.agg [(.int .i64 0),(.int .i64 0),(.int .i64 0),(.int .i64 0),(.int .i64 0),(.int .i64 0),(.int .i64 0),(.int .i64 0),(.int .i64 0),(.str []),(.str []),(.int .i64 0),(.int .i64 0),(.int .i64 0),(.int .i64 0),(.int .i64 0),(.int .i64 0),(.int .i64 0),(.int .i64 0),(.int .i64 0),(.int .i64 0),(.int .i64 0),(.int .i64 0),(.int .i64 0),(.int .i64 0),(.int .i64 0),(.int .i64 0),(.bool false),(.bool false),(.bool false),(.bool false),(.bool false),(.slice [] .nil)])) fun aS aJ=>(kR 33 aJ aS aQ).bind fun aK=>some (.ret,[aR,zO],aK)) (fun _ _=>none)))) (.slice [] (.own (aa5 h0))) (h0++[.front 0 0])).bind fun yP=>F3 yP.2 fun aA aB aL=>Ex.oH yP.1 (oM (aa5 h0) (.tuple [aA,aB]) aL)
theorem ajG K a0 a1 a2 h0:nN K 12 [a0,a1,a2] h0=m12 (lG mJ K) a0 a1 a2 h0:=by kernel_rfl
def m22 (K:kT) (a0 a1:kN) (h0:kO):OH :=
 (kW (lR 33 h0 (.agg [(.int .i64 0),(.int .i64 0),(.int .i64 0),(.int .i64 0),(.int .i64 0),(.int .i64 0),(.int .i64 0),(.int .i64 0),(.int .i64 0),(.str []),(.str []),(.int .i64 0),(.int .i64 0),(.int .i64 0),(.int .i64 0),(.int .i64 0),(.int .i64 0),(.int .i64 0),(.int .i64 0),(.int .i64 0),(.int .i64 0),(.int .i64 0),(.int .i64 0),(.int .i64 0),(.int .i64 0),(.int .i64 0),(.int .i64 0),(.bool false),(.bool false),(.bool false),(.bool false),(.bool false),(.slice [] .nil)])) fun t0 h1=>zE K 4 a0 h1 fun t2 h3=>(lC 0 t2).bind fun t4=>(lC 1 t2).bind fun t5=>kW (lR 6 h3 (.agg [zO,zO,zO,zO,zO,zO])) fun t6 h7=>(kR 6 h7 t6 t4).bind fun h8=>aq .neq t5 zO ((lB [(.int .i64 0),(.int .i64 0),(.int .i64 0),(.int .i64 0),(.int .i64 0),(.int .i64 0),(.int .i64 0),(.int .i64 0),(.int .i64 0),(.str []),(.str []),(.int .i64 0),(.int .i64 0),(.int .i64 0),(.int .i64 0),(.int .i64 0),(.int .i64 0),(.int .i64 0),(.int .i64 0),(.int .i64 0),(.int .i64 0),(.int .i64 0),(.int .i64 0),(.int .i64 0),(.int .i64 0),(.int .i64 0),(.int .i64 0),(.bool false),(.bool false),(.bool false),(.bool false),(.bool false),(.slice [] .nil)] [(0,6),(6,5),(11,20),(31,1),(32,1)] []).bind fun t10=>(kR 33 h8 t0 t10).bind fun aI=>some (.ret,[t0,t5],aI)) ((kY true 6 h8 t6).bind fun aN=>(kQ 2 t6).bind fun t13=>(kY true 3 h8 t13).bind fun t14=>(lB [zO,zO,zO,(.str []),(.str [])] [(0,3),(3,1),(4,1)] [(0,t14),(1,a0),(2,a1)]).bind fun t15=>(lB [(.int .i64 0),(.int .i64 0),(.int .i64 0),(.int .i64 0),(.int .i64 0),(.int .i64 0),(.int .i64 0),(.int .i64 0),(.int .i64 0),(.str []),(.str []),(.int .i64 0),(.int .i64 0),(.int .i64 0),(.int .i64 0),(.int .i64 0),(.int .i64 0),(.int .i64 0),(.int .i64 0),(.int .i64 0),(.int .i64 0),(.int .i64 0),(.int .i64 0),(.int .i64 0),(.int .i64 0),(.int .i64 0),(.int .i64 0),(.bool false),(.bool false),(.bool false),(.bool false),(.bool false),(.slice [] .nil)] [(0,6),(6,5),(11,20),(31,1),(32,1)] [(0,aN),(1,t15)]).bind fun t16=>kW (lR 33 h8 (.agg [(.int .i64 0),(.int .i64 0),(.int .i64 0),(.int .i64 0),(.int .i64 0),(.int .i64 0),(.int .i64 0),(.int .i64 0),(.int .i64 0),(.str []),(.str []),(.int .i64 0),(.int .i64 0),(.int .i64 0),(.int .i64 0),(.int .i64 0),(.int .i64 0),(.int .i64 0),(.int .i64 0),(.int .i64 0),(.int .i64 0),(.int .i64 0),(.int .i64 0),(.int .i64 0),(.int .i64 0),(.int .i64 0),(.int .i64 0),(.bool false),(.bool false),(.bool false),(.bool false),(.bool false),(.slice [] .nil)])) fun t17 aJ=>(kR 33 aJ t17 t16).bind fun aC=>(kQ 6 t17).bind fun aO=>(kY true 5 aC aO).bind fun aP=>zE K 29 aP aC fun aH aD=>aq .neq aH zO ((lB [(.int .i64 0),(.int .i64 0),(.int .i64 0),(.int .i64 0),(.int .i64 0),(.int .i64 0),(.int .i64 0),(.int .i64 0),(.int .i64 0),(.str []),(.str []),(.int .i64 0),(.int .i64 0),(.int .i64 0),(.int .i64 0),(.int .i64 0),(.int .i64 0),(.int .i64 0),(.int .i64 0),(.int .i64 0),(.int .i64 0),(.int .i64 0),(.int .i64 0),(.int .i64 0),(.int .i64 0),(.int .i64 0),(.int .i64 0),(.bool false),(.bool false),(.bool false),(.bool false),(.bool false),(.slice [] .nil)] [(0,6),(6,5),(11,20),(31,1),(32,1)] []).bind fun aQ=>(kR 33 aD t0 aQ).bind fun aK=>some (.ret,[t0,aH],aK)) ((kQ 11 t17).bind fun t27=>(kQ 0 t27).bind fun aR=>(lQ 15 1 aR (13:Int)).bind fun t29=>(kR 1 aD t29 (537133056:Int)).bind fun aL=>(kQ 11 t17).bind fun t31=>(kQ 0 t31).bind fun t32=>(lQ 15 1 t32 (14:Int)).bind fun t33=>(kR 1 aL t33 (4294967295:Int)).bind fun aE=>fq 0 t6 aE fun t36=>(kQ 11 t17).bind fun aS=>(kQ 15 aS).bind fun t38=>(kR 1 aE t38 t36).bind fun aF=>(kY true 33 aF t17).bind fun aT=>(kR 33 aF t0 aT).bind fun aM=>some (.ret,[t0,zO],aM)))).bind fun Da=>F3 Da.2 fun aA aB aG=>Ex.oH Da.1 ((kY true 33 aG aA).bind fun t46=>zY (aa5 h0) (.tuple [t46,aB]) aG)
theorem ajP K a0 a1 h0:nN K 22 [a0,a1] h0=m22 (lG mJ K) a0 a1 h0:=by kernel_rfl
def Bm (K:kT) (m:Nat) (s:List kN×kO):Option R :=
 PH s fun aC aA aH aI aJ aK aE aB bJ=>(s5 aE).bind fun bU=>(lF .lss bU aC).bind fun bA=>nI true bA (kQ 31 aA) bJ fun bV bE=>nI true bA (kY false 1 bE bV) bE fun bW bK=>nI true bA (vN .not bW) bK fun bX aR=>(lH bA bX false).bind fun bY=>kV bY ((kQ 11 aA).bind fun t31=>fq 15 t31 aR fun t33=>(kQ 0 aA).bind fun bZ=>fq 1 bZ aR fun t36=>(lF .eql t33 t36).bind fun b_=>(kV b_ ((lF .add aB (1:Int)).bind fun t38=>kZ (aa5 aR) .normal [aC,aA,aH,aI,aJ,aK,aE,t38] aR) (kZ (aa5 aR) .normal [aC,aA,aH,aI,aJ,aK,aE,aB] aR)).bind fun bH=>PH bH.2 fun aM aN aD aO aP aQ aL aF bL=>Ex.pR bH.1 ((lB [zO,zO,zO,zO] [(0,1),(1,1),(2,1),(3,1)] []).bind fun t49=>kW (lR 4 bL (.agg [zO,zO,zO,zO])) fun bB bM=>(kR 4 bM bB t49).bind fun aU=>fq 1 aD aU fun t54=>(s5 aL).bind fun t55=>(lF .eql t54 t55).bind fun cA=>(kV cA ((kY true 4 aU aD).bind fun t57=>(kR 4 aU bB t57).bind fun bN=>kZ (aa5 aU) .normal [aM,aN,aD,aO,aP,aQ,aL,aF,bB] bN) (kZ (aa5 aU) .normal [aM,aN,aD,aO,aP,aQ,aL,aF,bB] aU)).bind fun bI=>uq9 bI.2 fun aV aG aW aX aY aZ a_ aS aT bD=>Ex.pR bI.1 ((kY true 33 bD aG).bind fun cB=>(kY true 4 bD aT).bind fun t71=>lW (K 30 [cB,t71] bD) (fun t72 bO=>(lC 0 t72).bind fun t74=>(lC 1 t72).bind fun t75=>kW (lR 33 bO (.agg [(.int .i64 0),(.int .i64 0),(.int .i64 0),(.int .i64 0),(.int .i64 0),(.int .i64 0),(.int .i64 0),(.int .i64 0),(.int .i64 0),(.str []),(.str []),(.int .i64 0),(.int .i64 0),(.int .i64 0),(.int .i64 0),(.int .i64 0),(.int .i64 0),(.int .i64 0),(.int .i64 0),(.int .i64 0),(.int .i64 0),(.int .i64 0),(.int .i64 0),(.int .i64 0),(.int .i64 0),(.int .i64 0),(.int .i64 0),(.bool false),(.bool false),(.bool false),(.bool false),(.bool false),(.slice [] .nil)])) fun t76 bP=>kW (lR 4 bP (.agg [zO,zO,zO,zO])) fun t78 bQ=>(kR 33 bQ t76 t74).bind fun bR=>(kR 4 bR t78 t75).bind fun bF=>(kY true 33 bF t76).bind fun cC=>(kR 33 bF aG cC).bind fun bG=>(kY true 4 bG t78).bind fun cD=>kW (lE 1 4 [zO,zO,zO,zO] [(0,cD)] bG) fun t85 bS=>kW (rS 4 32 bS a_ t85) fun t87 bT=>kZ m .normal [aV,aG,aW,aX,aY,aZ,t87,aS] bT) (fun _ _=>none)))) (kZ m (.exit 0) [aC,aA,aH,aI,aJ,aK,aE,aB] aR)
def m23 (K:kT) (a0 a1 a2:kN) (h0:kO):OH :=
 (kW (lR 33 h0 a0) fun t0 h1=>kW (lR 4 h1 a1) fun t2 h3=>kW (lR 33 h3 (.agg [(.int .i64 0),(.int .i64 0),(.int .i64 0),(.int .i64 0),(.int .i64 0),(.int .i64 0),(.int .i64 0),(.int .i64 0),(.int .i64 0),(.str []),(.str []),(.int .i64 0),(.int .i64 0),(.int .i64 0),(.int .i64 0),(.int .i64 0),(.int .i64 0),(.int .i64 0),(.int .i64 0),(.int .i64 0),(.int .i64 0),(.int .i64 0),(.int .i64 0),(.int .i64 0),(.int .i64 0),(.int .i64 0),(.int .i64 0),(.bool false),(.bool false),(.bool false),(.bool false),(.bool false),(.slice [] .nil)])) fun t4 h5=>(fun(t7:kN) (h6:kO)=>(fun(t9:kN) (h8:kO)=>(nP (Bm K (aa5 h8)) ([a2,t0,t2,t4,t7,zO,t9,zO],h8)).bind fun Pk=>PH Pk.2 fun aN aG aO aA aH aI aJ aB aM=>Ex.l_ Pk.1 none (fun aP=>Ex.inBlock 0 aP ((kY true 33 aM aG).bind fun t101=>(kR 33 aM aA t101).bind fun aL=>some (.ret,[aA,aJ,aB],aL)) (fun aK=>some (aK,[aA,aH,aI],aM)))) (.slice [] (.own (aa5 h6))) (h6++[.front 0 0])) (.slice [] (.own (aa5 h5))) (h5++[.front 0 0])).bind fun UR=>Js UR.2 fun aC aD aE aF=>Ex.oH UR.1 ((kY true 33 aF aC).bind fun t108=>CA (aa5 h0) (.tuple [t108,aD,aE]) aF)
theorem ajQ K a0 a1 a2 h0:nN K 23 [a0,a1,a2] h0=m23 (lG mJ K) a0 a1 a2 h0:=by kernel_rfl
def m30 (K:kT) (a0 a1:kN) (h0:kO):OH :=
 (kW (lR 33 h0 a0) fun t0 h1=>kW (lR 4 h1 a1) fun t2 h3=>kW (lR 33 h3 (.agg [(.int .i64 0),(.int .i64 0),(.int .i64 0),(.int .i64 0),(.int .i64 0),(.int .i64 0),(.int .i64 0),(.int .i64 0),(.int .i64 0),(.str []),(.str []),(.int .i64 0),(.int .i64 0),(.int .i64 0),(.int .i64 0),(.int .i64 0),(.int .i64 0),(.int .i64 0),(.int .i64 0),(.int .i64 0),(.int .i64 0),(.int .i64 0),(.int .i64 0),(.int .i64 0),(.int .i64 0),(.int .i64 0),(.int .i64 0),(.bool false),(.bool false),(.bool false),(.bool false),(.bool false),(.slice [] .nil)])) fun t4 h5=>kW (lR 4 h5 (.agg [zO,zO,zO,zO])) fun t6 h7=>(kY true 4 h7 t2).bind fun t8=>zE K 42 t8 h7 fun t9 bU=>(lF .neq t9 zO).bind fun fC=>(kV fC ((lB [zO,zO,zO,zO] [(0,1),(1,1),(2,1),(3,1)] []).bind fun fD=>(kR 4 bU t2 fD).bind fun eL=>kZ (aa5 bU) .normal [t0,t2,t4,t6] eL) (kZ (aa5 bU) .normal [t0,t2,t4,t6] bU)).bind fun r14=>X1 r14.2 fun aA a_ aC aD cI=>Ex.pR r14.1 ((kQ 11 aA).bind fun fE=>(kY true 20 cI fE).bind fun fF=>(kY true 4 cI a_).bind fun fG=>yG K 43 fF fG cI fun fH eM=>(kQ 11 aA).bind fun fI=>(kR 20 eM fI fH).bind fun eH=>(kQ 11 aA).bind fun t27=>fq 15 t27 eH fun t29=>(lF .rem t29 (2:Int)).bind fun fJ=>(lF .neq fJ zO).bind fun t31=>nI false t31 (some t29) eH fun t32 eN=>nI false t31 (kQ 6 aA) eN fun t35 eO=>nI false t31 (kQ 3 t35) eO fun t38 eI=>nI false t31 (kY false 1 eI t38) eI fun fK eP=>nI false t31 (nG fK) eP fun fL eQ=>nI false t31 (lF .geq t32 fL) eQ fun fM bN=>(lH t31 true fM).bind fun t49=>kV t49 ((kY true 33 bN aA).bind fun fN=>lW (K 44 [fN,zO] bN) (fun eK eR=>(lC 0 eK).bind fun t53=>(lC 1 eK).bind fun t54=>(kR 33 eR aC t53).bind fun eS=>(kR 4 eS aD t54).bind fun eT=>some (.ret,[aC,aD],eT)) (fun _ _=>none)) ((kQ 6 aA).bind fun t57=>fq 3 t57 bN fun fO=>(lF .add t29 (4:Int)).bind fun fP=>(kQ 6 aA).bind fun fQ=>fq 3 fQ bN fun t63=>(nG t63).bind fun t64=>(Ck fP t64).bind fun t65=>(nT fO (some t29) (some t65)).bind fun t66=>zE K 45 t66 bN fun t67 eU=>(lC 0 t67).bind fun fR=>(lC 1 t67).bind fun fS=>(lC 2 t67).bind fun t71=>kW (lR 8 eU (.agg [zO,zO,zO,zO,zO,zO,zO,false])) fun t72 eV=>(kR 8 eV t72 fR).bind fun bE=>aq .neq t71 zO ((kY true 33 bE aA).bind fun t76=>lW (K 44 [t76,zO] bE) (fun t77 eW=>(lC 0 t77).bind fun fT=>(lC 1 t77).bind fun t80=>(kR 33 eW aC fT).bind fun eX=>(kR 4 eX aD t80).bind fun eY=>some (.ret,[aC,aD],eY)) (fun _ _=>none)) (fq 0 a_ bE fun fU=>aq .eql fU (1:Int) (yG K 46 t29 fS bE fun fV eZ=>(kQ 11 aA).bind fun t88=>(kQ 15 t88).bind fun t89=>(kR 1 eZ t89 fV).bind fun eJ=>(kY true 33 eJ aA).bind fun t91=>(lB [zO,zO,zO,zO] [(0,1),(1,1),(2,1),(3,1)] [(0,(1:Int)),(1,t29),(3,(1:Int))]).bind fun t92=>(kR 33 eJ aC t91).bind fun e_=>(kR 4 e_ aD t92).bind fun fA=>some (.ret,[aC,aD],fA)) ((kQ 11 aA).bind fun t95=>(kY true 20 bE t95).bind fun t96=>(kY true 8 bE t72).bind fun t97=>yG K 47 t96 t97 bE fun t98 fB=>(lC 0 t98).bind fun t100=>(lC 1 t98).bind fun t101=>kW (lR 4 fB (.agg [zO,zO,zO,false])) fun t102 bX=>(kR 4 bX t102 t100).bind fun bY=>nI true t101 (kQ 3 t102) bY fun t106 bJ=>nI true t101 (kY false 1 bJ t106) bJ fun t109 aL=>(lH t101 t109 false).bind fun cS=>(kV cS (fq 0 t102 aL fun cU=>fq 1 t102 aL fun t115=>fq 2 t102 aL fun t117=>(lB [zO,zO,zO,zO] [(0,1),(1,1),(2,1),(3,1)] [(0,(1:Int)),(1,cU),(2,t115),(3,t117)]).bind fun cV=>kW (lR 4 aL (.agg [zO,zO,zO,zO])) fun bF bZ=>(kR 4 bZ bF cV).bind fun bA=>(kQ 6 aA).bind fun t122=>(kY true 5 bA t122).bind fun t123=>(kY true 4 bA bF).bind fun t124=>kW (lE 1 4 [zO,zO,zO,zO] [(0,t124)] bA) fun t125 b_=>yG K 48 t123 t125 b_ fun cW aM=>(mD 2 cW zO).bind fun t129=>fq 1 t129 aM fun t131=>aq .neq t131 zO ((kY true 33 aM aA).bind fun cX=>fq 0 t102 aM fun cY=>lW (K 44 [cX,cY] aM) (fun t136 cA=>(lC 0 t136).bind fun t138=>(lC 1 t136).bind fun t139=>(kR 33 cA aC t138).bind fun cB=>(kR 4 cB aD t139).bind fun cC=>kZ (aa5 aL) .ret [aA,aC,aD,t29,t72,t102,t101,zO] cC) (fun _ _=>none)) (fq 32 aA aM fun t143=>(kY true 4 aM bF).bind fun t144=>kW (lE 1 4 [zO,zO,zO,zO] [(0,t144)] aM) fun t145 cD=>kW (rS 4 32 cD t143 t145) fun t147 cE=>(kQ 32 aA).bind fun t149=>(kR 1 cE t149 t147).bind fun cF=>kZ (aa5 aL) .normal [aA,aC,aD,t29,t72,t102,t101,zO] cF)) (kZ (aa5 aL) .normal [aA,aC,aD,t29,t72,t102,t101,zO] aL)).bind fun wU=>PH wU.2 fun aF aI aJ aP aQ aB aG aR bK=>Ex.l_ wU.1 (nI true aG (kQ 3 aB) bK fun cZ bL=>nI true aG (kY false 1 bL cZ) bL fun c_ cG=>nI true aG (vN .not c_) cG fun dA aK=>(lH aG dA false).bind fun dB=>(kV dB ((kQ 6 aF).bind fun dC=>(kY true 5 aK dC).bind fun dD=>fq 32 aF aK fun dE=>fq 0 aB aK fun dF=>fq 1 aB aK fun dG=>Ym K 49 dD dE dF dG aK fun bQ aU=>(lC 0 bQ).bind fun dH=>(lC 1 bQ).bind fun dI=>aq .neq dI zO ((kY true 33 aU aF).bind fun dJ=>fq 0 aB aU fun dK=>lW (K 44 [dJ,dK] aU) (fun bR cH=>(lC 0 bR).bind fun dL=>(lC 1 bR).bind fun dM=>(kR 33 cH aI dL).bind fun cJ=>(kR 4 cJ aJ dM).bind fun cK=>kZ (aa5 aK) .ret [aF,aI,aJ,aP,aQ,aB,aR] cK) (fun _ _=>none)) (kZ (aa5 aK) .normal [aF,aI,aJ,aP,aQ,aB,dH] aU)) (kZ (aa5 aK) .normal [aF,aI,aJ,aP,aQ,aB,aR] aK)).bind fun bO=>uq7 bO.2 fun aH aN aO bI aT aY aZ aE=>Ex.l_ bO.1 ((kQ 0 aY).bind fun aW=>(kY false 1 (aE++[.free]) aW).bind fun dN=>(kQ 11 aH).bind fun dO=>(kY true 20 (aE++[.free]) dO).bind fun dP=>(kY true 8 (aE++[.free]) aT).bind fun dQ=>kW (q_ ((aa5 aE)+0) 4 (aE++[.free]) (.agg [zO,zO,zO,zO])) fun aX aS=>bif (List.take (aa5 aE) aS).all (nH (aa5 aE)) then(lW (Yp K 50 (tK (aa5 aE) dP) (tK (aa5 aE) dQ) (oR (lA [0] [aW]) (List.take (aa5 aE) aS))) (fun dR cL=>lI dR (lO (lA [0] [aW]) (List.take (aa5 aE) aS) cL)) (fun v h'=>Gg v (lO (lA [0] [aW]) (List.take (aa5 aE) aS) h'))).bind (JP (aa5 aE) aS fun dS cM=>(lB [zO,zO,zO,zO] [(0,1),(1,1),(2,1),(3,1)] [(1,bI),(2,dN),(3,dS)]).bind fun dU=>(kR 4 cM aX dU).bind fun bB=>(kQ 11 aH).bind fun dV=>(kY true 20 bB dV).bind fun dW=>(kY true 8 bB aT).bind fun dX=>AP K 51 dW dX aZ bB fun bS cN=>(lC 0 bS).bind fun dY=>(lC 1 bS).bind fun dZ=>kW (lR 20 cN (.agg [zO,zO,zO,zO,zO,zO,zO,zO,zO,zO,zO,zO,zO,zO,zO,zO,false,false,false,false])) fun bT cO=>(kR 20 cO bT dY).bind fun bM=>(kY true 20 bM bT).bind fun d_=>(kQ 11 aH).bind fun eA=>(kR 20 bM eA d_).bind fun cP=>(vN .not dZ).bind fun eB=>(kQ 31 aH).bind fun eC=>(kR 1 cP eC eB).bind fun aV=>(kY true 33 aV aH).bind fun eD=>(kY true 4 aV aX).bind fun eE=>(kR 33 (oR (lA [0] [aX]) aV) aN eD).bind fun cQ=>(kR 4 (lO (lA [0] [aX]) aV cQ) aO eE).bind fun cR=>some (.ret,[aN,aO],cR)) else none) (fun bW=>some (bW,[aN,aO],aE))) (fun bV=>some (bV,[aI,aJ],bK))))))).bind fun bP=>F3 bP.2 fun bG bH bD=>Ex.oH bP.1 ((kY true 33 bD bG).bind fun eF=>(kY true 4 bD bH).bind fun eG=>CA (aa5 h0) (.tuple [eF,eG]) bD)
theorem Wx K a0 a1 h0:nN K 30 [a0,a1] h0=m30 (lG mJ K) a0 a1 h0:=by kernel_rfl
def m44 (K:kT) (a0 a1:kN) (h0:kO):OH :=
 (kW (lR 33 h0 a0) fun t0 h1=>kW (lR 33 h1 (.agg [(.int .i64 0),(.int .i64 0),(.int .i64 0),(.int .i64 0),(.int .i64 0),(.int .i64 0),(.int .i64 0),(.int .i64 0),(.int .i64 0),(.str []),(.str []),(.int .i64 0),(.int .i64 0),(.int .i64 0),(.int .i64 0),(.int .i64 0),(.int .i64 0),(.int .i64 0),(.int .i64 0),(.int .i64 0),(.int .i64 0),(.int .i64 0),(.int .i64 0),(.int .i64 0),(.int .i64 0),(.int .i64 0),(.int .i64 0),(.bool false),(.bool false),(.bool false),(.bool false),(.bool false),(.slice [] .nil)])) fun t2 h3=>kW (lR 4 h3 (.agg [zO,zO,zO,zO])) fun t4 h5=>(kQ 11 t0).bind fun t6=>fq 15 t6 h5 fun t8=>(lB [zO,zO,zO,zO] [(0,1),(1,1),(2,1),(3,1)] [(0,(2:Int)),(1,t8),(2,a1),(3,(12:Int))]).bind fun t9=>kW (lR 4 h5 (.agg [zO,zO,zO,zO])) fun t10 aG=>(kR 4 aG t10 t9).bind fun aE=>(kQ 0 t0).bind fun t13=>fq 1 t13 aE fun t15=>(kQ 11 t0).bind fun t16=>(kQ 15 t16).bind fun t17=>(kR 1 aE t17 t15).bind fun aC=>(kY true 33 aC t0).bind fun aJ=>(kY true 4 aC t10).bind fun aK=>(kR 33 (oR (lA [0] [t10]) aC) t2 aJ).bind fun aH=>(kR 4 (lO (lA [0] [t10]) aC aH) t4 aK).bind fun aI=>some (.ret,[t2,t4],aI)).bind fun aF=>F3 aF.2 fun aA aB aD=>Ex.oH aF.1 ((kY true 33 aD aA).bind fun t27=>(kY true 4 aD aB).bind fun aL=>CA (aa5 h0) (.tuple [t27,aL]) aD)
theorem aj7 K a0 a1 h0:nN K 44 [a0,a1] h0=m44 (lG mJ K) a0 a1 h0:=by kernel_rfl
def m6 (K:kT) (a0 a1 a2 a3:kN) (h0:kO):OH :=
 (AP K 11 a0 a1 a3 h0 fun t0 h1=>(lC 0 t0).bind fun t2=>(lC 1 t0).bind fun t3=>aq .neq t3 zO (some (.ret,[zO,t3],h1)) (AP K 11 a0 a2 a3 h1 fun t5 h6=>(lC 0 t5).bind fun t7=>(lC 1 t5).bind fun t8=>aq .neq t8 zO (some (.ret,[zO,t8],h6)) (yG K 10 t2 t7 h6 fun t10 aD=>some (.ret,[t10,zO],aD)))).bind fun aC=>F3 aC.2 fun aA aB aE=>Ex.oH aC.1 (oM (aa5 h0) (.tuple [aA,aB]) aE)
theorem av9 K a0 a1 a2 a3 h0:nN K 6 [a0,a1,a2,a3] h0=m6 (lG mJ K) a0 a1 a2 a3 h0:=by kernel_rfl
def m7 (K:kT) (a0 a1 a2 a3:kN) (h0:kO):OH :=
 (AP K 12 a0 a1 a3 h0 fun t0 h1=>(lC 0 t0).bind fun t2=>(lC 1 t0).bind fun t3=>aq .neq t3 zO (some (.ret,[zO,t3],h1)) (AP K 12 a0 a2 a3 h1 fun t5 h6=>(lC 0 t5).bind fun t7=>(lC 1 t5).bind fun t8=>aq .neq t8 zO (some (.ret,[zO,t8],h6)) (yG K 13 t2 t7 h6 fun t10 aD=>some (.ret,[t10,zO],aD)))).bind fun aC=>F3 aC.2 fun aA aB aE=>Ex.oH aC.1 (oM (aa5 h0) (.tuple [aA,aB]) aE)
theorem awB K a0 a1 a2 a3 h0:nN K 7 [a0,a1,a2,a3] h0=m7 (lG mJ K) a0 a1 a2 a3 h0:=by kernel_rfl
end
section
open Go Hk
@[simp] theorem aEl {m:Nat}{h:kO}:kN.vS m h .nilptr=.nilptr:=(rfl)
def bC (b:UInt8):kN:=.int .u8 (b.toNat:Int)
theorem mG {m:Nat}{h:kO}:∀{l:List UInt8},mI m h (l.map bC)=some (l.map bC)
 | []=>rfl
 | x::l=>by simp [mG (l:=l),bC]
def vP (id tot:Nat) (l:List (Nat×Nat)):List kN:=l.map fun p=>.vslice id tot p.1 p.2 1
theorem sK {id tot m:Nat}{h:kO}(hi:id<m):∀{l:List (Nat×Nat)},mI m h (vP id tot l)=some (vP id tot l)
 | []=>rfl
 | x::l=>by
  have:=sK (h:=h) (tot:=tot) hi (l:=l)
  unfold vP at this ⊢
  simp only [ar6,mI,kN.oW,hi,decide_true,cond_true,kN.lS,this]
theorem adG {id tot:Nat}{l:List (Nat×Nat)}:(vP id tot l).length=l.length:=by unfold vP;simp
theorem Im (f g:List UInt8) (rl:List mZ) (sz:Sz) (hl:rl.length=7) (i:Nat) (hi:i<7) (r:mZ) (hr:rl[i]?=some r) (acc:Int) (h0:0≤acc) (h1:acc<4611686018427387904) (hb:Rb r) :
  EN KK 1 ([.str f,.str g,.nilptr,.int .i64 0,.slice (Rw mZ.cells rl) .no,.int .i64 acc,.slice (Rw mZ.cells rl) .no,.int .i64 7,.int .i64 (i:Int)],[.cells sz.cells]) =
   some (.normal,[.str f,.str g,.nilptr,.int .i64 0,.slice (Rw mZ.cells rl) .no,.int .i64 (acc+r.len),.slice (Rw mZ.cells rl) .no,.int .i64 7,.int .i64 ((i+1:Nat):Int)],[.cells sz.cells]):=by
 obtain⟨b0,b1,b2,b3⟩:=hb
 have e1:IntKind.i64.wrap ((i:Int)+1)=(i:Int)+1:=lP _ (by omega) (by omega)
 have e2:IntKind.i64.wrap (acc+r.len)=acc+r.len:=lP _ (by omega) (by omega)
 have e3:sF rl (i:Int)=some r:=by unfold sF;rw [if_pos (by omega)];exact hr
 simp -implicitDefEqProofs [EN,show(i:Int)<7 by omega,e1,e2,e3]
theorem atD (f g:List UInt8) (rl:List mZ) (sz:Sz) (acc:Int) :
  EN KK 1 ([.str f,.str g,.nilptr,.int .i64 0,.slice (Rw mZ.cells rl) .no,.int .i64 acc,.slice (Rw mZ.cells rl) .no,.int .i64 7,.int .i64 ((7:Nat):Int)],[.cells sz.cells]) =
   some (.exit 0,[.str f,.str g,.nilptr,.int .i64 0,.slice (Rw mZ.cells rl) .no,.int .i64 acc,.slice (Rw mZ.cells rl) .no,.int .i64 7,.int .i64 7],[.cells sz.cells]):=by
 simp -implicitDefEqProofs [EN]
def U0 (sz:Sz) (rl:List mZ) (x:kN) (F:lN) (tot:Nat) (M:List UInt8):kO:=[.cells sz.cells,.cells [.slice (Rw mZ.cells rl) .no,x],F,.vec tot 1 (M.map bC)]
def rst (tot off rem len:Nat):kN:=if len=0∨len<rem then .vslice 3 tot (off+len) (rem-len) 1 else .slice [] .no
def U4 (f g:List UInt8) (rl:List mZ) (rest:kN) (i:Int):List kN:=[.str f,.str g,.nilptr,.int .i64 0,.ptr 1 0,rest,.slice (Rw mZ.cells rl) .no,.int .i64 7,.int .i64 i]
theorem agU {c0:List kN}{S:kN}{V R:lN}{tot off len:Nat}:sM 1 24 [.cells c0,.cells [S,.slice [] (.own 2)],.front 0 0,V,R,.vec 1 1 [.vslice 3 tot off len 1]] (.slice [] (.own 2)) (.vslice 5 1 0 1 1)=some (.vslice 2 1 0 1 1,[.cells c0,.cells [S,.slice [] (.own 2)],.vec 1 1 [.vslice 3 tot off len 1],V,R,.vec 1 1 [.vslice 3 tot off len 1]]):=by
 rfl
theorem agV {c0:List kN}{S:kN}{V R:lN}{tot off len k:Nat}{vs:List kN}(hk:vs.length=k) (hb:k<100) (h1:1≤k):sM 1 24 [.cells c0,.cells [S,.vslice 2 k 0 k 1],.vec k 1 vs,V,R,.vec 1 1 [.vslice 3 tot off len 1]] (.vslice 2 k 0 k 1) (.vslice 5 1 0 1 1)=some (.vslice 2 (k+1) 0 (k+1) 1,[.cells c0,.cells [S,.vslice 2 k 0 k 1],.vec (k+1) 1 (vs++[.vslice 3 tot off len 1]),V,R,.vec 1 1 [.vslice 3 tot off len 1]]):=by
 have e:Ak 1 [.cells c0,.cells [S,.vslice 2 k 0 k 1],.vec k 1 vs,V,R,.vec 1 1 [.vslice 3 tot off len 1]] (.vslice 5 1 0 1 1)=some [[.vslice 3 tot off len 1]]:=rfl
 unfold sM
 rw [e]
 subst hk
 simp
 omega
theorem Jh {n:Nat}:(((n:Nat):Int)).toNat=n:=by omega
theorem ayZ {tot off rem len:Nat}(h:len≤rem):n8 1 (.vslice 3 tot off rem 1) none (some (.int .i64 (len:Int)))=some (.vslice 3 tot off len 1):=by
 simp [n8,pU,h]
theorem ay0 {tot off rem len:Nat}(h:len≤rem):n8 1 (.vslice 3 tot off rem 1) (some (.int .i64 (len:Int))) none=some (rst tot off rem len):=by
 simp [n8,pU,h,rst]
 split <;> rfl
theorem TT {tot off rem len:Nat}{h:kO}:kN.vS 4 h (rst tot off rem len)=rst tot off rem len:=by
 unfold rst;split <;> rfl
theorem asZ {tot off len:Nat}{h:kO}:vA 1 1 [(.slice [] .nil)] [(0,.vslice 3 tot off len 1)] h=some (.vslice h.length 1 0 1 1,h++[.vec 1 1 [.vslice 3 tot off len 1]]):=by
 rfl
section
variable (f g:List UInt8) (sz:Sz) (rl:List mZ) (r:mZ) {tot off rem len:Nat}(M:List UInt8) (hlen:r.len=(len:Int)) (hle:len≤rem)
include hlen hle
theorem ayM (hr:rl[0]?=some r):Bo KK 4 (U4 f g rl (.vslice 3 tot off rem 1) 0,U0 sz rl (.slice [] (.own 2)) (.front 0 0) tot M)=some (.normal,U4 f g rl (rst tot off rem len) 1,U0 sz rl (.vslice 2 1 0 1 1) (.vec 1 1 (vP 3 tot [(off,len)])) tot M):=by
 have e3:sF rl 0=some r:=by unfold sF;rw [if_pos (by omega)];exact hr
 have sv:=fun h=>sK (id:=3) (tot:=tot) (m:=4) (h:=h) (by decide) (l:=[(off,len)])
 simp only [vP,ar6,List.map_nil] at sv
 simp -implicitDefEqProofs [Bo,U4,U0,e3,hlen,ayZ hle,ay0 hle,asZ,agU,TT,vP,mG,sv,lT,show IntKind.i64.wrap 1=1 from rfl]
theorem Kw (i:Nat) (hi:i<7) (h1:1≤i) (hr:rl[i]?=some r) (vs:List (Nat×Nat)) (hv:vs.length=i):Bo KK 4 (U4 f g rl (.vslice 3 tot off rem 1) (i:Int),U0 sz rl (.vslice 2 i 0 i 1) (.vec i 1 (vP 3 tot vs)) tot M)=some (.normal,U4 f g rl (rst tot off rem len) ((i+1:Nat):Int),U0 sz rl (.vslice 2 (i+1) 0 (i+1) 1) (.vec (i+1) 1 (vP 3 tot (vs++[(off,len)]))) tot M):=by
 have e1:IntKind.i64.wrap ((i:Int)+1)=(i:Int)+1:=lP _ (by omega) (by omega)
 have e3:sF rl (i:Int)=some r:=by unfold sF;rw [if_pos (by omega)];exact hr
 have sv:=fun h=>sK (id:=3) (tot:=tot) (m:=4) (h:=h) (by decide) (l:=vs++[(off,len)])
 have ea:vP 3 tot vs++[.vslice 3 tot off len 1]=vP 3 tot (vs++[(off,len)]):=by simp [vP]
 have ap:=fun(c0:List kN) (S:kN) (V R:lN)=>agV (c0:=c0) (S:=S) (V:=V) (R:=R) (tot:=tot) (off:=off) (len:=len) (k:=i) (vs:=vP 3 tot vs) (by rw [adG];exact hv) (by omega) h1
 simp only [ea] at ap
 simp -implicitDefEqProofs [Bo,U4,U0,show(i:Int)<7 by omega,e1,e3,hlen,ayZ hle,ay0 hle,asZ,ap,TT,mG,sv,lT]
end
theorem atE (f g:List UInt8) (sz:Sz) (rl:List mZ) {tot:Nat}(rest:kN) (hr:∀h,rest.vS 4 h=rest) (vs:List (Nat×Nat)) (M:List UInt8):Bo KK 4 (U4 f g rl rest 7,U0 sz rl (.vslice 2 7 0 7 1) (.vec 7 1 (vP 3 tot vs)) tot M)=some (.exit 2,U4 f g rl rest 7,U0 sz rl (.vslice 2 7 0 7 1) (.vec 7 1 (vP 3 tot vs)) tot M):=by
 have sv:=fun h=>sK (id:=3) (tot:=tot) (m:=4) (h:=h) (by decide) (l:=vs)
 simp -implicitDefEqProofs [Bo,U4,U0,hr,mG,sv,lT]
end
section
open Go Hk
def nO (I O R:Nat):Sz:=⟨I,O,R⟩
def mB (L I O R:Nat):Nat:=L+I+O+R+R+4+4
def oY (L I O R:Nat):List (Nat×Nat):=[(0,L),(L,I),(L+I,O),(L+I+O,R),(L+I+O+R,R),(L+I+O+R+R,4),(L+I+O+R+R+4,4)]
def Bv (M:List UInt8) (off:Nat) (bs:List UInt8):List UInt8:=M.take off++bs++M.drop (off+bs.length)
theorem TL {M:List UInt8}{off:Nat}{bs:List UInt8}:kU (M.map bC) off (bs.map bC)=(Bv M off bs).map bC:=by
 unfold kU Bv;simp [List.map_take,List.map_drop]
theorem B5 {tot off rem len:Nat}(h:len<rem):rst tot off rem len=.vslice 3 tot (off+len) (rem-len) 1:=by unfold rst;rw [if_pos (Or.inr h)]
def MB (b:Nat) (rl:List mZ) (L I O R:Nat) (M:List UInt8):kO:=[.cells [.slice (Rw mZ.cells rl) .no,.vslice (b+1) 7 0 7 1],.vec 7 1 (vP (b+2) (mB L I O R) (oY L I O R)),.vec (mB L I O R) 1 (M.map bC)]
theorem aC9 {n:Nat}(hn:n≤140737488355328) {h:kO}:pI 1 1 [(.int .u8 0)] (.int .i64 (n:Int)) h=some (.vslice h.length n 0 n 1,h++[.vec n 1 ((ai1 n (0:UInt8)).map bC)]):=by
 unfold pI
 dsimp only
 rw [if_pos (by omega)]
 have:(ai1 ((n:Int).toNat) [kN.int .u8 0]).flatten=(ai1 n (0:UInt8)).map bC:=by
  rw [Jh,List.map_replicate]
  have e:bC 0=.int .u8 0:=rfl
  rw [e]
  clear hn
  induction n with
  | zero=>rfl
  | succ n ih=>rw [List.replicate_succ,List.flatten_cons,ih,List.replicate_succ];rfl
 rw [this,Jh]
theorem as8 {b0 b1 b2:lN}{tot off len:Nat}{M bs:List UInt8}(hb:bs.length=len) (hl:off+len≤M.length):zA [b0,b1,b2,.vec tot 1 (M.map bC)] (.vslice 3 tot off len 1) (.str bs)=some (.int .i64 (len:Int),[b0,b1,b2,.vec tot 1 ((Bv M off bs).map bC)]):=by
 have e:(bs.take len).map (fun b=>kN.int .u8 (b.toNat:Int))=bs.map bC:=by rw [List.take_of_length_le (by omega)];rfl
 subst hb
 simp only [zA,Bh,Bi,List.length_map,hl,e,TL]
 simp
def z8 (f g:List UInt8) (O R:Nat):List UInt8:=Bv (Bv (ai1 (mB f.length g.length O R) 0) 0 f) f.length g
theorem x_ {M:List UInt8}{off:Nat}{bs:List UInt8}(h:off+bs.length≤M.length):(Bv M off bs).length=M.length:=by
 unfold Bv;simp;omega
theorem B1 {F:Nat→Nat}{l:List UInt8}:(l.map bC).map (kN.xC F)=l.map bC:=by
 rw [List.map_map];rfl
theorem DA {p:Nat→Bool}{l:List UInt8}:(l.map bC).all (kN.MA p)=true:=by
 rw [List.all_map,al0];intro x _;rfl
theorem Fh {l:List UInt8}:(l.map bC).flatMap kN.vR=[]:=by
 induction l with
 | nil=>rfl
 | cons x l ih=>simp [bC,kN.vR,tS]
theorem atT {sz:Sz}{rl:List mZ}{L I O R:Nat}{M:List UInt8}:zY 0 (.tuple [.ptr 1 0,.int .i64 0]) [.cells sz.cells,.cells [.slice (Rw mZ.cells rl) .no,.vslice 2 7 0 7 1],.vec 7 1 (vP 3 (mB L I O R) (oY L I O R)),.vec (mB L I O R) 1 (M.map bC)]=some (.ret (.tuple [.ptr 0 0,.int .i64 0]),MB 0 rl L I O R M):=by
 have v1:∀t:Nat,lN.refs (.vec 7 1 (vP 3 t (oY L I O R)))=[3,3,3,3,3,3,3]:=fun t=>rfl
 have v2:∀t:Nat,lN.refs (.vec t 1 (M.map bC))=[]:=fun t=>Fh
 have v3:∀(t:Nat) (p:Nat→Bool),lN.ok p (.vec 7 1 (vP 3 t (oY L I O R)))=(p 3&&(p 3&&(p 3&&(p 3&&(p 3&&(p 3&&(p 3&&true))))))):=fun t p=>rfl
 have v4:∀(t:Nat) (p:Nat→Bool),lN.ok p (.vec t 1 (M.map bC))=true:=fun t p=>DA
 have v5:∀(t:Nat) (F:Nat→Nat),F 3=2→lN.pO F (.vec 7 1 (vP 3 t (oY L I O R)))=.vec 7 1 (vP 2 t (oY L I O R)):=fun t F hF=>by simp only [lN.pO,vP,oY,ar6,List.map_nil,kN.xC,hF]
 have v6:∀(t:Nat) (F:Nat→Nat),lN.pO F (.vec t 1 (M.map bC))=.vec t 1 (M.map bC):=fun t F=>by simp only [lN.pO,B1]
 have oi:vJ 0 (.tuple [.ptr 1 0,.int .i64 0]) [.cells sz.cells,.cells [.slice (Rw mZ.cells rl) .no,.vslice 2 7 0 7 1],.vec 7 1 (vP 3 (mB L I O R) (oY L I O R)),.vec (mB L I O R) 1 (M.map bC)]=[1,2,3]:=by
  generalize mB L I O R=tt
  unfold vJ reach
  have v9:lN.refs (.cells [.slice (Rw mZ.cells rl) .no,.vslice 2 7 0 7 1])=[2]:=rfl
  simp [v1,v2,v9]
 unfold zY
 rw [oi]
 unfold MB
 generalize mB L I O R=tt at *
 have v7:∀p:Nat→Bool,lN.ok p (.cells [.slice (Rw mZ.cells rl) .no,.vslice 2 7 0 7 1])=(p 2&&true):=fun p=>by simp [lN.ok]
 have v8:∀F:Nat→Nat,lN.pO F (.cells [.slice (Rw mZ.cells rl) .no,.vslice 2 7 0 7 1])=.cells [.slice (Rw mZ.cells rl) .no,.vslice (F 2) 7 0 7 1]:=fun F=>by simp [lN.pO]
 simp [FO,D_,v3,v4,v5,v6,v7,v8]
section
variable (f g:List UInt8) (O R:Nat) (hz:Ew (nO g.length O R) (f.length:Int)=0)
include hz
theorem JW:f.length≤262144∧g.length≤65536∧O≤65536∧R≤65536∧4≤R:=by
 have:=Kz hz
 simp only [nO] at this
 omega
theorem c26 (h:kO):KK 26 [.agg (nO g.length O R).cells,.str f,.str g] h=some (.ret (.tuple [.ptr h.length 0,.int .i64 0]),h++MB h.length (pZ (nO g.length O R) f.length) f.length g.length O R (z8 f g O R)):=by
 obtain⟨n1,n2,n3,n4,n5⟩:=JW f g O R hz
 have hs:Oe (nO g.length O R):=by unfold Oe nO;dsimp only;omega
 have hrb:=afK (p:=nO g.length O R) (n:=(f.length:Int)) (by omega) hs hz
 have k35:∀hp,KK 35 [.agg (nO g.length O R).cells,.int .i64 (f.length:Int)] hp=some (.ret (.tuple [.slice (Rw mZ.cells (pZ (nO g.length O R) f.length)) .no,.int .i64 0]),hp):=fun hp =>
  (tB (nO g.length O R) _ hp).trans (by rw [afT hs (by omega) hz];rfl)
 generalize hrl:pZ (nO g.length O R) f.length=rl at *
 have r0:rl[0]?=some ⟨0,(f.length:Nat),false⟩:=by rw [←hrl];rfl
 have r1:rl[1]?=some ⟨536936448,(g.length:Nat),true⟩:=by rw [←hrl];rfl
 have r2:rl[2]?=some ⟨537001984,(O:Nat),true⟩:=by rw [←hrl];rfl
 have r3:rl[3]?=some ⟨537133056,(R:Nat),true⟩:=by rw [←hrl];rfl
 have r4:rl[4]?=some ⟨537395200,(R:Nat),true⟩:=by rw [←hrl];rfl
 have r5:rl[5]?=some ⟨537919488,4,true⟩:=by rw [←hrl];rfl
 have r6:rl[6]?=some ⟨538968064,4,true⟩:=by rw [←hrl];rfl
 have hl:rl.length=7:=by rw [←hrl];rfl
 have mem:∀i r,rl[i]?=some r→Rb r:=fun i r e=>hrb r (List.mem_of_getElem? e)
 generalize hL:f.length=L at *
 generalize hI:g.length=I at *
 have lp0:nP (EN KK 1) ([.str f,.str g,.nilptr,.int .i64 0,.slice (Rw mZ.cells rl) .no,.int .i64 0,.slice (Rw mZ.cells rl) .no,.int .i64 7,.int .i64 0],[.cells (nO I O R).cells])=some (.exit 0,[.str f,.str g,.nilptr,.int .i64 0,.slice (Rw mZ.cells rl) .no,.int .i64 (mB L I O R:Int),.slice (Rw mZ.cells rl) .no,.int .i64 7,.int .i64 7],[.cells (nO I O R).cells]):=by
  refine(nK (Im f g rl _ hl 0 (by decide) _ r0 0 (by decide) (by decide) (mem _ _ r0))).trans ?_
  refine(nK (Im f g rl _ hl 1 (by decide) _ r1 _ (by dsimp only;omega) (by dsimp only;omega) (mem _ _ r1))).trans ?_
  refine(nK (Im f g rl _ hl 2 (by decide) _ r2 _ (by dsimp only;omega) (by dsimp only;omega) (mem _ _ r2))).trans ?_
  refine(nK (Im f g rl _ hl 3 (by decide) _ r3 _ (by dsimp only;omega) (by dsimp only;omega) (mem _ _ r3))).trans ?_
  refine(nK (Im f g rl _ hl 4 (by decide) _ r4 _ (by dsimp only;omega) (by dsimp only;omega) (mem _ _ r4))).trans ?_
  refine(nK (Im f g rl _ hl 5 (by decide) _ r5 _ (by dsimp only;omega) (by dsimp only;omega) (mem _ _ r5))).trans ?_
  refine(nK (Im f g rl _ hl 6 (by decide) _ r6 _ (by dsimp only;omega) (by dsimp only;omega) (mem _ _ r6))).trans ?_
  refine(s7 (atD f g rl _ _)).trans ?_
  rw [show(0:Int)+(L:Int)+(I:Int)+(O:Int)+(R:Int)+(R:Int)+4+4=(mB L I O R:Int) from by unfold mB;omega]
 have lp1:∀M:List UInt8,nP (Bo KK 4) (U4 f g rl (.vslice 3 (mB L I O R) 0 (mB L I O R) 1) 0,U0 (nO I O R) rl (.slice [] (.own 2)) (.front 0 0) (mB L I O R) M)=some (.exit 2,U4 f g rl (.slice [] .no) 7,U0 (nO I O R) rl (.vslice 2 7 0 7 1) (.vec 7 1 (vP 3 (mB L I O R) (oY L I O R))) (mB L I O R) M):=by
  intro M
  have ht:mB L I O R=L+(I+(O+(R+(R+(4+4))))):=by unfold mB;omega
  have q0:=ayM f g (nO I O R) rl ⟨0,(L:Nat),false⟩ (tot:=mB L I O R) (off:=0) (rem:=mB L I O R) (len:=L) M rfl (by omega) r0
  rw [B5 (by omega),show 0+L=L from by omega,show mB L I O R-L=I+(O+(R+(R+(4+4)))) from by omega] at q0
  have q1:=Kw f g (nO I O R) rl ⟨536936448,(I:Nat),true⟩ (tot:=mB L I O R) (off:=L) (rem:=I+(O+(R+(R+(4+4))))) (len:=I) M rfl (by omega) 1 (by decide) (by decide) r1 [(0,L)] rfl
  rw [B5 (by omega),show I+(O+(R+(R+(4+4))))-I=O+(R+(R+(4+4))) from by omega] at q1
  have q2:=Kw f g (nO I O R) rl ⟨537001984,(O:Nat),true⟩ (tot:=mB L I O R) (off:=L+I) (rem:=O+(R+(R+(4+4)))) (len:=O) M rfl (by omega) 2 (by decide) (by decide) r2 [(0,L),(L,I)] rfl
  rw [B5 (by omega),show O+(R+(R+(4+4)))-O=R+(R+(4+4)) from by omega] at q2
  have q3:=Kw f g (nO I O R) rl ⟨537133056,(R:Nat),true⟩ (tot:=mB L I O R) (off:=L+I+O) (rem:=R+(R+(4+4))) (len:=R) M rfl (by omega) 3 (by decide) (by decide) r3 [(0,L),(L,I),(L+I,O)] rfl
  rw [B5 (by omega),show R+(R+(4+4))-R=R+(4+4) from by omega] at q3
  have q4:=Kw f g (nO I O R) rl ⟨537395200,(R:Nat),true⟩ (tot:=mB L I O R) (off:=L+I+O+R) (rem:=R+(4+4)) (len:=R) M rfl (by omega) 4 (by decide) (by decide) r4 [(0,L),(L,I),(L+I,O),(L+I+O,R)] rfl
  rw [B5 (by omega),show R+(4+4)-R=4+4 from by omega] at q4
  have q5:=Kw f g (nO I O R) rl ⟨537919488,4,true⟩ (tot:=mB L I O R) (off:=L+I+O+R+R) (rem:=4+4) (len:=4) M rfl (by omega) 5 (by decide) (by decide) r5 [(0,L),(L,I),(L+I,O),(L+I+O,R),(L+I+O+R,R)] rfl
  rw [B5 (by omega),show 4+4-4=4 from by omega] at q5
  have q6:=Kw f g (nO I O R) rl ⟨538968064,4,true⟩ (tot:=mB L I O R) (off:=L+I+O+R+R+4) (rem:=4) (len:=4) M rfl (by omega) 6 (by decide) (by decide) r6 [(0,L),(L,I),(L+I,O),(L+I+O,R),(L+I+O+R,R),(L+I+O+R+R,4)] rfl
  exact(nK q0).trans ((nK q1).trans ((nK q2).trans ((nK q3).trans ((nK q4).trans ((nK q5).trans ((nK q6).trans (s7 (atE f g _ rl _ (fun h=>rfl) (oY L I O R) M))))))))
 have mk:=fun hp=>aC9 (n:=mB L I O R) (by unfold mB;omega) (h:=hp)
 have lp1':=lp1 (ai1 (mB L I O R) 0)
 have cpa:=fun b0 b1 b2=>as8 (b0:=b0) (b1:=b1) (b2:=b2) (tot:=mB L I O R) (off:=0) (len:=L) (M:=ai1 (mB L I O R) 0) (bs:=f) hL (by unfold mB;simp;omega)
 have cpb:=fun b0 b1 b2=>as8 (b0:=b0) (b1:=b1) (b2:=b2) (tot:=mB L I O R) (off:=L) (len:=I) (M:=Bv (ai1 (mB L I O R) 0) 0 f) (bs:=g) hI (by rw [x_ (by unfold mB;simp;omega)];unfold mB;simp;omega)
 have fin:z8 f g O R=Bv (Bv (ai1 (mB L I O R) 0) 0 f) L g:=by unfold z8;rw [hL,hI]
 rw [fin]
 generalize ai1 (mB L I O R) (0:UInt8)=Z at *
 generalize Bv Z 0 f=M1 at *
 generalize Bv M1 L g=M2 at *
 have vs0:(vP 3 (mB L I O R) (oY L I O R))[0]?=some (.vslice 3 (mB L I O R) 0 L 1):=rfl
 have vs1:(vP 3 (mB L I O R) (oY L I O R))[1]?=some (.vslice 3 (mB L I O R) L I 1):=rfl
 simp only [U4,U0] at lp1'
 have body:m26 KK (.agg (nO I O R).cells) (.str f) (.str g) []=some (.ret (.tuple [.ptr 0 0,.int .i64 0]),MB 0 rl L I O R M2):=by
  have vl:(vP 3 (mB L I O R) (oY L I O R)).length=7:=rfl
  have e1:(oY L I O R).length=7:=rfl
  simp only [nO,Sz.lX] at lp0 lp1' k35
  have ix0:mD 1 (.vslice 2 7 0 7 1) (.int .i64 0)=some (.vptr 2 7 0):=rfl
  have ix1:mD 1 (.vslice 2 7 0 7 1) (.int .i64 1)=some (.vptr 2 7 1):=rfl
  have ld0:∀b0 b1 b3,kY false 1 [b0,b1,.vec 7 1 (vP 3 (mB L I O R) (oY L I O R)),b3] (.vptr 2 7 0)=some (.vslice 3 (mB L I O R) 0 L 1):=fun _ _ _=>rfl
  have ld1:∀b0 b1 b3,kY false 1 [b0,b1,.vec 7 1 (vP 3 (mB L I O R) (oY L I O R)),b3] (.vptr 2 7 1)=some (.vslice 3 (mB L I O R) L I 1):=fun _ _ _=>rfl
  have fn:=atT (sz:=⟨I,O,R⟩) (rl:=rl) (L:=L) (I:=I) (O:=O) (R:=R) (M:=M2)
  simp only [Sz.lX] at fn
  simp -implicitDefEqProofs [m26,nO,hL,hI,k35,lp0,hl,mk,lp1',ix0,ix1,ld0,ld1,cpa,cpb,fn,-oT,-rU,-pV]
 have hb:∀_:Unit,tR (mJ.out 26) h (.ret (.tuple [.ptr 0 0,.int .i64 0]),MB 0 rl L I O R M2)=some (.ret (.tuple [.ptr h.length 0,.int .i64 0]),h++MB h.length rl L I O R M2):=fun _=>by
  have v3:∀(t:Nat) (p:Nat→Bool),lN.ok p (.vec 7 1 (vP 2 t (oY L I O R)))=(p 2&&(p 2&&(p 2&&(p 2&&(p 2&&(p 2&&(p 2&&true))))))):=fun t p=>rfl
  have v4:∀(t:Nat) (p:Nat→Bool),lN.ok p (.vec t 1 (M2.map bC))=true:=fun t p=>DA
  have v5:∀(t:Nat) (F:Nat→Nat),lN.pO F (.vec 7 1 (vP 2 t (oY L I O R)))=.vec 7 1 (vP (F 2) t (oY L I O R)):=fun t F=>by simp only [lN.pO,vP,oY,ar6,List.map_nil,kN.xC]
  have v6:∀(t:Nat) (F:Nat→Nat),lN.pO F (.vec t 1 (M2.map bC))=.vec t 1 (M2.map bC):=fun t F=>by simp only [lN.pO,B1]
  have v7:∀p:Nat→Bool,lN.ok p (.cells [.slice (Rw mZ.cells rl) .no,.vslice 1 7 0 7 1])=(p 1&&true):=fun p=>by simp [lN.ok]
  have v8:∀F:Nat→Nat,lN.pO F (.cells [.slice (Rw mZ.cells rl) .no,.vslice 1 7 0 7 1])=.cells [.slice (Rw mZ.cells rl) .no,.vslice (F 1) 7 0 7 1]:=fun F=>by simp [lN.pO]
  have ho:mJ.out 26=true:=rfl
  unfold MB
  generalize mB L I O R=tt at *
  rw [ho]
  simp [tR,v3,v4,v5,v6,v7,v8]
 have:=Lc (P:=Tryz.prog) (A:=mJ) (f:=26) (h:=h) (x:=some ()) (v:=fun _=>.tuple [.ptr 0 0,.int .i64 0]) (g:=fun _=>MB 0 rl L I O R M2) (v':=fun _=>.tuple [.ptr h.length 0,.int .i64 0]) (g':=fun _=>MB h.length rl L I O R M2) rfl rfl (Ww (Ag Tryz.prog mJ) (.agg (nO I O R).cells) (.str f) (.str g) []) body hb
 exact this
end
theorem Zc {p:Sz}(hp:Oe p) (f g:List UInt8) (hf:f.length<4611686018427387904) (hz:Ew p (f.length:Int)=0) (hg:((g.length:Nat):Int)≠p.inn) (h:kO):KK 26 [.agg p.cells,.str f,.str g] h=some (.ret (.tuple [.nilptr,.int .i64 2]),h):=by
 refine qC rfl rfl (Ww ..) ?_
 have k35:∀hp,KK 35 [.agg p.cells,.int .i64 (f.length:Int)] hp=some (.ret (.tuple [.slice (Rw mZ.cells (pZ p f.length)) .no,.int .i64 0]),hp):=fun h' =>
  (tB p _ h').trans (by rw [afT hp (by omega) hz];rfl)
 simp only [Sz.lX] at k35
 have fn:∀c,zY 0 (.tuple [.nilptr,.int .i64 2]) [.cells c]=some (.ret (.tuple [.nilptr,.int .i64 2]),[]):=fun c=>rfl
 simp -implicitDefEqProofs [m26,k35,hg,fn]
end
section
open Go Hk
def Ch (F:Nat→List kN) (n:Nat):List kN:=(ar2 n).flatMap F
theorem wG (F:Nat→List kN) (n:Nat):Ch F (n+1)=Ch F n++F n:=by unfold Ch;rw [List.range_succ,List.flatMap_append];simp
section
variable {F:Nat→List kN}(hF:∀i,(F i).length=11)
include hF
theorem G7:∀n,(Ch F n).length=11*n
 | 0=>rfl
 | n+1=>by rw [wG,List.length_append,G7 n,hF];omega
theorem Vg {i j:Nat}(hj:j<11):∀{n},i<n→(Ch F n)[11*i+j]?=(F i)[j]?
 | n+1,h=>by
  have hl:=G7 hF n
  rw [wG]
  by_cases hi:i<n
  ·rw [List.getElem?_append_left (by omega)];exact Vg hj hi
  ·obtain rfl:i=n:=by omega
   rw [List.getElem?_append_right (by omega),hl];congr 1;omega
theorem Vf {i:Nat}:∀{n},i<n→((Ch F n).drop (11*i)).take 11=F i
 | n+1,h=>by
  have hl:=G7 hF n
  have hi':=hF i
  rw [wG]
  by_cases hi:i<n
  ·rw [List.drop_append_of_le_length (by omega),List.take_append_of_le_length (by rw [List.length_drop];omega)];exact Vf hi
  ·obtain rfl:i=n:=by omega
   rw [show 11*i=(Ch F i).length from hl.symm,List.drop_left,List.take_of_length_le (by omega)]
theorem Vh {i:Nat}{v:List kN}(hv:v.length=11):∀{n},i<n→kU (Ch F n) (11*i) v=Ch (fun k=>if k=i then v else F k) n
 | n+1,h=>by
  have hl:=G7 hF n
  have hi':=hF i
  rw [wG,wG]
  by_cases hi:i<n
  ·have:=Vh (i:=i) hv hi
   rw [←this,if_neg (by omega)]
   unfold kU
   rw [List.take_append_of_le_length (by omega),List.drop_append_of_le_length (by omega)];simp
  ·obtain rfl:i=n:=by omega
   rw [if_pos rfl]
   have e:Ch (fun k=>if k=i then v else F k) i=Ch F i:=by
    have g:∀l:List Nat,(∀k∈l,k≠i)→l.flatMap (fun k=>if k=i then v else F k)=l.flatMap F:=by
     intro l
     induction l with
     | nil=>intro _;rfl
     | cons a l ih=>intro hl;rw [List.flatMap_cons,List.flatMap_cons,if_neg (hl a (by simp)),ih fun k hk=>hl k (by simp [hk])]
    exact g _ fun k hk=>by have:=List.mem_range.1 hk;omega
   rw [e]
   unfold kU
   rw [show 11*i=(Ch F i).length from hl.symm,List.take_left,aq8 (by simp;omega)];simp
end
theorem Vi {F:Nat→List kN}{m:Nat}{h:kO}(hs:∀i,mI m h (F i)=some (F i)):∀n,mI m h (Ch F n)=some (Ch F n)
 | 0=>rfl
 | n+1=>by
  have app:∀(a b:List kN),mI m h a=some a→mI m h b=some b→mI m h (a++b)=some (a++b):=by
   intro a
   induction a with
   | nil=>intro b _ hb;exact hb
   | cons x a ih =>
    intro b ha hb
    simp only [List.cons_append,mI] at ha ⊢
    cases hx:(x.oW m h).lS
    ·rw [hx] at ha;simp at ha
    ·rw [hx] at ha
     simp only [cond_true] at ha ⊢
     cases hc:mI m h a with
     | none=>rw [hc] at ha;simp at ha
     | some a' =>
      rw [hc] at ha
      simp only [Option.some.injEq,List.cons.injEq] at ha
      rw [ha.2] at hc
      rw [ih b hc hb,ha.1]
  rw [wG]
  exact app _ _ (Vi hs n) (hs n)
theorem KF {F:Nat→List kN}{p:kN→Bool}(hs:∀i,(F i).all p=true):∀n,(Ch F n).all p=true
 | 0=>rfl
 | n+1=>by rw [wG,List.all_append,KF hs n,hs];rfl
theorem PI {F:Nat→List kN}{f:kN→kN}(hs:∀i,(F i).map f=F i):∀n,(Ch F n).map f=Ch F n
 | 0=>rfl
 | n+1=>by rw [wG,List.map_append,PI hs n,hs]
theorem KG {F:Nat→List kN}(hs:∀i,(F i).flatMap kN.vR=[]):∀n,(Ch F n).flatMap kN.vR=[]
 | 0=>rfl
 | n+1=>by rw [wG,List.flatMap_append,KG hs n,hs];rfl
def en0:List kN:=[.int .i64 0,.int .i64 0,.int .i64 0,.int .i64 0,.int .i64 0,.int .i64 0,.int .i64 0,.bool false,.int .i64 0,.bool false,.bool false]
def enD (s:List UInt8):List kN:=[.int .i64 (mY s).1.op,.int .i64 (mY s).1.rd,.int .i64 (mY s).1.rn,.int .i64 (mY s).1.rm,.int .i64 (mY s).1.ra,.int .i64 (mY s).1.imm,.int .i64 (mY s).1.cond,.bool (mY s).1.wide,.int .i64 (mY s).2.1,.bool true,.bool (!decide ((mY s).2.2=0))]
def HM (f:List UInt8) (kn:Nat→Bool) (i:Nat):List kN:=if kn i=true then enD (f.drop (2*i)) else en0
theorem Gv {f:List UInt8}{kn:Nat→Bool}(i:Nat):(HM f kn i).length=11:=by unfold HM;split <;> rfl
theorem Zk {f:List UInt8}{kn:Nat→Bool}{m:Nat}{h:kO}(i:Nat):mI m h (HM f kn i)=some (HM f kn i):=by unfold HM;split <;> rfl
theorem V5 {f:List UInt8}{kn:Nat→Bool}{p:Nat→Bool}(i:Nat):(HM f kn i).all (kN.MA p)=true:=by unfold HM;split <;> rfl
theorem Tv {f:List UInt8}{kn:Nat→Bool}{F:Nat→Nat}(i:Nat):(HM f kn i).map (kN.xC F)=HM f kn i:=by unfold HM;split <;> rfl
theorem OJ {f:List UInt8}{kn:Nat→Bool}(i:Nat):(HM f kn i).flatMap kN.vR=[]:=by unfold HM;split <;> rfl
def Ba (f:List UInt8) (kn:Nat→Bool) (n:Nat):List kN:=Ch (HM f kn) n
theorem aeA {f:List UInt8}:∀n,(ai1 n en0).flatten=Ba f (fun _=>false) n
 | 0=>rfl
 | n+1=>by
  unfold Ba
  rw [wG,List.replicate_succ',List.flatten_append,aeA n (f:=f)]
  simp [Ba,HM]
def MC (hd:Hd) (f:List UInt8) (p:kN) (s:St) (dn:Bool) (c:kN):List kN:=hd.cells++(.str f::p::(Sc s++[.bool dn,c]))
theorem aC8 {n:Nat}(hn:n≤1000000) {f:List UInt8}{h:kO}:pI 11 80 en0 (.int .i64 (n:Int)) h=some (.vslice h.length n 0 n 11,h++[.vec n 11 (Ba f (fun _=>false) n)]):=by
 unfold pI
 dsimp only
 rw [if_pos (by omega),Jh,aeA n (f:=f)]
def MH (hd:Hd) (f:List UInt8) (s:St) (dn:Bool) (kn:Nat→Bool) (n:Nat) (rl:List mZ) (L I O R:Nat) (M:List UInt8):kO :=
 [.cells (MC hd f (.ptr 1 0) s dn (.vslice 2 n 0 n 11)),.cells [.slice (Rw mZ.cells rl) .no,.vslice 3 7 0 7 1],.vec n 11 (Ba f kn n),.vec 7 1 (vP 4 (mB L I O R) (oY L I O R)),.vec (mB L I O R) 1 (M.map bC)]
theorem atS {c0:List kN}{hd:Hd}{f:List UInt8}{s:St}{dn:Bool}{kn:Nat→Bool}{n:Nat}{rl:List mZ}{L I O R:Nat}{M:List UInt8} :
  zY 0 (.tuple [.ptr 5 0,.int .i64 0]) ((.cells c0::MB 1 rl L I O R M)++[.vec n 11 (Ba f kn n),.cells (MC hd f (.ptr 1 0) s dn (.vslice 4 n 0 n 11))])=some (.ret (.tuple [.ptr 0 0,.int .i64 0]),MH hd f s dn kn n rl L I O R M):=by
 unfold MB MH
 generalize mB L I O R=tt
 have v1:lN.refs (.vec 7 1 (vP 3 tt (oY L I O R)))=[3,3,3,3,3,3,3]:=rfl
 have v2:lN.refs (.vec tt 1 (M.map bC))=[]:=Fh
 have v2':lN.refs (.vec n 11 (Ba f kn n))=[]:=KG OJ n
 have v9:lN.refs (.cells [.slice (Rw mZ.cells rl) .no,.vslice 2 7 0 7 1])=[2]:=rfl
 have v9':lN.refs (.cells (MC hd f (.ptr 1 0) s dn (.vslice 4 n 0 n 11)))=[1,4]:=rfl
 have oi:vJ 0 (.tuple [.ptr 5 0,.int .i64 0]) ((.cells c0::[.cells [.slice (Rw mZ.cells rl) .no,.vslice 2 7 0 7 1],.vec 7 1 (vP 3 tt (oY L I O R)),.vec tt 1 (M.map bC)])++[.vec n 11 (Ba f kn n),.cells (MC hd f (.ptr 1 0) s dn (.vslice 4 n 0 n 11))])=[5,1,4,2,3]:=by
  unfold vJ reach
  simp [v1,v2,v2',v9,v9']
 have v3:∀(p:Nat→Bool),lN.ok p (.vec 7 1 (vP 3 tt (oY L I O R)))=(p 3&&(p 3&&(p 3&&(p 3&&(p 3&&(p 3&&(p 3&&true))))))):=fun p=>rfl
 have v4:∀(p:Nat→Bool),lN.ok p (.vec tt 1 (M.map bC))=true:=fun p=>DA
 have v4':∀(p:Nat→Bool),lN.ok p (.vec n 11 (Ba f kn n))=true:=fun p=>KF V5 n
 have v5:∀(F:Nat→Nat),lN.pO F (.vec 7 1 (vP 3 tt (oY L I O R)))=.vec 7 1 (vP (F 3) tt (oY L I O R)):=fun F=>by simp only [lN.pO,vP,oY,ar6,List.map_nil,kN.xC]
 have v6:∀(F:Nat→Nat),lN.pO F (.vec tt 1 (M.map bC))=.vec tt 1 (M.map bC):=fun F=>by simp only [lN.pO,B1]
 have v6':∀(F:Nat→Nat),lN.pO F (.vec n 11 (Ba f kn n))=.vec n 11 (Ba f kn n):=fun F=>by simp only [lN.pO];rw [show(Ba f kn n).map (kN.xC F)=Ba f kn n from PI Tv n]
 have v7:∀p:Nat→Bool,lN.ok p (.cells [.slice (Rw mZ.cells rl) .no,.vslice 2 7 0 7 1])=(p 2&&true):=fun p=>by simp [lN.ok]
 have v8:∀F:Nat→Nat,lN.pO F (.cells [.slice (Rw mZ.cells rl) .no,.vslice 2 7 0 7 1])=.cells [.slice (Rw mZ.cells rl) .no,.vslice (F 2) 7 0 7 1]:=fun F=>by simp [lN.pO]
 have v7':∀p:Nat→Bool,lN.ok p (.cells (MC hd f (.ptr 1 0) s dn (.vslice 4 n 0 n 11)))=(p 1&&(p 4&&true)):=fun p=>by simp [lN.ok,MC,Sc]
 have v8':∀F:Nat→Nat,lN.pO F (.cells (MC hd f (.ptr 1 0) s dn (.vslice 4 n 0 n 11)))=.cells (MC hd f (.ptr (F 1) 0) s dn (.vslice (F 4) n 0 n 11)):=fun F=>by simp [lN.pO,MC,Sc]
 unfold zY
 rw [oi]
 simp [FO,D_,v3,v4,v4',v5,v6,v6',v7,v8,v7',v8']
end
section
open Go Hk
def SY (reset:Int):St:=⟨fun k=>if k=13 then 537133056 else if k=14 then 4294967295 else 0,reset,false,false,false,false⟩
theorem k27 (h:kO):KK 27 [.int .i64 0] h=some (.ret (.int .i64 4294967295),h):=by
 rw [Ce];unfold t27;rfl
theorem Zb (f g:List UInt8) (hf:f.length≤9223372036854775807) {hd:Hd}{e:Int}(hp:uH f=(hd,e)) (he:e≠0) (h:kO):KK 19 [.str f,.str g] h=some (.ret (.tuple [.nilptr,.int .i64 e]),h):=by
 refine qC rfl rfl (QA ..) ?_
 have k25:=fun hp=>c25 f hf hp
 rw [hp] at k25
 dsimp only at he k25 ⊢
 have fn:∀c,zY 0 (.tuple [.nilptr,.int .i64 e]) [.cells c]=some (.ret (.tuple [.nilptr,.int .i64 e]),[]):=fun c=>by simp [zY,FO,vJ,D_]
 simp only [Hd.lX] at k25
 simp -implicitDefEqProofs [m19,k25,he,fn]
theorem VY (f g:List UInt8) (hf:f.length≤9223372036854775807) (he:(uH f).2=0) (hs:Oe (uH f).1.sizes) (hz:Ew (uH f).1.sizes (f.length:Int)=0) (hg:((g.length:Nat):Int)≠(uH f).1.sizes.inn) (h:kO):KK 19 [.str f,.str g] h=some (.ret (.tuple [.nilptr,.int .i64 2]),h):=by
 refine qC rfl rfl (QA ..) ?_
 have k25:=fun hp=>c25 f hf hp
 have k26:=fun hp=>Zc hs f g (by have:=Kz hz;omega) hz hg hp
 generalize uH f=P at *
 have fn:∀c,zY 0 (.tuple [.nilptr,.int .i64 2]) [.cells c]=some (.ret (.tuple [.nilptr,.int .i64 2]),[]):=fun c=>rfl
 simp only [Hd.lX,Sz.lX] at k25 k26
 simp -implicitDefEqProofs [m19,k25,he,k26,fn]
theorem ahP (f g:List UInt8) (hf:f.length≤9223372036854775807) (hd:Hd) (O R:Nat) (he:uH f=(hd,0)) (hq:hd.sizes=nO g.length O R) (hz:Ew (nO g.length O R) (f.length:Int)=0) :
  m19 KK (.str f) (.str g) []=some (.ret (.tuple [.ptr 0 0,.int .i64 0]),MH hd f (SY hd.reset) false (fun _=>false) (f.length/2+1) (pZ (nO g.length O R) f.length) f.length g.length O R (z8 f g O R)):=by
 have k25:=fun hp=>c25 f hf hp
 obtain⟨n1,n2,n3,n4,n5⟩:=JW f g O R hz
 have k26:=fun hp=>c26 f g O R hz hp
 rw [he] at k25
 have mk:=fun hp=>aC8 (n:=f.length/2+1) (by omega) (f:=f) (h:=hp)
 have fn:=fun c0=>atS (c0:=c0) (hd:=hd) (f:=f) (s:=SY hd.reset) (dn:=false) (kn:=fun _=>false) (n:=f.length/2+1) (rl:=pZ (nO g.length O R) f.length) (L:=f.length) (I:=g.length) (O:=O) (R:=R) (M:=z8 f g O R)
 have tq:A0 .i64 (f.length:Int) 2=some ((f.length/2:Nat):Int):=by rw [uR (by omega) (by decide),lP _ (by omega) (by omega)];rfl
 have ta:IntKind.i64.wrap (((f.length/2:Nat):Int)+1)=((f.length/2+1:Nat):Int):=by rw [lP _ (by omega) (by omega)];omega
 obtain⟨rs,hn,sz,md⟩:=hd
 dsimp only at hq
 subst hq
 unfold MB at k26 fn
 generalize z8 f g O R=M at *
 generalize pZ (nO g.length O R) f.length=rl at *
 generalize f.length/2+1=n at *
 generalize f.length/2=q at *
 generalize g.length=I at *
 simp only [Hd.lX,Sz.lX,nO] at k25 k26
 simp only [en0] at mk
 have p13:lQ 15 1 (.ptr 5 8) (.int .i64 13)=some (.ptr 5 21):=rfl
 have p14:lQ 15 1 (.ptr 5 8) (.int .i64 14)=some (.ptr 5 22):=rfl
 have cp:∀i o,(kN.ptr i o).cells=[.ptr i o]:=fun _ _=>rfl
 have cv:∀a b c d e,(kN.vslice a b c d e).cells=[.vslice a b c d e]:=fun _ _ _ _ _=>rfl
 have op:∀i o,(kN.ptr i o).lS=true:=fun _ _=>rfl
 have ov:∀a b c d e,(kN.vslice a b c d e).lS=true:=fun _ _ _ _ _=>rfl
 have jp:∀i o,(kN.ptr i o).nE=false:=fun _ _=>rfl
 have jv:∀a b c d e,(kN.vslice a b c d e).nE=false:=fun _ _ _ _ _=>rfl
 simp -implicitDefEqProofs [m19,k25,k26,mk,tq,ta,k27,p13,p14,cp,cv,jp,jv,kU,op,ov]
 exact fn _
end
end Go.Proofs.YtaaccaifoddaiaaGreat
