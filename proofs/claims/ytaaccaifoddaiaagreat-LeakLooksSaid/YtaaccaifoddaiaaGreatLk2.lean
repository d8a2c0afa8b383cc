/-
  The texts LK.T2, LK.T3, LK.P, LK.T4, LK.O1, LK.O2, LK.O3, LK.T9, LK.E1, LK.E2, LK.E3, LK.E4, LK.M, LK.T5, one behind another. No conditions.
-/
import Derived.Test.YtaaccaifoddaiaaGreatLk1
set_option linter.unusedVariables false
set_option linter.unusedSimpArgs false
set_option linter.all false
open Bool renaming and_eq_true → ae7
open Int renaming reduceEq → ae2
open List renaming length → aa5
open Option.some renaming injEq → aa9
namespace Go.Proofs.YtaaccaifoddaiaaGreat
noncomputable section
open Go Hk
section
set_option maxHeartbeats 8000000
def LH (K:kT) (aB:kN) (aA:kO):Option R :=
 some (.ret,[aB],aA)
def Ek (aA:Bool):Option (Bool) :=
 some aA
theorem abX (w31:Bool):((LH KK w31 ([]:kO))).bind (mA 0)=tm (Ek w31) fun r=>(.ret r,[]):=by
 cases w31 <;> simp [-rZ,-oZ,-oJ,-p5,-pV,-qX,-qY,LH,Ek,mA]
def au3 (K:kT) (a0 a1 a2:kN) (h0:kO):Option (mR×kO) :=
 (bo .geq a0 a1 fun aA=>gS true aA (lI a0 h0) h0 fun aE aB=>gS true aA (lI a2 aB) aB fun aF aC=>gS true aA (bo .leq aE aF fun aG=>lI aG aC) aC fun aH aD=>(lH aA aH false).bind fun aI=>LH K aI aD).bind (mA (aa5 h0))
theorem ZT K a0 a1 a2 h0:nN K 116 [a0,a1,a2] h0=au3 (lG mJ K) a0 a1 a2 h0:=by kernel_rfl
def t116 (p0:Int) (p1:Int) (p2:Int):Option (Bool) :=
 tc (decide (p1≤p0)) (Ek (decide (p0≤p2))) (Ek false)
theorem AW (p0:Int) (p1:Int) (p2:Int) (h:kO):KK 116 [p0,p1,p2] h=tm (t116 p0 p1 p2) fun r=>(.ret r,h):=lJ rfl rfl (ZT ..) (by
 simp +contextual [-rZ,-oZ,-oJ,-p5,-pV,-qX,-qY,au3,t116,mA,abX])
def LX (K:kT) (m:Nat) (a1:kN) (h0:kO):Option R :=
 kV a1 (kZ m .normal [zO,zO,(16777216:Int)] h0) (kZ m .normal [zO,zO,(2048:Int)] h0)
def GY (p1:Bool):Option (Int) :=
 tc p1 (some 16777216) (some 2048)
theorem acD (p1:Bool):(LX KK 0 p1 ([]:kO))=tm (β:=R) (GY p1) fun r=>(.normal,[zO,zO,r],([]:kO)):=by
 cases p1 <;> simp [-rZ,-oZ,-oJ,-p5,-pV,-qX,-qY,LX,GY]
def LY (K:kT) (m:Nat) (a1:kN) (h0:kO):Option R :=
 kV a1 (kZ m .normal [zO,zO,(1048576:Int)] h0) (kZ m .normal [zO,zO,(256:Int)] h0)
def GZ (p1:Bool):Option (Int) :=
 tc p1 (some 1048576) (some 256)
theorem acE (p1:Bool):(LY KK 0 p1 ([]:kO))=tm (β:=R) (GZ p1) fun r=>(.normal,[zO,zO,r],([]:kO)):=by
 cases p1 <;> simp [-rZ,-oZ,-oJ,-p5,-pV,-qX,-qY,LY,GZ]
def LW (K:kT) (m:Nat) (aJ:kN) (h0:kO) (a1:kN) (a0:kN):Option R :=
 kV aJ ((LX K (aa5 h0) a1 h0).bind fun aA=>(fun aB aD aF aH=>Ex.pR aA.1 (kZ m .normal [aB,aD,aF] aH)) (gd aA.2.1 0) (gd aA.2.1 1) (gd aA.2.1 2) aA.2.2) (bo .eql a0 (25:Int) fun t27=>kV t27 ((LY K (aa5 h0) a1 h0).bind fun uZ=>(fun aC aE aG aI=>Ex.pR uZ.1 (kZ m .normal [aC,aE,aG] aI)) (gd uZ.2.1 0) (gd uZ.2.1 1) (gd uZ.2.1 2) uZ.2.2) (kZ m .ret [zO,zO,zO] h0))
def GX (aB:Bool) (p1:Bool) (p0:Int):Option (Ey×Int) :=
 tc aB (tb (GY p1) fun aA=>some (.n,aA)) (tc (decide (p0=25)) (tb (GZ p1) fun uZ=>some (.n,uZ)) (some (.r,0)))
theorem acC (w21:Bool) (p1:Bool) (p0:Int):(LW KK 0 w21 ([]:kO) p1 p0)=tm (β:=R) (GX w21 p1 p0) fun r=>(r.1.ex,[zO,zO,r.2],([]:kO)):=by
 cases w21 <;> simp [-rZ,-oZ,-oJ,-p5,-pV,-qX,-qY,LW,GX,acD,acE]
def LV (K:kT) (m:Nat) (a0:kN) (h0:kO) (a1:kN):Option R :=
 bo .eql a0 (24:Int) fun aG=>(LW K (aa5 h0) aG h0 a1 a0).bind fun aD=>(fun aA aB aC aE=>Ex.l_ aD.1 (kZ m .normal [aA,aB,aC] aE) (fun aF=>kZ m aF [aA,aB,aC] aE)) (gd aD.2.1 0) (gd aD.2.1 1) (gd aD.2.1 2) aD.2.2
def GW (p0:Int) (p1:Bool):Option (Ey×Int) :=
 tb (GX (decide (p0=24)) p1 p0) fun aA=>uL aA.1 (some (.n,aA.2)) fun aB=>some (aB,aA.2)
theorem acB (p0:Int) (p1:Bool):(LV KK 0 p0 ([]:kO) p1)=tm (β:=R) (GW p0 p1) fun r=>(r.1.ex,[zO,zO,r.2],([]:kO)):=by
 cases p1 <;> simp [-rZ,-oZ,-oJ,-p5,-pV,-qX,-qY,LV,GW,acC]
def avJ (K:kT) (a0 a1:kN) (h0:kO):Option (mR×kO) :=
 ((LV K (aa5 h0) a0 h0 a1).bind fun aB=>(fun aC aD aA aE=>Ex.inBlock 0 aB.1 ((vN .neg aA).bind fun t46=>bo .sub aA (2:Int) fun aG=>some (.ret,[t46,aG],aE)) (fun aF=>some (aF,[aC,aD],aE))) (gd aB.2.1 0) (gd aB.2.1 1) (gd aB.2.1 2) aB.2.2).bind (Cm (aa5 h0))
theorem aaD K a0 a1 h0:nN K 137 [a0,a1] h0=avJ (lG mJ K) a0 a1 h0:=by kernel_rfl
def t137 (p0:Int) (p1:Bool):Option (Int×Int) :=
 tb (GW p0 p1) fun aA=>vO 0 aA.1 (some ((IntKind.wrap .i64 (0-aA.2)),(IntKind.wrap .i64 (aA.2-2)))) fun aB=>Ao aB (some (0,0))
theorem SC (p0:Int) (p1:Bool) (h:kO):KK 137 [p0,p1] h=tm (t137 p0 p1) fun r=>(.ret (.tuple [r.1,r.2]),h):=lJ rfl rfl (aaD ..) (by
 simp [-rZ,-oZ,-oJ,-p5,-pV,-qX,-qY,avJ,t137,acB,Cm])
def Lv (K:kT) (t140:kN) (aA:kO):Option R :=
 kV t140 (some (.ret,[(6:Int)],aA)) (some (.ret,[zO],aA))
def Eh (aA:Bool):Option (Int) :=
 tc aA (some 6) (some 0)
theorem BZ (w143:Bool) (p0:lL):((Lv KK w143 ([.cells [p0.op,p0.rd,p0.rn,p0.rm,p0.ra,p0.imm,p0.cond,p0.wide]]:kO))).bind (mA 0)=tm (Eh w143) fun r=>(.ret r,[]):=by
 cases w143 <;> simp [-rZ,-oZ,-oJ,-p5,-pV,-qX,-qY,Lv,Eh,AW,SC,mA]
def Lu (K:kT) (t105:kN) (aA:kO) (aI:kN):Option R :=
 kV t105 (some (.ret,[(2:Int)],aA)) (fa 0 aI fun t109=>ld false 1 aA t109 fun t110=>fa 7 aI fun aL=>ld false 1 aA aL fun t112=>ca (K 137 [(kN.kP t110),(kN.kP t112)] aA) fun aH aB=>(lC 0 aH).bind fun t116=>(lC 1 aH).bind fun t117=>fa 5 aI fun aM=>ld false 1 aB aM fun aN=>bo .and aN (1:Int) fun aO=>bo .neq aO zO fun t121=>gS false t121 (fa 5 aI fun t122=>lI t122 aB) aB fun t123 aC=>gS false t121 (ld false 1 aC t123 fun t125=>lI t125 aC) aC fun t126 aD=>gS false t121 (lI t116 aD) aD fun t128 aE=>gS false t121 (lI t117 aE) aE fun t130 aF=>gS false t121 (cg (K 116 [(kN.kP t126),(kN.kP t128),(kN.kP t130)] aF) fun t132 aJ=>lI t132 aJ) aF fun aP aG=>gS false t121 ((vN .not aP).bind fun t137=>lI t137 aG) aG fun t138 aK=>(lH t121 true t138).bind fun t140=>Lv K t140 aK)
def Eg (aB:Bool) (p0:lL):Option (Int) :=
 tc aB (some 2) (tb ((t137 p0.op p0.wide)) fun zH=>tc (!decide ((rC .i64 p0.imm 1)=0)) (Eh true) (tb ((t116 p0.imm zH.1 zH.2)) fun aA=>Eh (!aA)))
theorem DX (w108:Bool) (p0:lL):((Lu KK w108 ([.cells [p0.op,p0.rd,p0.rn,p0.rm,p0.ra,p0.imm,p0.cond,p0.wide]]:kO) (.ptr 0 0))).bind (mA 0)=tm (Eg w108 p0) fun r=>(.ret r,[]):=by
 cases w108 <;> simp +contextual [-rZ,-oZ,-oJ,-p5,-pV,-qX,-qY,Lu,Eg,AW,SC,mA,BZ]
def Lt (K:kT) (t87:kN) (aF:kN) (aD:kO):Option R :=
 gS false t87 (fa 6 aF fun t91=>lI t91 aD) aD fun t92 aC=>gS false t87 (ld false 1 aC t92 fun t94=>lI t94 aC) aC fun t95 aE=>gS false t87 (cg (K 116 [(kN.kP t95),(kN.kP zO),(kN.kP (13:Int))] aE) fun t97 aG=>lI t97 aG) aE fun t100 aA=>gS false t87 ((vN .not t100).bind fun t102=>lI t102 aA) aA fun t103 aB=>(lH t87 true t103).bind fun t105=>Lu K t105 aB aF
def B8 (aB:Bool) (p0:lL):Option (Int) :=
 tc aB (Eg true p0) (tb ((t116 p0.cond 0 13)) fun aA=>Eg (!aA) p0)
theorem GI (w90:Bool) (p0:lL):((Lt KK w90 (.ptr 0 0) ([.cells [p0.op,p0.rd,p0.rn,p0.rm,p0.ra,p0.imm,p0.cond,p0.wide]]:kO))).bind (mA 0)=tm (B8 w90 p0) fun r=>(.ret r,[]):=by
 cases w90 <;> simp [-rZ,-oZ,-oJ,-p5,-pV,-qX,-qY,Lt,B8,AW,SC,mA,BZ,DX]
def Ls (K:kT) (aA:kN) (aD:kN) (aE:kO):Option R :=
 gS false aA (fa 0 aD fun t64=>lI t64 aE) aE fun t65 aB=>gS false aA (ld false 1 aB t65 fun t67=>lI t67 aB) aB fun t68 aF=>gS false aA (bo .eql t68 (24:Int) fun aL=>lI aL aF) aF fun t71 aG=>gS false aA (lI t71 aG) aG fun t73 aH=>gS true t73 (fa 6 aD fun t75=>lI t75 aH) aH fun t76 aC=>gS true t73 (ld false 1 aC t76 fun t78=>lI t78 aC) aC fun aM aI=>gS true t73 (bo .neq aM zO fun aN=>lI aN aI) aI fun aO aJ=>gS false aA ((lH t73 aO false).bind fun aP=>lI aP aJ) aJ fun t85 aK=>(lH aA true t85).bind fun t87=>Lt K t87 aD aK
def Ef (aA:Bool) (p0:lL):Option (Int) :=
 tc aA (B8 true p0) (tc (decide (p0.op=24)) (B8 (!decide (p0.cond=0)) p0) (B8 false p0))
theorem MZ (w63:Bool) (p0:lL):((Ls KK w63 (.ptr 0 0) ([.cells [p0.op,p0.rd,p0.rn,p0.rm,p0.ra,p0.imm,p0.cond,p0.wide]]:kO))).bind (mA 0)=tm (Ef w63 p0) fun r=>(.ret r,[]):=by
 cases w63 <;> simp +contextual [-rZ,-oZ,-oJ,-p5,-pV,-qX,-qY,Ls,Ef,AW,SC,mA,BZ,DX,GI]
def Lr (K:kT) (aA:kN) (aE:kN) (aC:kO):Option R :=
 gS false aA (fa 4 aE fun aG=>lI aG aC) aC fun t52 aB=>gS false aA (ld false 1 aB t52 fun t54=>lI t54 aB) aB fun t55 aD=>gS false aA (bo .neq t55 zO fun t57=>lI t57 aD) aD fun aH aF=>(lH aA true aH).bind fun aI=>Ls K aI aE aF
def Ee (aA:Bool) (p0:lL):Option (Int) :=
 tc aA (Ef true p0) (Ef (!decide (p0.ra=0)) p0)
theorem TM (w50:Bool) (p0:lL):((Lr KK w50 (.ptr 0 0) ([.cells [p0.op,p0.rd,p0.rn,p0.rm,p0.ra,p0.imm,p0.cond,p0.wide]]:kO))).bind (mA 0)=tm (Ee w50 p0) fun r=>(.ret r,[]):=by
 cases w50 <;> simp [-rZ,-oZ,-oJ,-p5,-pV,-qX,-qY,Lr,Ee,AW,SC,mA,BZ,DX,GI,MZ]
def Lq (K:kT) (aA:kN) (aE:kN) (aC:kO):Option R :=
 gS false aA (fa 3 aE fun t38=>lI t38 aC) aC fun aG aB=>gS false aA (ld false 1 aB aG fun aH=>lI aH aB) aB fun t42 aD=>gS false aA (bo .neq t42 zO fun aI=>lI aI aD) aD fun t45 aF=>(lH aA true t45).bind fun aJ=>Lr K aJ aE aF
def Ed (aA:Bool) (p0:lL):Option (Int) :=
 tc aA (Ee true p0) (Ee (!decide (p0.rm=0)) p0)
theorem abM (w37:Bool) (p0:lL):((Lq KK w37 (.ptr 0 0) ([.cells [p0.op,p0.rd,p0.rn,p0.rm,p0.ra,p0.imm,p0.cond,p0.wide]]:kO))).bind (mA 0)=tm (Ed w37 p0) fun r=>(.ret r,[]):=by
 cases w37 <;> simp [-rZ,-oZ,-oJ,-p5,-pV,-qX,-qY,Lq,Ed,AW,SC,mA,BZ,DX,GI,MZ,TM]
def au1 (K:kT) (a0:kN) (h0:kO):Option (mR×kO) :=
 (kW (lR 8 h0 a0) fun aC aA=>fa 1 aC fun aF=>ld false 1 aA aF fun aG=>bo .neq aG zO fun t24=>gS false t24 (fa 2 aC fun aH=>lI aH aA) aA fun aI aB=>gS false t24 (ld false 1 aB aI fun aJ=>lI aJ aB) aB fun t29 aD=>gS false t24 (bo .neq t29 zO fun t31=>lI t31 aD) aD fun t32 aE=>(lH t24 true t32).bind fun aK=>Lq K aK aC aE).bind (mA (aa5 h0))
theorem ZR K a0 h0:nN K 114 [a0] h0=au1 (lG mJ K) a0 h0:=by kernel_rfl
def t114 (p0:lL):Option (Int) :=
 tc (!decide (p0.rd=0)) (Ed true p0) (Ed (!decide (p0.rn=0)) p0)
theorem Ib (p0:lL) (h:kO):KK 114 [(.agg [p0.op,p0.rd,p0.rn,p0.rm,p0.ra,p0.imm,p0.cond,p0.wide])] h=tm (t114 p0) fun r=>(.ret r,h):=lJ rfl rfl (ZR ..) (by
 simp +contextual [-rZ,-oZ,-oJ,-p5,-pV,-qX,-qY,au1,t114,AW,SC,mA,BZ,DX,GI,MZ,TM,abM])
def Wp (mm:Nat) (aA:R):Option (mR×kO) :=
 (fun aB aC aD=>Ex.oH aA.1 ((kY true 6 aD aB).bind fun aE=>oM mm (.tuple [aE,aC]) aD)) (gd aA.2.1 0) (gd aA.2.1 1) aA.2.2
def Lw (K:kT) (m:Nat) (aC:kN) (aB:kN) (a0:kN) (aA:kO):Option R :=
 kV aC (kZ m .normal [aB,false,a0,aC] aA) (bo .eql a0 (4:Int) fun t32=>kZ m .normal [aB,false,a0,t32] aA)
def GK (aA:Bool) (p0:Int):Option (Bool) :=
 tc aA (some aA) (some (decide (p0=4)))
theorem abN (w31:Bool) (p0:Int):(Lw KK 1 w31 (.ptr 0 0) p0 ([.cells [zO,zO,zO,zO,zO,zO]]:kO))=tm (β:=R) (GK w31 p0) fun r=>(.normal,[(.ptr 0 0),false,p0,r],([.cells [zO,zO,zO,zO,zO,zO]]:kO)):=by
 cases w31 <;> simp [-rZ,-oZ,-oJ,-p5,-pV,-qX,-qY,Lw,GK]
def Ly (K:kT) (m:Nat) (aE:kN) (aB:kN) (aC:kN) (aA:kN) (aD:kO):Option R :=
 kV aE (kZ m .normal [aB,aC,aA,aE] aD) (bo .eql aA (8:Int) fun t49=>kZ m .normal [aB,aC,aA,t49] aD)
def GM (aA:Bool) (p0:Int):Option (Bool) :=
 tc aA (some aA) (some (decide (p0=8)))
theorem abP (w48:Bool) (p0:Int):(Ly KK 1 w48 (.ptr 0 0) false p0 ([.cells [zO,zO,zO,zO,zO,zO]]:kO))=tm (β:=R) (GM w48 p0) fun r=>(.normal,[(.ptr 0 0),false,p0,r],([.cells [zO,zO,zO,zO,zO,zO]]:kO)):=by
 cases w48 <;> simp [-rZ,-oZ,-oJ,-p5,-pV,-qX,-qY,Ly,GM]
def Lx (K:kT) (m:Nat) (aJ:kN) (aB:kN) (aC:kN) (aA:kN) (aI:kO):Option R :=
 kV aJ (kZ m .normal [aB,aC,aA,aJ] aI) (bo .eql aA (7:Int) fun aL=>(Ly K (aa5 aI) aL aB aC aA aI).bind fun aE=>(fun aF aG aH aD aK=>Ex.pR aE.1 (kZ m .normal [aF,aG,aH,aD] aK)) (gd aE.2.1 0) (gd aE.2.1 1) (gd aE.2.1 2) (gd aE.2.1 3) aE.2.2)
def GL (aA:Bool) (p0:Int):Option (Bool) :=
 tc aA (some aA) (tb (GM (decide (p0=7)) p0) fun aB=>some aB)
theorem abO (w46:Bool) (p0:Int):(Lx KK 1 w46 (.ptr 0 0) false p0 ([.cells [zO,zO,zO,zO,zO,zO]]:kO))=tm (β:=R) (GL w46 p0) fun r=>(.normal,[(.ptr 0 0),false,p0,r],([.cells [zO,zO,zO,zO,zO,zO]]:kO)):=by
 cases w46 <;> simp [-rZ,-oZ,-oJ,-p5,-pV,-qX,-qY,Lx,GL,abP]
def LF (K:kT) (m:Nat) (t78:kN) (aB:kN) (aC:kN) (aA:kN) (aD:kO):Option R :=
 kV t78 (kZ m .normal [aB,aC,aA,t78] aD) (bo .eql aA (16:Int) fun t80=>kZ m .normal [aB,aC,aA,t80] aD)
def GS (aA:Bool) (p0:Int):Option (Bool) :=
 tc aA (some aA) (some (decide (p0=16)))
theorem abV (w79:Bool) (p0:Int):(LF KK 1 w79 (.ptr 0 0) false p0 ([.cells [zO,zO,zO,zO,zO,zO]]:kO))=tm (β:=R) (GS w79 p0) fun r=>(.normal,[(.ptr 0 0),false,p0,r],([.cells [zO,zO,zO,zO,zO,zO]]:kO)):=by
 cases w79 <;> simp [-rZ,-oZ,-oJ,-p5,-pV,-qX,-qY,LF,GS]
def LD (K:kT) (m:Nat) (t76:kN) (aB:kN) (aC:kN) (aA:kN) (aI:kO):Option R :=
 kV t76 (kZ m .normal [aB,aC,aA,t76] aI) (bo .eql aA (15:Int) fun t78=>(LF K (aa5 aI) t78 aB aC aA aI).bind fun aE=>(fun aF aG aH aD aJ=>Ex.pR aE.1 (kZ m .normal [aF,aG,aH,aD] aJ)) (gd aE.2.1 0) (gd aE.2.1 1) (gd aE.2.1 2) (gd aE.2.1 3) aE.2.2)
def GR (aA:Bool) (p0:Int):Option (Bool) :=
 tc aA (some aA) (tb (GS (decide (p0=15)) p0) fun aB=>some aB)
theorem abU (w77:Bool) (p0:Int):(LD KK 1 w77 (.ptr 0 0) false p0 ([.cells [zO,zO,zO,zO,zO,zO]]:kO))=tm (β:=R) (GR w77 p0) fun r=>(.normal,[(.ptr 0 0),false,p0,r],([.cells [zO,zO,zO,zO,zO,zO]]:kO)):=by
 cases w77 <;> simp [-rZ,-oZ,-oJ,-p5,-pV,-qX,-qY,LD,GR,abV]
def LC (K:kT) (m:Nat) (t74:kN) (aB:kN) (aC:kN) (aA:kN) (aH:kO):Option R :=
 kV t74 (kZ m .normal [aB,aC,aA,t74] aH) (bo .eql aA (14:Int) fun t76=>(LD K (aa5 aH) t76 aB aC aA aH).bind fun SN=>(fun aE aF aG aD aI=>Ex.pR SN.1 (kZ m .normal [aE,aF,aG,aD] aI)) (gd SN.2.1 0) (gd SN.2.1 1) (gd SN.2.1 2) (gd SN.2.1 3) SN.2.2)
def GQ (aA:Bool) (p0:Int):Option (Bool) :=
 tc aA (some aA) (tb (GR (decide (p0=14)) p0) fun SN=>some SN)
theorem abT (w75:Bool) (p0:Int):(LC KK 1 w75 (.ptr 0 0) false p0 ([.cells [zO,zO,zO,zO,zO,zO]]:kO))=tm (β:=R) (GQ w75 p0) fun r=>(.normal,[(.ptr 0 0),false,p0,r],([.cells [zO,zO,zO,zO,zO,zO]]:kO)):=by
 cases w75 <;> simp [-rZ,-oZ,-oJ,-p5,-pV,-qX,-qY,LC,GQ,abU]
def LB (K:kT) (m:Nat) (t72:kN) (aB:kN) (aC:kN) (aA:kN) (aH:kO):Option R :=
 kV t72 (kZ m .normal [aB,aC,aA,t72] aH) (bo .eql aA (13:Int) fun t74=>(LC K (aa5 aH) t74 aB aC aA aH).bind fun wV=>(fun aE aF aG aD aI=>Ex.pR wV.1 (kZ m .normal [aE,aF,aG,aD] aI)) (gd wV.2.1 0) (gd wV.2.1 1) (gd wV.2.1 2) (gd wV.2.1 3) wV.2.2)
def GP (aA:Bool) (p0:Int):Option (Bool) :=
 tc aA (some aA) (tb (GQ (decide (p0=13)) p0) fun wV=>some wV)
theorem abS (w73:Bool) (p0:Int):(LB KK 1 w73 (.ptr 0 0) false p0 ([.cells [zO,zO,zO,zO,zO,zO]]:kO))=tm (β:=R) (GP w73 p0) fun r=>(.normal,[(.ptr 0 0),false,p0,r],([.cells [zO,zO,zO,zO,zO,zO]]:kO)):=by
 cases w73 <;> simp [-rZ,-oZ,-oJ,-p5,-pV,-qX,-qY,LB,GP,abT]
def LA (K:kT) (m:Nat) (aK:kN) (aC:kN) (aD:kN) (aA:kN) (aJ:kO):Option R :=
 kV aK (kZ m .normal [aC,aD,aA,aK] aJ) (bo .eql aA (12:Int) fun t72=>(LB K (aa5 aJ) t72 aC aD aA aJ).bind fun aH=>(fun aE aF aG aB aI=>Ex.pR aH.1 (kZ m .normal [aE,aF,aG,aB] aI)) (gd aH.2.1 0) (gd aH.2.1 1) (gd aH.2.1 2) (gd aH.2.1 3) aH.2.2)
def GO (aA:Bool) (p0:Int):Option (Bool) :=
 tc aA (some aA) (tb (GP (decide (p0=12)) p0) fun aB=>some aB)
theorem abR (w71:Bool) (p0:Int):(LA KK 1 w71 (.ptr 0 0) false p0 ([.cells [zO,zO,zO,zO,zO,zO]]:kO))=tm (β:=R) (GO w71 p0) fun r=>(.normal,[(.ptr 0 0),false,p0,r],([.cells [zO,zO,zO,zO,zO,zO]]:kO)):=by
 cases w71 <;> simp [-rZ,-oZ,-oJ,-p5,-pV,-qX,-qY,LA,GO,abS]
def Lz (K:kT) (m:Nat) (t67:kN) (aC:kN) (aD:kN) (aA:kN) (aI:kO):Option R :=
 kV t67 (kZ m .normal [aC,aD,aA,t67] aI) (bo .eql aA (11:Int) fun aJ=>(LA K (aa5 aI) aJ aC aD aA aI).bind fun wT=>(fun aE aF aG aB aH=>Ex.pR wT.1 (kZ m .normal [aE,aF,aG,aB] aH)) (gd wT.2.1 0) (gd wT.2.1 1) (gd wT.2.1 2) (gd wT.2.1 3) wT.2.2)
def GN (aA:Bool) (p0:Int):Option (Bool) :=
 tc aA (some aA) (tb (GO (decide (p0=11)) p0) fun wT=>some wT)
theorem abQ (w69:Bool) (p0:Int):(Lz KK 1 w69 (.ptr 0 0) false p0 ([.cells [zO,zO,zO,zO,zO,zO]]:kO))=tm (β:=R) (GN w69 p0) fun r=>(.normal,[(.ptr 0 0),false,p0,r],([.cells [zO,zO,zO,zO,zO,zO]]:kO)):=by
 cases w69 <;> simp [-rZ,-oZ,-oJ,-p5,-pV,-qX,-qY,Lz,GN,abR]
def H2 (K:kT) (m:Nat) (t131:kN) (aB:kN) (aC:kN) (aA:kN) (aD:kO):Option R :=
 kV t131 (kZ m .normal [aB,aC,aA,t131] aD) (bo .eql aA (22:Int) fun aE=>kZ m .normal [aB,aC,aA,aE] aD)
def Ej (aA:Bool) (p0:Int):Option (Bool) :=
 tc aA (some aA) (some (decide (p0=22)))
theorem WQ (w132:Bool) (p0:Int):(H2 KK 1 w132 (.ptr 0 0) false p0 ([.cells [zO,zO,zO,zO,zO,zO]]:kO))=tm (β:=R) (Ej w132 p0) fun r=>(.normal,[(.ptr 0 0),false,p0,r],([.cells [zO,zO,zO,zO,zO,zO]]:kO)):=by
 cases w132 <;> simp [-rZ,-oZ,-oJ,-p5,-pV,-qX,-qY,H2,Ej]
def H0 (K:kT) (m:Nat) (t129:kN) (aC:kN) (aD:kN) (aA:kN) (aF:kO):Option R :=
 kV t129 (kZ m .normal [aC,aD,aA,t129] aF) (bo .eql aA (21:Int) fun t131=>(H2 K (aa5 aF) t131 aC aD aA aF).bind fun aB=>(fun aG aH aI aE aJ=>Ex.pR aB.1 (kZ m .normal [aG,aH,aI,aE] aJ)) (gd aB.2.1 0) (gd aB.2.1 1) (gd aB.2.1 2) (gd aB.2.1 3) aB.2.2)
def Ei (aA:Bool) (p0:Int):Option (Bool) :=
 tc aA (some aA) (tb (Ej (decide (p0=21)) p0) fun aB=>some aB)
theorem WO (w130:Bool) (p0:Int):(H0 KK 1 w130 (.ptr 0 0) false p0 ([.cells [zO,zO,zO,zO,zO,zO]]:kO))=tm (β:=R) (Ei w130 p0) fun r=>(.normal,[(.ptr 0 0),false,p0,r],([.cells [zO,zO,zO,zO,zO,zO]]:kO)):=by
 cases w130 <;> simp [-rZ,-oZ,-oJ,-p5,-pV,-qX,-qY,H0,Ei,WQ]
def LG (K:kT) (m:Nat) (t125:kN) (aB:kN) (aC:kN) (aA:kN) (aE:kO):Option R :=
 kV t125 (kZ m .normal [aB,aC,aA,t125] aE) (bo .eql aA (20:Int) fun t129=>(H0 K (aa5 aE) t129 aB aC aA aE).bind fun Gp=>(fun aF aG aH aD aI=>Ex.pR Gp.1 (kZ m .normal [aF,aG,aH,aD] aI)) (gd Gp.2.1 0) (gd Gp.2.1 1) (gd Gp.2.1 2) (gd Gp.2.1 3) Gp.2.2)
def GU (aA:Bool) (p0:Int):Option (Bool) :=
 tc aA (some aA) (tb (Ei (decide (p0=20)) p0) fun Gp=>some Gp)
theorem abW (w128:Bool) (p0:Int):(LG KK 1 w128 (.ptr 0 0) false p0 ([.cells [zO,zO,zO,zO,zO,zO]]:kO))=tm (β:=R) (GU w128 p0) fun r=>(.normal,[(.ptr 0 0),false,p0,r],([.cells [zO,zO,zO,zO,zO,zO]]:kO)):=by
 cases w128 <;> simp [-rZ,-oZ,-oJ,-p5,-pV,-qX,-qY,LG,GU,WO]
def au2 (K:kT) (a0:kN) (h0:kO):Option (mR×kO) :=
 (kW (lR 6 h0 (.agg [zO,zO,zO,zO,zO,zO])) fun aR aU=>bo .eql a0 (1:Int) fun bM=>kV bM ((lB [zO,zO,zO,zO,zO,zO] [(0,1),(1,1),(2,1),(3,1),(4,1),(5,1)] [(0,(-1:Int)),(1,(-1:Int)),(2,(-1:Int)),(3,(-1:Int)),(4,zO),(5,zO)]).bind fun bN=>(kR 6 aU aR bN).bind fun bG=>some (.ret,[aR,true],bG)) (bo .eql a0 (2:Int) fun bO=>kV bO ((lB [zO,zO,zO,zO,zO,zO] [(0,1),(1,1),(2,1),(3,1),(4,1),(5,1)] [(0,(-1:Int)),(1,(-1:Int)),(2,(-1:Int)),(3,(-1:Int)),(4,zO),(5,(255:Int))]).bind fun bP=>(kR 6 aU aR bP).bind fun bH=>some (.ret,[aR,true],bH)) (bo .eql a0 (3:Int) fun bQ=>(Lw K (aa5 aU) bQ aR a0 aU).bind fun CF=>(fun aD aS aH aM aV=>Ex.pR CF.1 (kV aM ((lB [zO,zO,zO,zO,zO,zO] [(0,1),(1,1),(2,1),(3,1),(4,1),(5,1)] [(0,(12:Int)),(1,(-1:Int)),(2,(-1:Int)),(3,(-1:Int)),(4,zO),(5,(65535:Int))]).bind fun bR=>(kR 6 aV aD bR).bind fun bI=>some (.ret,[aD,true],bI)) (bo .eql aH (5:Int) fun bS=>kV bS ((lB [zO,zO,zO,zO,zO,zO] [(0,1),(1,1),(2,1),(3,1),(4,1),(5,1)] [(0,(12:Int)),(1,(-1:Int)),(2,(12:Int)),(3,(-1:Int)),(4,zO),(5,(31:Int))]).bind fun t42=>(kR 6 aV aD t42).bind fun bJ=>some (.ret,[aD,true],bJ)) (bo .eql aH (6:Int) fun bT=>(Lx K (aa5 aV) bT aD aS aH aV).bind fun aQ=>(fun aE aT aI aN aW=>Ex.pR aQ.1 (kV aN ((lB [zO,zO,zO,zO,zO,zO] [(0,1),(1,1),(2,1),(3,1),(4,1),(5,1)] [(0,(12:Int)),(1,(-1:Int)),(2,(12:Int)),(3,(-1:Int)),(4,(1:Int)),(5,(31:Int))]).bind fun t62=>(kR 6 aW aE t62).bind fun bK=>some (.ret,[aE,true],bK)) (bo .eql aI (9:Int) fun t64=>kV t64 ((lB [zO,zO,zO,zO,zO,zO] [(0,1),(1,1),(2,1),(3,1),(4,1),(5,1)] [(0,(12:Int)),(1,(-1:Int)),(2,(12:Int)),(3,(-1:Int)),(4,zO),(5,zO)]).bind fun t65=>(kR 6 aW aE t65).bind fun bL=>some (.ret,[aE,true],bL)) (bo .eql aI (10:Int) fun t67=>(Lz K (aa5 aW) t67 aE aT aI aW).bind fun aF=>(fun aA aO aC aJ aG=>Ex.pR aF.1 (kV aJ ((lB [zO,zO,zO,zO,zO,zO] [(0,1),(1,1),(2,1),(3,1),(4,1),(5,1)] [(0,(12:Int)),(1,(12:Int)),(2,(12:Int)),(3,(-1:Int)),(4,zO),(5,zO)]).bind fun t117=>(kR 6 aG aA t117).bind fun aX=>some (.ret,[aA,true],aX)) (bo .eql aC (17:Int) fun bD=>kV bD ((lB [zO,zO,zO,zO,zO,zO] [(0,1),(1,1),(2,1),(3,1),(4,1),(5,1)] [(0,(12:Int)),(1,(12:Int)),(2,(12:Int)),(3,(12:Int)),(4,zO),(5,zO)]).bind fun bE=>(kR 6 aG aA bE).bind fun aY=>some (.ret,[aA,true],aY)) (bo .eql aC (18:Int) fun t122=>kV t122 ((lB [zO,zO,zO,zO,zO,zO] [(0,1),(1,1),(2,1),(3,1),(4,1),(5,1)] [(0,(12:Int)),(1,(12:Int)),(2,(-1:Int)),(3,(32:Int)),(4,zO),(5,(31:Int))]).bind fun t123=>(kR 6 aG aA t123).bind fun aZ=>some (.ret,[aA,true],aZ)) (bo .eql aC (19:Int) fun t125=>(LG K (aa5 aG) t125 aA aO aC aG).bind fun JS=>(fun aB bF aP aK aL=>Ex.pR JS.1 (kV aK ((lB [zO,zO,zO,zO,zO,zO] [(0,1),(1,1),(2,1),(3,1),(4,1),(5,1)] [(0,(7:Int)),(1,(7:Int)),(2,(-1:Int)),(3,(-1:Int)),(4,zO),(5,zO)]).bind fun t152=>(kR 6 aL aB t152).bind fun a_=>some (.ret,[aB,true],a_)) (bo .eql aP (23:Int) fun t154=>kV t154 ((lB [zO,zO,zO,zO,zO,zO] [(0,1),(1,1),(2,1),(3,1),(4,1),(5,1)] [(0,(-1:Int)),(1,(7:Int)),(2,(7:Int)),(3,(-1:Int)),(4,zO),(5,zO)]).bind fun t155=>(kR 6 aL aB t155).bind fun bA=>some (.ret,[aB,true],bA)) ((lB [zO,zO,zO,zO,zO,zO] [(0,1),(1,1),(2,1),(3,1),(4,1),(5,1)] []).bind fun t157=>(kR 6 aL aB t157).bind fun bB=>some (.ret,[aB,false],bB))))) (gd JS.2.1 0) (gd JS.2.1 1) (gd JS.2.1 2) (gd JS.2.1 3) JS.2.2))))) (gd aF.2.1 0) (gd aF.2.1 1) (gd aF.2.1 2) (gd aF.2.1 3) aF.2.2)))) (gd aQ.2.1 0) (gd aQ.2.1 1) (gd aQ.2.1 2) (gd aQ.2.1 3) aQ.2.2)))) (gd CF.2.1 0) (gd CF.2.1 1) (gd CF.2.1 2) (gd CF.2.1 3) CF.2.2))).bind (Wp (aa5 h0))
theorem ZS K a0 h0:nN K 115 [a0] h0=au2 (lG mJ K) a0 h0:=by kernel_rfl
def t115 (p0:Int):Option (Fm×Bool) :=
 tc (decide (p0=1)) (some ((⟨(-1),(-1),(-1),(-1),0,0⟩:Fm),true)) (tc (decide (p0=2)) (some ((⟨(-1),(-1),(-1),(-1),0,255⟩:Fm),true)) (tb (GK (decide (p0=3)) p0) fun CF=>tc CF (some ((⟨12,(-1),(-1),(-1),0,65535⟩:Fm),true)) (tc (decide (p0=5)) (some ((⟨12,(-1),12,(-1),0,31⟩:Fm),true)) (tb (GL (decide (p0=6)) p0) fun aB=>tc aB (some ((⟨12,(-1),12,(-1),1,31⟩:Fm),true)) (tc (decide (p0=9)) (some ((⟨12,(-1),12,(-1),0,0⟩:Fm),true)) (tb (GN (decide (p0=10)) p0) fun aA=>tc aA (some ((⟨12,12,12,(-1),0,0⟩:Fm),true)) (tc (decide (p0=17)) (some ((⟨12,12,12,12,0,0⟩:Fm),true)) (tc (decide (p0=18)) (some ((⟨12,12,(-1),32,0,31⟩:Fm),true)) (tb (GU (decide (p0=19)) p0) fun JS=>tc JS (some ((⟨7,7,(-1),(-1),0,0⟩:Fm),true)) (tc (decide (p0=23)) (some ((⟨(-1),7,7,(-1),0,0⟩:Fm),true)) (some ((⟨0,0,0,0,0,0⟩:Fm),false))))))))))))
theorem zH (p0:Int) (h:kO):KK 115 [p0] h=tm (t115 p0) fun r=>(.ret (.tuple [(.agg [r.1.rd,r.1.rn,r.1.rm,r.1.ra,r.1.least,r.1.most]),r.2]),h):=lJ rfl rfl (ZS ..) (by
 simp -implicitDefEqProofs (maxSteps:=2000000) [-rZ,-oZ,-oJ,-p5,-pV,-qX,-qY,au2,t115,abN,abO,abQ,abW,Wp])
def au4 (K:kT) (a0 a1:kN) (h0:kO):Option (mR×kO) :=
 (bo .eql a1 (-1:Int) fun aB=>kV aB (bo .eql a0 zO fun aC=>some (.ret,[aC],h0)) (ca (K 116 [(kN.kP a0),(kN.kP zO),(kN.kP a1)] h0) fun aD aA=>some (.ret,[aD],aA))).bind (mA (aa5 h0))
theorem ZU K a0 a1 h0:nN K 117 [a0,a1] h0=au4 (lG mJ K) a0 a1 h0:=by kernel_rfl
def t117 (p0:Int) (p1:Int):Option (Bool) :=
 tc (decide (p1=(-1))) (some (decide (p0=0))) (tb ((t116 p0 0 p1)) fun pY=>some pY)
theorem Gn (p0:Int) (p1:Int) (h:kO):KK 117 [p0,p1] h=tm (t117 p0 p1) fun r=>(.ret r,h):=lJ rfl rfl (ZU ..) (by
 simp [-rZ,-oZ,-oJ,-p5,-pV,-qX,-qY,au4,t117,AW,mA])
def RG (K:kT) (aB:kN) (aA:kO):Option R :=
 kV aB (some (.ret,[(2:Int)],aA)) (some (.ret,[zO],aA))
def Fx (aA:Bool):Option (Int) :=
 tc aA (some 2) (some 0)
theorem Az (w255:Bool) (p0:lL) (w64:Int) (w65:Int) (w66:Int) (w67:Int) (w68:Int) (w69:Int):((RG KK w255 ([.cells [p0.op,p0.rd,p0.rn,p0.rm,p0.ra,p0.imm,p0.cond,p0.wide],.cells [w64,w65,w66,w67,w68,w69]]:kO))).bind (mA 0)=tm (Fx w255) fun r=>(.ret r,[]):=by
 cases w255 <;> simp [-rZ,-oZ,-oJ,-p5,-pV,-qX,-qY,RG,Fx,Ib,zH,AW,Gn,mA]
def RF (K:kT) (aB:kN) (aQ:kN) (aF:kO):Option R :=
 gS false aB (fa 0 aQ fun aR=>lI aR aF) aF fun aS aC=>gS false aB (ld false 1 aC aS fun aT=>lI aT aC) aC fun aU aG=>gS false aB (bo .eql aU (18:Int) fun aV=>lI aV aG) aG fun aW aH=>gS false aB (lI aW aH) aH fun aA aI=>gS true aA (fa 4 aQ fun aX=>lI aX aI) aI fun aY aD=>gS true aA (ld false 1 aD aY fun aZ=>lI aZ aD) aD fun a_ aJ=>gS true aA (fa 5 aQ fun bA=>lI bA aJ) aJ fun bB aE=>gS true aA (ld false 1 aE bB fun bD=>lI bD aE) aE fun bE aK=>gS true aA (bo .sub (32:Int) bE fun bF=>lI bF aK) aK fun bG aL=>gS true aA (cg (K 116 [(kN.kP a_),(kN.kP (1:Int)),(kN.kP bG)] aL) fun bH aO=>lI bH aO) aL fun bI aM=>gS true aA ((vN .not bI).bind fun bJ=>lI bJ aM) aM fun bK aN=>gS false aB ((lH aA bK false).bind fun bL=>lI bL aN) aN fun bM aP=>(lH aB true bM).bind fun bN=>RG K bN aP
def IX (aB:Bool) (p0:lL):Option (Int) :=
 tc aB (Fx true) (tc (decide (p0.op=18)) (tb ((t116 p0.ra 1 (IntKind.wrap .i64 (32-p0.imm)))) fun aA=>Fx (!aA)) (Fx false))
theorem Bz (w214:Bool) (p0:lL) (w64:Int) (w65:Int) (w66:Int) (w67:Int) (w68:Int) (w69:Int):((RF KK w214 (.ptr 0 0) ([.cells [p0.op,p0.rd,p0.rn,p0.rm,p0.ra,p0.imm,p0.cond,p0.wide],.cells [w64,w65,w66,w67,w68,w69]]:kO))).bind (mA 0)=tm (IX w214 p0) fun r=>(.ret r,[]):=by
 cases w214 <;> simp +contextual [-rZ,-oZ,-oJ,-p5,-pV,-qX,-qY,RF,IX,Ib,zH,AW,Gn,mA,Az]
def RD (K:kT) (aI:kN) (aB:kO) (aG:kN):Option R :=
 kV aI (some (.ret,[(2:Int)],aB)) (fa 0 aG fun aJ=>ld false 1 aB aJ fun aK=>bo .eql aK (17:Int) fun aA=>gS true aA (fa 4 aG fun aL=>lI aL aB) aB fun aM aC=>gS true aA (ld false 1 aC aM fun aN=>lI aN aC) aC fun aO aE=>gS true aA (fa 1 aG fun aP=>lI aP aE) aE fun aQ aD=>gS true aA (ld false 1 aD aQ fun aR=>lI aR aD) aD fun aS aF=>gS true aA (bo .eql aO aS fun aT=>lI aT aF) aF fun aU aH=>(lH aA aU false).bind fun aV=>RF K aV aG aH)
def IW (aA:Bool) (p0:lL):Option (Int) :=
 tc aA (some 2) (tc (decide (p0.op=17)) (IX (decide (p0.ra=p0.rd)) p0) (IX false p0))
theorem CJ (w192:Bool) (p0:lL) (w64:Int) (w65:Int) (w66:Int) (w67:Int) (w68:Int) (w69:Int):((RD KK w192 ([.cells [p0.op,p0.rd,p0.rn,p0.rm,p0.ra,p0.imm,p0.cond,p0.wide],.cells [w64,w65,w66,w67,w68,w69]]:kO) (.ptr 0 0))).bind (mA 0)=tm (IW w192 p0) fun r=>(.ret r,[]):=by
 cases w192 <;> simp +contextual [-rZ,-oZ,-oJ,-p5,-pV,-qX,-qY,RD,IW,Ib,zH,AW,Gn,mA,Az,Bz]
def RB (K:kT) (aA:kN) (aW:kN) (aD:kO) (t49:kN):Option R :=
 gS false aA (fa 4 aW fun aJ=>lI aJ aD) aD fun aK aB=>gS false aA (ld false 1 aB aK fun aL=>lI aL aB) aB fun aM aE=>gS false aA (fa 3 t49 fun aN=>lI aN aE) aE fun aO aC=>gS false aA (ld false 1 aC aO fun aP=>lI aP aC) aC fun aQ aF=>gS false aA (cg (K 117 [(kN.kP aM),(kN.kP aQ)] aF) fun aR aH=>lI aR aH) aF fun aS aG=>gS false aA ((vN .not aS).bind fun aT=>lI aT aG) aG fun aU aI=>(lH aA true aU).bind fun aV=>RD K aV aI aW
def IV (aB:Bool) (p0:lL) (aC:Int):Option (Int) :=
 tc aB (IW true p0) (tb ((t117 p0.ra aC)) fun aA=>IW (!aA) p0)
theorem Fg (w168:Bool) (p0:lL) (w64:Int) (w65:Int) (w66:Int) (w67:Int) (w68:Int) (w69:Int):((RB KK w168 (.ptr 0 0) ([.cells [p0.op,p0.rd,p0.rn,p0.rm,p0.ra,p0.imm,p0.cond,p0.wide],.cells [w64,w65,w66,w67,w68,w69]]:kO) (.ptr 1 0))).bind (mA 0)=tm (IV w168 p0 w67) fun r=>(.ret r,[]):=by
 cases w168 <;> simp [-rZ,-oZ,-oJ,-p5,-pV,-qX,-qY,RB,IV,Ib,zH,AW,Gn,mA,Az,Bz,CJ]
def RA (K:kT) (t141:kN) (aM:kN) (aC:kO) (t49:kN):Option R :=
 gS false t141 (fa 3 aM fun t145=>lI t145 aC) aC fun t146 aA=>gS false t141 (ld false 1 aA t146 fun t148=>lI t148 aA) aA fun t149 aD=>gS false t141 (fa 2 t49 fun t151=>lI t151 aD) aD fun t152 aB=>gS false t141 (ld false 1 aB t152 fun t154=>lI t154 aB) aB fun t155 aE=>gS false t141 (cg (K 117 [(kN.kP t149),(kN.kP t155)] aE) fun t157 aG=>lI t157 aG) aE fun aI aF=>gS false t141 ((vN .not aI).bind fun aJ=>lI aJ aF) aF fun aK aH=>(lH t141 true aK).bind fun aL=>RB K aL aM aH t49
def IU (aB:Bool) (p0:lL) (aD:Int) (aC:Int):Option (Int) :=
 tc aB (IV true p0 aC) (tb ((t117 p0.rm aD)) fun aA=>IV (!aA) p0 aC)
theorem Ii (w144:Bool) (p0:lL) (w64:Int) (w65:Int) (w66:Int) (w67:Int) (w68:Int) (w69:Int):((RA KK w144 (.ptr 0 0) ([.cells [p0.op,p0.rd,p0.rn,p0.rm,p0.ra,p0.imm,p0.cond,p0.wide],.cells [w64,w65,w66,w67,w68,w69]]:kO) (.ptr 1 0))).bind (mA 0)=tm (IU w144 p0 w66 w67) fun r=>(.ret r,[]):=by
 cases w144 <;> simp [-rZ,-oZ,-oJ,-p5,-pV,-qX,-qY,RA,IU,Ib,zH,AW,Gn,mA,Az,Bz,CJ,Fg]
def Rz (K:kT) (t109:kN) (aB:kO) (aN:kN) (t49:kN):Option R :=
 kV t109 (some (.ret,[(2:Int)],aB)) (fa 1 aN fun aK=>ld false 1 aB aK fun t114=>fa 0 t49 fun t115=>ld false 1 aB t115 fun t116=>ca (K 117 [(kN.kP t114),(kN.kP t116)] aB) fun t117 aE=>(vN .not t117).bind fun aA=>gS false aA (fa 2 aN fun t121=>lI t121 aE) aE fun t122 aC=>gS false aA (ld false 1 aC t122 fun t124=>lI t124 aC) aC fun t125 aF=>gS false aA (fa 1 t49 fun aL=>lI aL aF) aF fun t128 aD=>gS false aA (ld false 1 aD t128 fun t130=>lI t130 aD) aD fun t131 aG=>gS false aA (cg (K 117 [(kN.kP t125),(kN.kP t131)] aG) fun aM aI=>lI aM aI) aG fun t136 aH=>gS false aA ((vN .not t136).bind fun t138=>lI t138 aH) aH fun t139 aJ=>(lH aA true t139).bind fun t141=>RA K t141 aN aJ t49)
def IT (aC:Bool) (p0:lL) (aF:Int) (aG:Int) (aD:Int) (aE:Int):Option (Int) :=
 tc aC (some 2) (tb ((t117 p0.rd aF)) fun aA=>tc (!aA) (IU true p0 aD aE) (tb ((t117 p0.rn aG)) fun aB=>IU (!aB) p0 aD aE))
theorem Nc (w112:Bool) (p0:lL) (w64:Int) (w65:Int) (w66:Int) (w67:Int) (w68:Int) (w69:Int):((Rz KK w112 ([.cells [p0.op,p0.rd,p0.rn,p0.rm,p0.ra,p0.imm,p0.cond,p0.wide],.cells [w64,w65,w66,w67,w68,w69]]:kO) (.ptr 0 0) (.ptr 1 0))).bind (mA 0)=tm (IT w112 p0 w64 w65 w66 w67) fun r=>(.ret r,[]):=by
 cases w112 <;> simp +contextual [-rZ,-oZ,-oJ,-p5,-pV,-qX,-qY,Rz,IT,Ib,zH,AW,Gn,mA,Az,Bz,CJ,Fg,Ii]
def Ry (K:kT) (aA:kN) (aL:kN) (aI:kO) (t49:kN):Option R :=
 gS false aA (fa 5 aL fun aM=>lI aM aI) aI fun aN aF=>gS false aA (ld false 1 aF aN fun aO=>lI aO aF) aF fun t87 aJ=>gS false aA (fa 4 t49 fun t89=>lI t89 aJ) aJ fun t90 aG=>gS false aA (ld false 1 aG t90 fun t92=>lI t92 aG) aG fun t93 aK=>gS false aA (fa 5 t49 fun t95=>lI t95 aK) aK fun t96 aH=>gS false aA (ld false 1 aH t96 fun t98=>lI t98 aH) aH fun aP aB=>gS false aA (cg (K 116 [(kN.kP t87),(kN.kP t93),(kN.kP aP)] aB) fun t101 aD=>lI t101 aD) aB fun t104 aC=>gS false aA ((vN .not t104).bind fun t106=>lI t106 aC) aC fun t107 aE=>(lH aA true t107).bind fun t109=>Rz K t109 aE aL t49
def IS (aG:Bool) (p0:lL) (aA:Int) (aB:Int) (aC:Int) (aD:Int) (aE:Int) (aF:Int):Option (Int) :=
 tc aG (IT true p0 aA aB aC aD) (tb ((t116 p0.imm aE aF)) fun UR=>IT (!UR) p0 aA aB aC aD)
theorem SM (w82:Bool) (p0:lL) (w64:Int) (w65:Int) (w66:Int) (w67:Int) (w68:Int) (w69:Int):((Ry KK w82 (.ptr 0 0) ([.cells [p0.op,p0.rd,p0.rn,p0.rm,p0.ra,p0.imm,p0.cond,p0.wide],.cells [w64,w65,w66,w67,w68,w69]]:kO) (.ptr 1 0))).bind (mA 0)=tm (IS w82 p0 w64 w65 w66 w67 w68 w69) fun r=>(.ret r,[]):=by
 cases w82 <;> simp [-rZ,-oZ,-oJ,-p5,-pV,-qX,-qY,Ry,IS,Ib,zH,AW,Gn,mA,Az,Bz,CJ,Fg,Ii,Nc]
def Rx (K:kT) (aA:kN) (aE:kN) (aC:kO) (t49:kN):Option R :=
 gS false aA (fa 6 aE fun aG=>lI aG aC) aC fun t71 aB=>gS false aA (ld false 1 aB t71 fun t73=>lI t73 aB) aB fun t74 aD=>gS false aA (bo .neq t74 zO fun t76=>lI t76 aD) aD fun t77 aF=>(lH aA true t77).bind fun aH=>Ry K aH aE aF t49
def IQ (aG:Bool) (p0:lL) (aA:Int) (aB:Int) (aC:Int) (aD:Int) (aE:Int) (aF:Int):Option (Int) :=
 tc aG (IS true p0 aA aB aC aD aE aF) (IS (!decide (p0.cond=0)) p0 aA aB aC aD aE aF)
theorem Xh (w62:Bool) (p0:lL) (w64:Int) (w65:Int) (w66:Int) (w67:Int) (w68:Int) (w69:Int):((Rx KK w62 (.ptr 0 0) ([.cells [p0.op,p0.rd,p0.rn,p0.rm,p0.ra,p0.imm,p0.cond,p0.wide],.cells [w64,w65,w66,w67,w68,w69]]:kO) (.ptr 1 0))).bind (mA 0)=tm (IQ w62 p0 w64 w65 w66 w67 w68 w69) fun r=>(.ret r,[]):=by
 cases w62 <;> simp [-rZ,-oZ,-oJ,-p5,-pV,-qX,-qY,Rx,IQ,Ib,zH,AW,Gn,mA,Az,Bz,CJ,Fg,Ii,Nc,SM]
def Rv (K:kT) (aJ:kN) (aA:kO) (aB:kN):Option R :=
 kV aJ (ld true 8 aA aB fun t38=>ca (K 114 [(kN.kP t38)] aA) fun aK aF=>some (.ret,[aK],aF)) (fa 0 aB fun t42=>ld false 1 aA t42 fun aL=>ca (K 115 [(kN.kP aL)] aA) fun aE aG=>(lC 0 aE).bind fun aM=>(lC 1 aE).bind fun t48=>kW (lR 6 aG (.agg [zO,zO,zO,zO,zO,zO])) fun t49 aH=>(kR 6 aH t49 aM).bind fun aD=>(vN .not t48).bind fun t52=>gS false t52 (fa 7 aB fun t53=>lI t53 aD) aD fun t54 aC=>gS false t52 (ld false 1 aC t54 fun aN=>lI aN aC) aC fun t57 aI=>(lH t52 true t57).bind fun aO=>Rx K aO aB aI t49)
def IP (aB:Bool) (p0:lL):Option (Int) :=
 tc aB (tb ((t114 p0)) fun aA=>some aA) (tb ((t115 p0.op)) fun AY=>tc (!AY.2) (IQ true p0 AY.1.rd AY.1.rn AY.1.rm AY.1.ra AY.1.least AY.1.most) (IQ p0.wide p0 AY.1.rd AY.1.rn AY.1.rm AY.1.ra AY.1.least AY.1.most))
theorem anI (w37:Bool) (p0:lL):((Rv KK w37 ([.cells [p0.op,p0.rd,p0.rn,p0.rm,p0.ra,p0.imm,p0.cond,p0.wide]]:kO) (.ptr 0 0))).bind (mA 0)=tm (IP w37 p0) fun r=>(.ret r,[]):=by
 cases w37 <;> simp +contextual [-rZ,-oZ,-oJ,-p5,-pV,-qX,-qY,Rv,IP,Ib,zH,AW,Gn,mA,Az,Bz,CJ,Fg,Ii,Nc,SM,Xh]
def m80 (K:kT) (a0:kN) (h0:kO):Option (mR×kO) :=
 (kW (lR 8 h0 a0) fun aC aA=>fa 0 aC fun aF=>ld false 1 aA aF fun aG=>bo .eql aG (24:Int) fun t24=>gS false t24 (fa 0 aC fun aH=>lI aH aA) aA fun aI aB=>gS false t24 (ld false 1 aB aI fun aJ=>lI aJ aB) aB fun t29 aD=>gS false t24 (bo .eql t29 (25:Int) fun t31=>lI t31 aD) aD fun t32 aE=>(lH t24 true t32).bind fun aK=>Rv K aK aE aC).bind (mA (aa5 h0))
theorem ak7 K a0 h0:nN K 80 [a0] h0=m80 (lG mJ K) a0 h0:=by kernel_rfl
def t80 (p0:lL):Option (Int) :=
 tc (decide (p0.op=24)) (IP true p0) (IP (decide (p0.op=25)) p0)
theorem r80 (p0:lL) (h:kO):KK 80 [(.agg [p0.op,p0.rd,p0.rn,p0.rm,p0.ra,p0.imm,p0.cond,p0.wide])] h=tm (t80 p0) fun r=>(.ret r,h):=lJ rfl rfl (ak7 ..) (by
 simp +contextual [-rZ,-oZ,-oJ,-p5,-pV,-qX,-qY,m80,t80,Ib,zH,AW,Gn,mA,Az,Bz,CJ,Fg,Ii,Nc,SM,Xh,anI])
end
end
noncomputable section
open Go Hk
section
set_option maxHeartbeats 8000000
def avD (K:kT) (a0:kN) (h0:kO):Option (mR×kO) :=
 (bo .eql a0 (13:Int) fun aA=>kV aA (some (.ret,[(.str [49,49,49,48,49,48,49,48,49,48,48,48,110,110,110,110,48,48,48,48,100,100,100,100,48,48,48,48,109,109,109,109])],h0)) (bo .eql a0 (14:Int) fun aB=>kV aB (some (.ret,[(.str [49,49,49,48,49,48,49,49,48,48,48,48,110,110,110,110,48,48,48,48,100,100,100,100,48,48,48,48,109,109,109,109])],h0)) (bo .eql a0 (15:Int) fun aC=>kV aC (some (.ret,[(.str [49,49,49,48,49,48,49,49,49,48,49,48,110,110,110,110,48,48,48,48,100,100,100,100,48,48,48,48,109,109,109,109])],h0)) (bo .eql a0 (16:Int) fun aD=>kV aD (some (.ret,[(.str [49,49,49,49,49,48,49,49,48,48,48,48,110,110,110,110,49,49,49,49,100,100,100,100,48,48,48,48,109,109,109,109])],h0)) (bo .eql a0 (17:Int) fun t24=>kV t24 (some (.ret,[(.str [49,49,49,49,49,48,49,49,49,48,49,48,110,110,110,110,100,100,100,100,97,97,97,97,48,48,48,48,109,109,109,109])],h0)) (bo .eql a0 (18:Int) fun aE=>kV aE (some (.ret,[(.str [49,49,49,49,48,48,49,49,48,49,49,48,110,110,110,110,48,69,68,67,100,100,100,100,66,65,48,119,119,119,119,119])],h0)) (bo .eql a0 (19:Int) fun aF=>kV aF (some (.ret,[(.str [48,49,49,48,49,48,48,48,48,48,110,110,110,100,100,100])],h0)) (bo .eql a0 (20:Int) fun t27=>kV t27 (some (.ret,[(.str [48,49,49,48,48,48,48,48,48,48,110,110,110,100,100,100])],h0)) (bo .eql a0 (21:Int) fun aG=>kV aG (some (.ret,[(.str [48,49,49,49,49,48,48,48,48,48,110,110,110,100,100,100])],h0)) (bo .eql a0 (22:Int) fun t29=>kV t29 (some (.ret,[(.str [48,49,49,49,48,48,48,48,48,48,110,110,110,100,100,100])],h0)) (bo .eql a0 (23:Int) fun aH=>kV aH (some (.ret,[(.str [48,49,48,48,48,48,49,48,49,48,109,109,109,110,110,110])],h0)) (bo .eql a0 (24:Int) fun t31=>kV t31 (some (.ret,[(.str [49,49,49,48,48,76,75,74,73,72,71,70,69,68,67,66])],h0)) (bo .eql a0 (25:Int) fun t32=>kV t32 (some (.ret,[(.str [49,49,48,49,99,99,99,99,73,72,71,70,69,68,67,66])],h0)) (some (.ret,[(.str [])],h0))))))))))))))).bind (mA (aa5 h0))
theorem Z5 K a0 h0:nN K 128 [a0] h0=avD (lG mJ K) a0 h0:=by kernel_rfl
def t128 (p0:Int):Option ((List UInt8)) :=
 tc (decide (p0=13)) (some [49,49,49,48,49,48,49,48,49,48,48,48,110,110,110,110,48,48,48,48,100,100,100,100,48,48,48,48,109,109,109,109]) (tc (decide (p0=14)) (some [49,49,49,48,49,48,49,49,48,48,48,48,110,110,110,110,48,48,48,48,100,100,100,100,48,48,48,48,109,109,109,109]) (tc (decide (p0=15)) (some [49,49,49,48,49,48,49,49,49,48,49,48,110,110,110,110,48,48,48,48,100,100,100,100,48,48,48,48,109,109,109,109]) (tc (decide (p0=16)) (some [49,49,49,49,49,48,49,49,48,48,48,48,110,110,110,110,49,49,49,49,100,100,100,100,48,48,48,48,109,109,109,109]) (tc (decide (p0=17)) (some [49,49,49,49,49,48,49,49,49,48,49,48,110,110,110,110,100,100,100,100,97,97,97,97,48,48,48,48,109,109,109,109]) (tc (decide (p0=18)) (some [49,49,49,49,48,48,49,49,48,49,49,48,110,110,110,110,48,69,68,67,100,100,100,100,66,65,48,119,119,119,119,119]) (tc (decide (p0=19)) (some [48,49,49,48,49,48,48,48,48,48,110,110,110,100,100,100]) (tc (decide (p0=20)) (some [48,49,49,48,48,48,48,48,48,48,110,110,110,100,100,100]) (tc (decide (p0=21)) (some [48,49,49,49,49,48,48,48,48,48,110,110,110,100,100,100]) (tc (decide (p0=22)) (some [48,49,49,49,48,48,48,48,48,48,110,110,110,100,100,100]) (tc (decide (p0=23)) (some [48,49,48,48,48,48,49,48,49,48,109,109,109,110,110,110]) (tc (decide (p0=24)) (some [49,49,49,48,48,76,75,74,73,72,71,70,69,68,67,66]) (tc (decide (p0=25)) (some [49,49,48,49,99,99,99,99,73,72,71,70,69,68,67,66]) (some [])))))))))))))
theorem al8 (p0:Int) (h:kO):KK 128 [p0] h=tm (t128 p0) fun r=>(.ret r,h):=lJ rfl rfl (Z5 ..) (by
 simp -implicitDefEqProofs (maxSteps:=2000000) [-rZ,-oZ,-oJ,-p5,-pV,-qX,-qY,avD,t128,mA])
def m90 (K:kT) (a0 a1:kN) (h0:kO):Option (mR×kO) :=
 (kV a1 (bo .eql a0 (24:Int) fun aB=>kV aB (some (.ret,[(.str [49,49,49,49,48,89,86,85,84,83,82,81,80,79,78,77,49,48,120,49,121,76,75,74,73,72,71,70,69,68,67,66])],h0)) (bo .eql a0 (25:Int) fun aC=>kV aC (some (.ret,[(.str [49,49,49,49,48,85,99,99,99,99,82,81,80,79,78,77,49,48,83,48,84,76,75,74,73,72,71,70,69,68,67,66])],h0)) (some (.ret,[(.str [])],h0)))) (bo .eql a0 (1:Int) fun aD=>kV aD (some (.ret,[(.str [49,48,49,49,49,49,49,49,48,48,48,48,48,48,48,48])],h0)) (bo .eql a0 (2:Int) fun aE=>kV aE (some (.ret,[(.str [49,48,49,49,49,49,49,48,72,71,70,69,68,67,66,65])],h0)) (bo .eql a0 (3:Int) fun t24=>kV t24 (some (.ret,[(.str [49,49,49,49,48,76,49,48,48,49,48,48,80,79,78,77,48,75,74,73,100,100,100,100,72,71,70,69,68,67,66,65])],h0)) (bo .eql a0 (4:Int) fun aF=>kV aF (some (.ret,[(.str [49,49,49,49,48,76,49,48,49,49,48,48,80,79,78,77,48,75,74,73,100,100,100,100,72,71,70,69,68,67,66,65])],h0)) (bo .eql a0 (5:Int) fun aG=>kV aG (some (.ret,[(.str [49,49,49,48,49,48,49,48,48,49,48,48,49,49,49,49,48,69,68,67,100,100,100,100,66,65,48,48,109,109,109,109])],h0)) (bo .eql a0 (6:Int) fun t27=>kV t27 (some (.ret,[(.str [49,49,49,48,49,48,49,48,48,49,48,48,49,49,49,49,48,69,68,67,100,100,100,100,66,65,48,49,109,109,109,109])],h0)) (bo .eql a0 (7:Int) fun aH=>kV aH (some (.ret,[(.str [49,49,49,48,49,48,49,48,48,49,48,48,49,49,49,49,48,69,68,67,100,100,100,100,66,65,49,48,109,109,109,109])],h0)) (bo .eql a0 (8:Int) fun t29=>kV t29 (some (.ret,[(.str [49,49,49,48,49,48,49,48,48,49,48,48,49,49,49,49,48,69,68,67,100,100,100,100,66,65,49,49,109,109,109,109])],h0)) (bo .eql a0 (9:Int) fun aI=>kV aI (some (.ret,[(.str [49,49,49,48,49,48,49,48,48,49,49,48,49,49,49,49,48,48,48,48,100,100,100,100,48,48,48,48,109,109,109,109])],h0)) (bo .eql a0 (10:Int) fun t31=>kV t31 (some (.ret,[(.str [49,49,49,48,49,48,49,48,48,48,48,48,110,110,110,110,48,48,48,48,100,100,100,100,48,48,48,48,109,109,109,109])],h0)) (bo .eql a0 (11:Int) fun t32=>kV t32 (some (.ret,[(.str [49,49,49,48,49,48,49,48,48,48,49,48,110,110,110,110,48,48,48,48,100,100,100,100,48,48,48,48,109,109,109,109])],h0)) (bo .eql a0 (12:Int) fun t33=>kV t33 (some (.ret,[(.str [49,49,49,48,49,48,49,48,48,49,48,48,110,110,110,110,48,48,48,48,100,100,100,100,48,48,48,48,109,109,109,109])],h0)) (ca (K 128 [(kN.kP a0)] h0) fun aJ aA=>some (.ret,[aJ],aA))))))))))))))).bind (mA (aa5 h0))
theorem alH K a0 a1 h0:nN K 90 [a0,a1] h0=m90 (lG mJ K) a0 a1 h0:=by kernel_rfl
def t90 (p0:Int) (p1:Bool):Option ((List UInt8)) :=
 tc p1 (tc (decide (p0=24)) (some [49,49,49,49,48,89,86,85,84,83,82,81,80,79,78,77,49,48,120,49,121,76,75,74,73,72,71,70,69,68,67,66]) (tc (decide (p0=25)) (some [49,49,49,49,48,85,99,99,99,99,82,81,80,79,78,77,49,48,83,48,84,76,75,74,73,72,71,70,69,68,67,66]) (some []))) (tc (decide (p0=1)) (some [49,48,49,49,49,49,49,49,48,48,48,48,48,48,48,48]) (tc (decide (p0=2)) (some [49,48,49,49,49,49,49,48,72,71,70,69,68,67,66,65]) (tc (decide (p0=3)) (some [49,49,49,49,48,76,49,48,48,49,48,48,80,79,78,77,48,75,74,73,100,100,100,100,72,71,70,69,68,67,66,65]) (tc (decide (p0=4)) (some [49,49,49,49,48,76,49,48,49,49,48,48,80,79,78,77,48,75,74,73,100,100,100,100,72,71,70,69,68,67,66,65]) (tc (decide (p0=5)) (some [49,49,49,48,49,48,49,48,48,49,48,48,49,49,49,49,48,69,68,67,100,100,100,100,66,65,48,48,109,109,109,109]) (tc (decide (p0=6)) (some [49,49,49,48,49,48,49,48,48,49,48,48,49,49,49,49,48,69,68,67,100,100,100,100,66,65,48,49,109,109,109,109]) (tc (decide (p0=7)) (some [49,49,49,48,49,48,49,48,48,49,48,48,49,49,49,49,48,69,68,67,100,100,100,100,66,65,49,48,109,109,109,109]) (tc (decide (p0=8)) (some [49,49,49,48,49,48,49,48,48,49,48,48,49,49,49,49,48,69,68,67,100,100,100,100,66,65,49,49,109,109,109,109]) (tc (decide (p0=9)) (some [49,49,49,48,49,48,49,48,48,49,49,48,49,49,49,49,48,48,48,48,100,100,100,100,48,48,48,48,109,109,109,109]) (tc (decide (p0=10)) (some [49,49,49,48,49,48,49,48,48,48,48,48,110,110,110,110,48,48,48,48,100,100,100,100,48,48,48,48,109,109,109,109]) (tc (decide (p0=11)) (some [49,49,49,48,49,48,49,48,48,48,49,48,110,110,110,110,48,48,48,48,100,100,100,100,48,48,48,48,109,109,109,109]) (tc (decide (p0=12)) (some [49,49,49,48,49,48,49,48,48,49,48,48,110,110,110,110,48,48,48,48,100,100,100,100,48,48,48,48,109,109,109,109]) (tb ((t128 p0)) fun Co=>some Co)))))))))))))
theorem Eu (p0:Int) (p1:Bool) (h:kO):KK 90 [p0,p1] h=tm (t90 p0 p1) fun r=>(.ret r,h):=lJ rfl rfl (alH ..) (by
 simp -implicitDefEqProofs (maxSteps:=2000000) [-rZ,-oZ,-oJ,-p5,-pV,-qX,-qY,m90,t90,al8,mA])
def GA (K:kT) (m:Nat) (s:List kN×kO):Option R :=
 (fun aA aC aD aB aE=>(nG aA).bind fun aF=>bo .lss aB aF fun t27=>kV t27 ((mS aA aB).bind fun aG=>bo .eql aG aC fun aH=>kV aH (kZ m .ret [aA,aC,true,aB] aE) (bo .add aB (1:Int) fun t31=>kZ m .normal [aA,aC,aD,t31] aE)) (kZ m (.exit 0) [aA,aC,aD,aB] aE)) (gd s.1 0) (gd s.1 1) (gd s.1 2) (gd s.1 3) s.2
def yV (p0:(List UInt8)) (p1:Int) (oA:Bool×Int):Option (Ey×Bool×Int) :=
 tc (decide (oA.2<((p0.length:Nat):Int))) (tb ((uU p0 oA.2)) fun aA=>tc (decide (aA=p1)) (some (.r,(true,oA.2))) (some (.n,(oA.1,(IntKind.wrap .i64 (oA.2+1)))))) (some ((.x 0),(oA.1,oA.2)))
theorem YR (p0:(List UInt8)) (p1:Int) (oA:Bool×Int):GA KK 0 ([p0,(.int .u8 p1),oA.1,oA.2],([]:kO))=tm (β:=R) (yV p0 p1 oA) fun r=>(r.1.ex,[p0,(.int .u8 p1),r.2.1,r.2.2],([]:kO)):=by
 simp [-rZ,-oZ,-oJ,-p5,-pV,-qX,-qY,GA,yV]
theorem ab2 (p0:(List UInt8)) (p1:Int) (i2:Bool) (i3:Int):nP (GA KK 0) ([p0,(.int .u8 p1),i2,i3],([]:kO))=tm (β:=R) (rX (yV p0 p1) (i2,i3)) fun r=>(r.1.ex,[p0,(.int .u8 p1),r.2.1,r.2.2],([]:kO)):=by
 exact uE (enc:=fun oA=>([(.str p0),(.int .u8 p1),(.bool oA.1),(.int .i64 oA.2)],([]:kO))) (fun oA=>YR p0 p1 oA) (i2,i3)
def avE (K:kT) (a0 a1:kN) (h0:kO):Option (mR×kO) :=
 ((nP (GA K (aa5 h0)) ([a0,a1,false,zO],h0)).bind fun xG=>(fun aC aD aA aE aB=>Ex.l_ xG.1 none (fun aF=>Ex.inBlock 0 aF (some (.ret,[false],aB)) (fun aG=>some (aG,[aA],aB)))) (gd xG.2.1 0) (gd xG.2.1 1) (gd xG.2.1 2) (gd xG.2.1 3) xG.2.2).bind (mA (aa5 h0))
theorem Z6 K a0 a1 h0:nN K 129 [a0,a1] h0=avE (lG mJ K) a0 a1 h0:=by kernel_rfl
def t129 (p0:(List UInt8)) (p1:Int):Option (Bool) :=
 tb (rX (yV p0 p1) (false,0)) fun xG=>uL xG.1 none fun aA=>vO 0 aA (some false) fun aB=>Ao aB (some xG.2.1)
theorem US (p0:(List UInt8)) (p1:Int) (h:kO):KK 129 [p0,(.int .u8 p1)] h=tm (t129 p0 p1) fun r=>(.ret r,h):=lJ rfl rfl (Z6 ..) (by
 simp [-rZ,-oZ,-oJ,-p5,-pV,-qX,-qY,avE,t129,ab2,mA])
def Sd (K:kT) (m:Nat) (aB:kN) (a2:kN) (aA:kO):Option R :=
 kV aB (kZ m .normal [a2,false,(7:Int)] aA) (kZ m .normal [a2,false,(12:Int)] aA)
def N5 (aA:Bool):Option (Int) :=
 tc aA (some 7) (some 12)
theorem Xj (w29:Bool) (p2:Int):(Sd KK 0 w29 p2 ([]:kO))=tm (β:=R) (N5 w29) fun r=>(.normal,[p2,false,r],([]:kO)):=by
 cases w29 <;> simp [-rZ,-oZ,-oJ,-p5,-pV,-qX,-qY,Sd,N5]
def Se (K:kT) (aB:kN) (aA:kO):Option R :=
 some (.ret,[aB],aA)
def IY (aA:Bool):Option (Bool) :=
 some aA
theorem aoG (w46:Bool):((Se KK w46 ([]:kO))).bind (mA 0)=tm (IY w46) fun r=>(.ret r,[]):=by
 cases w46 <;> simp [-rZ,-oZ,-oJ,-p5,-pV,-qX,-qY,Se,IY,US,Xj,mA]
def m95 (K:kT) (a0 a1 a2:kN) (h0:kO):Option (mR×kO) :=
 (ca (K 129 [(kN.kP a0),(kN.kP a1)] h0) fun aJ aD=>(vN .not aJ).bind fun aK=>kV aK (bo .eql a2 zO fun t24=>some (.ret,[t24],aD)) ((nG a0).bind fun aL=>bo .eql aL (16:Int) fun aM=>(Sd K (aa5 aD) aM a2 aD).bind fun aB=>(fun aA aH aC aE=>Ex.pR aB.1 (bo .geq aA zO fun t35=>gS true t35 (lI aA aE) aE fun t36 aF=>gS true t35 (lI aC aF) aF fun t38 aG=>gS true t35 (bo .leq t36 t38 fun aN=>lI aN aG) aG fun aO aI=>(lH t35 aO false).bind fun aP=>Se K aP aI)) (gd aB.2.1 0) (gd aB.2.1 1) (gd aB.2.1 2) aB.2.2)).bind (mA (aa5 h0))
theorem alM K a0 a1 a2 h0:nN K 95 [a0,a1,a2] h0=m95 (lG mJ K) a0 a1 a2 h0:=by kernel_rfl
def t95 (p0:(List UInt8)) (p1:Int) (p2:Int):Option (Bool) :=
 tb ((t129 p0 p1)) fun aA=>tc (!aA) (some (decide (p2=0))) (tb (N5 (decide (((p0.length:Nat):Int)=16))) fun aB=>tc (decide (0≤p2)) (IY (decide (p2≤aB))) (IY false))
theorem SO (p0:(List UInt8)) (p1:Int) (p2:Int) (h:kO):KK 95 [p0,(.int .u8 p1),p2] h=tm (t95 p0 p1 p2) fun r=>(.ret r,h):=lJ rfl rfl (alM ..) (by
 simp +contextual [-rZ,-oZ,-oJ,-p5,-pV,-qX,-qY,m95,t95,US,Xj,mA,aoG])
def Si (K:kT) (m:Nat) (t42:kN) (aA:kO):Option R :=
 kV t42 (kZ m .normal [zO,zO,(1048576:Int)] aA) (kZ m .normal [zO,zO,zO] aA)
def N9 (aA:Bool):Option (Int) :=
 tc aA (some 1048576) (some 0)
theorem aoI (w43:Bool):(Si KK 0 w43 ([]:kO))=tm (β:=R) (N9 w43) fun r=>(.normal,[zO,zO,r],([]:kO)):=by
 cases w43 <;> simp [-rZ,-oZ,-oJ,-p5,-pV,-qX,-qY,Si,N9]
def Sh (K:kT) (m:Nat) (t38:kN) (aE:kO) (a0:kN):Option R :=
 kV t38 (kZ m .normal [zO,zO,(256:Int)] aE) (bo .eql a0 (25:Int) fun t42=>(Si K (aa5 aE) t42 aE).bind fun aA=>(fun aB aC aD aF=>Ex.pR aA.1 (kZ m .normal [aB,aC,aD] aF)) (gd aA.2.1 0) (gd aA.2.1 1) (gd aA.2.1 2) aA.2.2)
def N8 (aB:Bool) (p0:Int):Option (Int) :=
 tc aB (some 256) (tb (N9 (decide (p0=25))) fun aA=>some aA)
theorem Xl (w41:Bool) (p0:Int):(Sh KK 0 w41 ([]:kO) p0)=tm (β:=R) (N8 w41 p0) fun r=>(.normal,[zO,zO,r],([]:kO)):=by
 cases w41 <;> simp [-rZ,-oZ,-oJ,-p5,-pV,-qX,-qY,Sh,N8,aoI]
def Sk (K:kT) (m:Nat) (aD:kO) (t38:kN) (a0:kN):Option R :=
 (Sh K (aa5 aD) t38 aD a0).bind fun Ph=>(fun aA aB aC aE=>Ex.pR Ph.1 (kZ m .normal [aA,aB,aC] aE)) (gd Ph.2.1 0) (gd Ph.2.1 1) (gd Ph.2.1 2) Ph.2.2
def I0 (aA:Bool) (p0:Int):Option (Int) :=
 tb (N8 aA p0) fun Ph=>some Ph
theorem aoK (w41:Bool) (p0:Int):(Sk KK 0 ([]:kO) w41 p0)=tm (β:=R) (I0 w41 p0) fun r=>(.normal,[zO,zO,r],([]:kO)):=by
 cases w41 <;> simp [-rZ,-oZ,-oJ,-p5,-pV,-qX,-qY,Sk,I0,Xl]
def Sg (K:kT) (m:Nat) (aD:kN) (aA:kO) (a0:kN) (a1:kN):Option R :=
 kV aD (kZ m .normal [zO,zO,(16777216:Int)] aA) (bo .eql a0 (25:Int) fun t32=>gS true t32 (lI a1 aA) aA fun t33 aB=>gS true t32 ((vN .not t33).bind fun t35=>lI t35 aB) aB fun t36 aC=>(lH t32 t36 false).bind fun t38=>Sk K m aC t38 a0)
def N7 (aA:Bool) (p0:Int) (p1:Bool):Option (Int) :=
 tc aA (some 16777216) (tc (decide (p0=25)) (I0 (!p1) p0) (I0 false p0))
theorem aoH (w31:Bool) (p0:Int) (p1:Bool):(Sg KK 0 w31 ([]:kO) p0 p1)=tm (β:=R) (N7 w31 p0 p1) fun r=>(.normal,[zO,zO,r],([]:kO)):=by
 cases w31 <;> simp +contextual [-rZ,-oZ,-oJ,-p5,-pV,-qX,-qY,Sg,N7,Xl,aoK]
def Sf (K:kT) (m:Nat) (aF:kN) (aD:kO) (a0:kN) (a1:kN):Option R :=
 kV aF (kZ m .normal [zO,zO,(2048:Int)] aD) (bo .eql a0 (24:Int) fun aG=>(Sg K (aa5 aD) aG aD a0 a1).bind fun Ku=>(fun aA aB aC aE=>Ex.pR Ku.1 (kZ m .normal [aA,aB,aC] aE)) (gd Ku.2.1 0) (gd Ku.2.1 1) (gd Ku.2.1 2) Ku.2.2)
def N6 (aA:Bool) (p0:Int) (p1:Bool):Option (Int) :=
 tc aA (some 2048) (tb (N7 (decide (p0=24)) p0 p1) fun Ku=>some Ku)
theorem Xk (w29:Bool) (p0:Int) (p1:Bool):(Sf KK 0 w29 ([]:kO) p0 p1)=tm (β:=R) (N6 w29 p0 p1) fun r=>(.normal,[zO,zO,r],([]:kO)):=by
 cases w29 <;> simp [-rZ,-oZ,-oJ,-p5,-pV,-qX,-qY,Sf,N6,aoH]
def Sj (K:kT) (aC:kO) (aG:kN) (a0:kN) (a1:kN):Option R :=
 (Sf K (aa5 aC) aG aC a0 a1).bind fun aB=>(fun aD aE aA aF=>Ex.pR aB.1 ((vN .neg aA).bind fun t64=>bo .sub aA (2:Int) fun t65=>(Dh zO t65).bind fun t66=>some (.ret,[t64,t66],aF))) (gd aB.2.1 0) (gd aB.2.1 1) (gd aB.2.1 2) aB.2.2
def IZ (aB:Bool) (p0:Int) (p1:Bool):Option (Int×Int) :=
 tb (N6 aB p0 p1) fun aA=>some ((IntKind.wrap .i64 (0-aA)),(max 0 (IntKind.wrap .i64 (aA-2))))
theorem aoJ (w29:Bool) (p0:Int) (p1:Bool):((Sj KK ([]:kO) w29 p0 p1)).bind (Cm 0)=tm (IZ w29 p0 p1) fun r=>(.ret (.tuple [r.1,r.2]),[]):=by
 cases w29 <;> simp [-rZ,-oZ,-oJ,-p5,-pV,-qX,-qY,Sj,IZ,Xk,Cm]
def m96 (K:kT) (a0 a1:kN) (h0:kO):Option (mR×kO) :=
 (bo .eql a0 (24:Int) fun aA=>gS true aA (lI a1 h0) h0 fun aD aB=>gS true aA ((vN .not aD).bind fun aE=>lI aE aB) aB fun t24 aC=>(lH aA t24 false).bind fun aF=>Sj K aC aF a0 a1).bind (Cm (aa5 h0))
theorem alN K a0 a1 h0:nN K 96 [a0,a1] h0=m96 (lG mJ K) a0 a1 h0:=by kernel_rfl
def t96 (p0:Int) (p1:Bool):Option (Int×Int) :=
 tc (decide (p0=24)) (IZ (!p1) p0 p1) (IZ false p0 p1)
theorem U_ (p0:Int) (p1:Bool) (h:kO):KK 96 [p0,p1] h=tm (t96 p0 p1) fun r=>(.ret (.tuple [r.1,r.2]),h):=lJ rfl rfl (alN ..) (by
 simp +contextual [-rZ,-oZ,-oJ,-p5,-pV,-qX,-qY,m96,t96,Xk,Cm,aoJ])
def RV (K:kT) (m:Nat) (aD:kN) (aC:kN) (aA:kN) (aB:kO):Option R :=
 kV aD (kZ m .normal [aC,false,zO,zO,aA,aD] aB) (bo .eql aA (4:Int) fun aE=>kZ m .normal [aC,false,zO,zO,aA,aE] aB)
def NX (aA:Bool) (p0:lL):Option (Bool) :=
 tc aA (some aA) (some (decide (p0.op=4)))
theorem anY (w27:Bool) (p0:lL):(RV KK 1 w27 (.ptr 0 0) p0.op ([.cells [p0.op,p0.rd,p0.rn,p0.rm,p0.ra,p0.imm,p0.cond,p0.wide]]:kO))=tm (β:=R) (NX w27 p0) fun r=>(.normal,[(.ptr 0 0),false,zO,zO,p0.op,r],([.cells [p0.op,p0.rd,p0.rn,p0.rm,p0.ra,p0.imm,p0.cond,p0.wide]]:kO)):=by
 cases w27 <;> simp [-rZ,-oZ,-oJ,-p5,-pV,-qX,-qY,RV,NX]
def RX (K:kT) (m:Nat) (aG:kN) (aB:kN) (aC:kN) (aD:kN) (aE:kN) (aA:kN) (aF:kO):Option R :=
 kV aG (kZ m .normal [aB,aC,aD,aE,aA,aG] aF) (bo .eql aA (18:Int) fun aH=>kZ m .normal [aB,aC,aD,aE,aA,aH] aF)
def NZ (aA:Bool) (p0:lL):Option (Bool) :=
 tc aA (some aA) (some (decide (p0.op=18)))
theorem aoA (w38:Bool) (p0:lL):(RX KK 1 w38 (.ptr 0 0) false zO zO p0.op ([.cells [p0.op,p0.rd,p0.rn,p0.rm,p0.ra,p0.imm,p0.cond,p0.wide]]:kO))=tm (β:=R) (NZ w38 p0) fun r=>(.normal,[(.ptr 0 0),false,zO,zO,p0.op,r],([.cells [p0.op,p0.rd,p0.rn,p0.rm,p0.ra,p0.imm,p0.cond,p0.wide]]:kO)):=by
 cases w38 <;> simp [-rZ,-oZ,-oJ,-p5,-pV,-qX,-qY,RX,NZ]
def R_ (K:kT) (m:Nat) (aG:kN) (aB:kN) (aC:kN) (aD:kN) (aE:kN) (aA:kN) (aF:kO):Option R :=
 kV aG (kZ m .normal [aB,aC,aD,aE,aA,aG] aF) (bo .eql aA (8:Int) fun t52=>kZ m .normal [aB,aC,aD,aE,aA,t52] aF)
def N2 (aA:Bool) (p0:lL):Option (Bool) :=
 tc aA (some aA) (some (decide (p0.op=8)))
theorem aoD (w51:Bool) (p0:lL):(R_ KK 1 w51 (.ptr 0 0) false zO zO p0.op ([.cells [p0.op,p0.rd,p0.rn,p0.rm,p0.ra,p0.imm,p0.cond,p0.wide]]:kO))=tm (β:=R) (N2 w51 p0) fun r=>(.normal,[(.ptr 0 0),false,zO,zO,p0.op,r],([.cells [p0.op,p0.rd,p0.rn,p0.rm,p0.ra,p0.imm,p0.cond,p0.wide]]:kO)):=by
 cases w51 <;> simp [-rZ,-oZ,-oJ,-p5,-pV,-qX,-qY,R_,N2]
def R0 (K:kT) (m:Nat) (t48:kN) (aB:kN) (aC:kN) (aD:kN) (aE:kN) (aA:kN) (aL:kO):Option R :=
 kV t48 (kZ m .normal [aB,aC,aD,aE,aA,t48] aL) (bo .eql aA (7:Int) fun aN=>(R_ K (aa5 aL) aN aB aC aD aE aA aL).bind fun Pj=>(fun aG aH aI aJ aK aF aM=>Ex.pR Pj.1 (kZ m .normal [aG,aH,aI,aJ,aK,aF] aM)) (gd Pj.2.1 0) (gd Pj.2.1 1) (gd Pj.2.1 2) (gd Pj.2.1 3) (gd Pj.2.1 4) (gd Pj.2.1 5) Pj.2.2)
def N1 (aA:Bool) (p0:lL):Option (Bool) :=
 tc aA (some aA) (tb (N2 (decide (p0.op=7)) p0) fun Pj=>some Pj)
theorem aoC (w49:Bool) (p0:lL):(R0 KK 1 w49 (.ptr 0 0) false zO zO p0.op ([.cells [p0.op,p0.rd,p0.rn,p0.rm,p0.ra,p0.imm,p0.cond,p0.wide]]:kO))=tm (β:=R) (N1 w49 p0) fun r=>(.normal,[(.ptr 0 0),false,zO,zO,p0.op,r],([.cells [p0.op,p0.rd,p0.rn,p0.rm,p0.ra,p0.imm,p0.cond,p0.wide]]:kO)):=by
 cases w49 <;> simp [-rZ,-oZ,-oJ,-p5,-pV,-qX,-qY,R0,N1,aoD]
def Sb (K:kT) (m:Nat) (aG:kN) (aA:kN) (aB:kN) (aC:kN) (aD:kN) (aF:kO) (aE:kN):Option R :=
 kV aG (kZ m .normal [aA,aB,aC,aD,aG] aF) (bo .eql aE (25:Int) fun t71=>kZ m .normal [aA,aB,aC,aD,t71] aF)
def N4 (aA:Bool) (p0:lL):Option (Bool) :=
 tc aA (some aA) (some (decide (p0.op=25)))
theorem aoF (w70:Bool) (p0:lL):(Sb KK 1 w70 (.ptr 0 0) false zO zO ([.cells [p0.op,p0.rd,p0.rn,p0.rm,p0.ra,p0.imm,p0.cond,p0.wide]]:kO) p0.op)=tm (β:=R) (N4 w70 p0) fun r=>(.normal,[(.ptr 0 0),false,zO,zO,r],([.cells [p0.op,p0.rd,p0.rn,p0.rm,p0.ra,p0.imm,p0.cond,p0.wide]]:kO)):=by
 cases w70 <;> simp [-rZ,-oZ,-oJ,-p5,-pV,-qX,-qY,Sb,N4]
def Sa (K:kT) (m:Nat) (aG:kN) (aA:kN) (aC:kN) (aL:kO) (aF:kN) (aJ:kN) (aK:kN):Option R :=
 kV aG (kZ m .normal [aA,aC,(1:Int),(31:Int)] aL) (bo .eql aF (24:Int) fun aN=>(Sb K (aa5 aL) aN aA aC aJ aK aL aF).bind fun PE=>(fun aB aI aD aE aH aM=>Ex.pR PE.1 (kV aH (kZ m .ret [aB,true,aD,aE] aM) (kZ m .normal [aB,aI,aD,aE] aM))) (gd PE.2.1 0) (gd PE.2.1 1) (gd PE.2.1 2) (gd PE.2.1 3) (gd PE.2.1 4) PE.2.2)
def N3 (aA:Bool) (p0:lL):Option (Ey×Bool×Int×Int) :=
 tc aA (some (.n,(false,1,31))) (tb (N4 (decide (p0.op=24)) p0) fun PE=>tc PE (some (.r,(true,0,0))) (some (.n,(false,0,0))))
theorem aoE (r61:Bool) (p0:lL):(Sa KK 1 r61 (.ptr 0 0) false ([.cells [p0.op,p0.rd,p0.rn,p0.rm,p0.ra,p0.imm,p0.cond,p0.wide]]:kO) p0.op zO zO)=tm (β:=R) (N3 r61 p0) fun r=>(r.1.ex,[(.ptr 0 0),r.2.1,r.2.2.1,r.2.2.2],([.cells [p0.op,p0.rd,p0.rn,p0.rm,p0.ra,p0.imm,p0.cond,p0.wide]]:kO)):=by
 cases r61 <;> simp [-rZ,-oZ,-oJ,-p5,-pV,-qX,-qY,Sa,N3,aoF]
def RY (K:kT) (m:Nat) (aJ:kN) (aB:kN) (aD:kN) (aF:kN) (aS:kO) (aI:kN) (aP:kN):Option R :=
 kV aJ (kZ m .normal [aB,aD,aF,(31:Int)] aS) (bo .eql aI (6:Int) fun t48=>(R0 K (aa5 aS) t48 aB aD aF aP aI aS).bind fun aA=>(fun aM aN aO aQ aR aK aT=>Ex.pR aA.1 ((Sa K (aa5 aT) aK aM aN aT aR aO aQ).bind fun aL=>(fun aC aE aG aH aU=>Ex.l_ aL.1 (kZ m .normal [aC,aE,aG,aH] aU) (fun aV=>kZ m aV [aC,aE,aG,aH] aU)) (gd aL.2.1 0) (gd aL.2.1 1) (gd aL.2.1 2) (gd aL.2.1 3) aL.2.2)) (gd aA.2.1 0) (gd aA.2.1 1) (gd aA.2.1 2) (gd aA.2.1 3) (gd aA.2.1 4) (gd aA.2.1 5) aA.2.2)
def N0 (aC:Bool) (p0:lL):Option (Ey×Bool×Int×Int) :=
 tc aC (some (.n,(false,0,31))) (tb (N1 (decide (p0.op=6)) p0) fun aD=>tb (N3 aD p0) fun aA=>uL aA.1 (some (.n,(aA.2.1,aA.2.2.1,aA.2.2.2))) fun aB=>some (aB,(aA.2.1,aA.2.2.1,aA.2.2.2)))
theorem aoB (r40:Bool) (p0:lL):(RY KK 1 r40 (.ptr 0 0) false zO ([.cells [p0.op,p0.rd,p0.rn,p0.rm,p0.ra,p0.imm,p0.cond,p0.wide]]:kO) p0.op zO)=tm (β:=R) (N0 r40 p0) fun r=>(r.1.ex,[(.ptr 0 0),r.2.1,r.2.2.1,r.2.2.2],([.cells [p0.op,p0.rd,p0.rn,p0.rm,p0.ra,p0.imm,p0.cond,p0.wide]]:kO)):=by
 cases r40 <;> simp [-rZ,-oZ,-oJ,-p5,-pV,-qX,-qY,RY,N0,aoC,aoE]
def RW (K:kT) (m:Nat) (aR:kN) (aB:kN) (aD:kN) (aF:kN) (aS:kO) (aI:kN) (aO:kN):Option R :=
 kV aR (kZ m .normal [aB,aD,aF,(65535:Int)] aS) (bo .eql aI (5:Int) fun aW=>(RX K (aa5 aS) aW aB aD aF aO aI aS).bind fun aA=>(fun aL aM aN aP aQ aJ aT=>Ex.pR aA.1 ((RY K (aa5 aT) aJ aL aM aN aT aQ aP).bind fun aK=>(fun aC aE aG aH aU=>Ex.l_ aK.1 (kZ m .normal [aC,aE,aG,aH] aU) (fun aV=>kZ m aV [aC,aE,aG,aH] aU)) (gd aK.2.1 0) (gd aK.2.1 1) (gd aK.2.1 2) (gd aK.2.1 3) aK.2.2)) (gd aA.2.1 0) (gd aA.2.1 1) (gd aA.2.1 2) (gd aA.2.1 3) (gd aA.2.1 4) (gd aA.2.1 5) aA.2.2)
def NY (uZ:Bool) (p0:lL):Option (Ey×Bool×Int×Int) :=
 tc uZ (some (.n,(false,0,65535))) (tb (NZ (decide (p0.op=5)) p0) fun aC=>tb (N0 aC p0) fun aA=>uL aA.1 (some (.n,(aA.2.1,aA.2.2.1,aA.2.2.2))) fun aB=>some (aB,(aA.2.1,aA.2.2.1,aA.2.2.2)))
theorem anZ (uZ:Bool) (p0:lL):(RW KK 1 uZ (.ptr 0 0) false zO ([.cells [p0.op,p0.rd,p0.rn,p0.rm,p0.ra,p0.imm,p0.cond,p0.wide]]:kO) p0.op zO)=tm (β:=R) (NY uZ p0) fun r=>(r.1.ex,[(.ptr 0 0),r.2.1,r.2.2.1,r.2.2.2],([.cells [p0.op,p0.rd,p0.rn,p0.rm,p0.ra,p0.imm,p0.cond,p0.wide]]:kO)):=by
 cases uZ <;> simp [-rZ,-oZ,-oJ,-p5,-pV,-qX,-qY,RW,NY,aoA,aoB]
def RU (K:kT) (m:Nat) (t24:kN) (aN:kN) (aK:kO) (aO:kN):Option R :=
 kV t24 (kZ m .normal [aN,false,zO,(255:Int)] aK) (bo .eql aO (3:Int) fun aQ=>(RV K (aa5 aK) aQ aN aO aK).bind fun uZ=>(fun aE aF aG aH aI aJ aL=>Ex.pR uZ.1 ((RW K (aa5 aL) aJ aE aF aG aL aI aH).bind fun wV=>(fun aA aB aC aD aM=>Ex.l_ wV.1 (kZ m .normal [aA,aB,aC,aD] aM) (fun aP=>kZ m aP [aA,aB,aC,aD] aM)) (gd wV.2.1 0) (gd wV.2.1 1) (gd wV.2.1 2) (gd wV.2.1 3) wV.2.2)) (gd uZ.2.1 0) (gd uZ.2.1 1) (gd uZ.2.1 2) (gd uZ.2.1 3) (gd uZ.2.1 4) (gd uZ.2.1 5) uZ.2.2)
def NW (aB:Bool) (p0:lL):Option (Ey×Bool×Int×Int) :=
 tc aB (some (.n,(false,0,255))) (tb (NX (decide (p0.op=3)) p0) fun uZ=>tb (NY uZ p0) fun wV=>uL wV.1 (some (.n,(wV.2.1,wV.2.2.1,wV.2.2.2))) fun aA=>some (aA,(wV.2.1,wV.2.2.1,wV.2.2.2)))
theorem anX (w25:Bool) (p0:lL):(RU KK 1 w25 (.ptr 0 0) ([.cells [p0.op,p0.rd,p0.rn,p0.rm,p0.ra,p0.imm,p0.cond,p0.wide]]:kO) p0.op)=tm (β:=R) (NW w25 p0) fun r=>(r.1.ex,[(.ptr 0 0),r.2.1,r.2.2.1,r.2.2.2],([.cells [p0.op,p0.rd,p0.rn,p0.rm,p0.ra,p0.imm,p0.cond,p0.wide]]:kO)):=by
 cases w25 <;> simp [-rZ,-oZ,-oJ,-p5,-pV,-qX,-qY,RU,NW,anY,anZ]
def RT (K:kT) (m:Nat) (aH:kN) (aG:kO) (aI:kN):Option R :=
 bo .eql aH (2:Int) fun t24=>(RU K (aa5 aG) t24 aI aG aH).bind fun xN=>(fun aA aB aC aD aE=>Ex.l_ xN.1 (kZ m .normal [aA,aB,aC,aD] aE) (fun aF=>kZ m aF [aA,aB,aC,aD] aE)) (gd xN.2.1 0) (gd xN.2.1 1) (gd xN.2.1 2) (gd xN.2.1 3) xN.2.2
def NV (p0:lL):Option (Ey×Bool×Int×Int) :=
 tb (NW (decide (p0.op=2)) p0) fun xN=>uL xN.1 (some (.n,(xN.2.1,xN.2.2.1,xN.2.2.2))) fun aA=>some (aA,(xN.2.1,xN.2.2.1,xN.2.2.2))
theorem Xi (p0:lL):(RT KK 1 p0.op ([.cells [p0.op,p0.rd,p0.rn,p0.rm,p0.ra,p0.imm,p0.cond,p0.wide]]:kO) (.ptr 0 0))=tm (β:=R) (NV p0) fun r=>(r.1.ex,[(.ptr 0 0),r.2.1,r.2.2.1,r.2.2.2],([.cells [p0.op,p0.rd,p0.rn,p0.rm,p0.ra,p0.imm,p0.cond,p0.wide]]:kO)):=by
 simp [-rZ,-oZ,-oJ,-p5,-pV,-qX,-qY,RT,NV,anX]
def Mx (K:kT) (t128:kN) (aA:kO):Option R :=
 some (.ret,[t128],aA)
def Er (aA:Bool):Option (Bool) :=
 some aA
theorem acN (w131:Bool) (p0:lL):((Mx KK w131 ([.cells [p0.op,p0.rd,p0.rn,p0.rm,p0.ra,p0.imm,p0.cond,p0.wide]]:kO))).bind (mA 0)=tm (Er w131) fun r=>(.ret r,[]):=by
 cases w131 <;> simp [-rZ,-oZ,-oJ,-p5,-pV,-qX,-qY,Mx,Er,Xi,mA]
def m94 (K:kT) (a0:kN) (h0:kO):Option (mR×kO) :=
 (kW (lR 8 h0 a0) fun aN aK=>fa 0 aN fun aO=>ld false 1 aK aO fun aP=>(RT K (aa5 aK) aP aK aN).bind fun AV=>(fun aA aD aE aF aB=>Ex.inBlock 0 AV.1 (fa 5 aA fun t114=>ld false 1 aB t114 fun t115=>bo .geq t115 aE fun t116=>gS true t116 (fa 5 aA fun t117=>lI t117 aB) aB fun aL aC=>gS true t116 (ld false 1 aC aL fun aM=>lI aM aC) aC fun t121 aG=>gS true t116 (lI aF aG) aG fun t123 aH=>gS true t116 (bo .leq t121 t123 fun t125=>lI t125 aH) aH fun t126 aJ=>(lH t116 t126 false).bind fun t128=>Mx K t128 aJ) (fun aI=>some (aI,[aD],aB))) (gd AV.2.1 0) (gd AV.2.1 1) (gd AV.2.1 2) (gd AV.2.1 3) AV.2.2).bind (mA (aa5 h0))
theorem alL K a0 h0:nN K 94 [a0] h0=m94 (lG mJ K) a0 h0:=by kernel_rfl
def t94 (p0:lL):Option (Bool) :=
 tb (NV p0) fun AV=>vO 0 AV.1 (tc (decide (AV.2.2.1≤p0.imm)) (Er (decide (p0.imm≤AV.2.2.2))) (Er false)) fun aA=>Ao aA (some AV.2.1)
theorem Jq (p0:lL) (h:kO):KK 94 [(.agg [p0.op,p0.rd,p0.rn,p0.rm,p0.ra,p0.imm,p0.cond,p0.wide])] h=tm (t94 p0) fun r=>(.ret r,h):=lJ rfl rfl (alL ..) (by
 simp +contextual [-rZ,-oZ,-oJ,-p5,-pV,-qX,-qY,m94,t94,Xi,mA,acN])
def Rg (K:kT) (m:Nat) (t33:kN) (aB:kN) (aC:kN) (aA:kO) (aD:kN):Option R :=
 kV t33 (kZ m .normal [aB,zO,aC,zO] aA) (kZ m .normal [aB,zO,aC,aD] aA)
def II (aA:Bool) (p0:lL):Option (Int) :=
 tc aA (some 0) (some p0.ra)
theorem xB (w34:Bool) (r28:(List UInt8)) (p0:lL):(Rg KK 1 w34 (.ptr 0 0) r28 ([.cells [p0.op,p0.rd,p0.rn,p0.rm,p0.ra,p0.imm,p0.cond,p0.wide]]:kO) p0.ra)=tm (β:=R) (II w34 p0) fun r=>(.normal,[(.ptr 0 0),zO,r28,r],([.cells [p0.op,p0.rd,p0.rn,p0.rm,p0.ra,p0.imm,p0.cond,p0.wide]]:kO)):=by
 cases w34 <;> simp [-rZ,-oZ,-oJ,-p5,-pV,-qX,-qY,Rg,II]
def Mp (K:kT) (aB:kN) (aA:kO):Option R :=
 kV aB (some (.ret,[(6:Int)],aA)) (some (.ret,[zO],aA))
def AJ (aA:Bool):Option (Int) :=
 tc aA (some 6) (some 0)
theorem vK (w337:Bool) (p0:lL):((Mp KK w337 ([.cells [p0.op,p0.rd,p0.rn,p0.rm,p0.ra,p0.imm,p0.cond,p0.wide]]:kO))).bind (mA 0)=tm (AJ w337) fun r=>(.ret r,[]):=by
 cases w337 <;> simp [-rZ,-oZ,-oJ,-p5,-pV,-qX,-qY,Mp,AJ,Eu,xB,Jq,SO,U_,mA]
def Mo (K:kT) (aA:kN) (aD:kN) (aH:kO) (aV:kN) (aW:kN):Option R :=
 gS true aA (fa 5 aD fun aX=>lI aX aH) aH fun aY aE=>gS true aA (ld false 1 aE aY fun aZ=>lI aZ aE) aE fun a_ aI=>gS true aA (bo .rem a_ (2:Int) fun bA=>lI bA aI) aI fun bB aJ=>gS true aA (bo .neq bB zO fun bD=>lI bD aJ) aJ fun bE aK=>gS true aA (lI bE aK) aK fun aB aL=>gS false aB (fa 5 aD fun bF=>lI bF aL) aL fun bG aF=>gS false aB (ld false 1 aF bG fun bH=>lI bH aF) aF fun bI aM=>gS false aB (lI aV aM) aM fun bJ aN=>gS false aB (bo .lss bI bJ fun bK=>lI bK aN) aN fun bL aO=>gS true aA ((lH aB true bL).bind fun bM=>lI bM aO) aO fun bN aP=>gS true aA (lI bN aP) aP fun aC aQ=>gS false aC (fa 5 aD fun bO=>lI bO aQ) aQ fun bP aG=>gS false aC (ld false 1 aG bP fun bQ=>lI bQ aG) aG fun bR aR=>gS false aC (lI aW aR) aR fun bS aS=>gS false aC (bo .gtr bR bS fun bT=>lI bT aS) aS fun bU aT=>gS true aA ((lH aC true bU).bind fun bV=>lI bV aT) aT fun bW aU=>(lH aA bW false).bind fun bX=>Mp K bX aU
def Ep (aB:Bool) (p0:lL) (aC:Int) (aD:Int):Option (Int) :=
 tc aB (tb ((qA p0.imm 2)) fun aA=>tc (!decide (aA=0)) (AJ true) (tc (decide (p0.imm<aC)) (AJ true) (AJ (decide (aD<p0.imm))))) (AJ false)
theorem wM (w286:Bool) (p0:lL) (w287:Int) (w288:Int):((Mo KK w286 (.ptr 0 0) ([.cells [p0.op,p0.rd,p0.rn,p0.rm,p0.ra,p0.imm,p0.cond,p0.wide]]:kO) w287 w288)).bind (mA 0)=tm (Ep w286 p0 w287 w288) fun r=>(.ret r,[]):=by
 cases w286 <;> simp +contextual [-rZ,-oZ,-oJ,-p5,-pV,-qX,-qY,Mo,Ep,Eu,xB,Jq,SO,U_,mA,vK]
def Rp (K:kT) (aI:kN) (aB:kO) (aA:kN):Option R :=
 kV aI (some (.ret,[(2:Int)],aB)) (fa 0 aA fun aJ=>ld false 1 aB aJ fun aK=>fa 7 aA fun aL=>ld false 1 aB aL fun aM=>ca (K 96 [(kN.kP aK),(kN.kP aM)] aB) fun aG aD=>(lC 0 aG).bind fun aN=>(lC 1 aG).bind fun aO=>fa 0 aA fun aP=>ld false 1 aD aP fun aQ=>bo .eql aQ (24:Int) fun aC=>gS false aC (fa 0 aA fun aR=>lI aR aD) aD fun aS aE=>gS false aC (ld false 1 aE aS fun aT=>lI aT aE) aE fun aU aF=>gS false aC (bo .eql aU (25:Int) fun aV=>lI aV aF) aF fun aW aH=>(lH aC true aW).bind fun aX=>Mo K aX aA aH aN aO)
def CW (aB:Bool) (p0:lL):Option (Int) :=
 tc aB (some 2) (tb ((t96 p0.op p0.wide)) fun aA=>tc (decide (p0.op=24)) (Ep true p0 aA.1 aA.2) (Ep (decide (p0.op=25)) p0 aA.1 aA.2))
theorem Ay (w261:Bool) (p0:lL):((Rp KK w261 ([.cells [p0.op,p0.rd,p0.rn,p0.rm,p0.ra,p0.imm,p0.cond,p0.wide]]:kO) (.ptr 0 0))).bind (mA 0)=tm (CW w261 p0) fun r=>(.ret r,[]):=by
 cases w261 <;> simp +contextual -implicitDefEqProofs (maxSteps:=2000000) [-rZ,-oZ,-oJ,-p5,-pV,-qX,-qY,Rp,CW,Eu,xB,Jq,SO,U_,mA,vK,wM]
def Ro (K:kT) (aA:kN) (aB:kN) (aF:kO):Option R :=
 gS false aA (fa 0 aB fun aM=>lI aM aF) aF fun aN aD=>gS false aA (ld false 1 aD aN fun aO=>lI aO aD) aD fun aP aG=>gS false aA (bo .neq aP (25:Int) fun aQ=>lI aQ aG) aG fun aR aH=>gS false aA (lI aR aH) aH fun aC aI=>gS true aC (fa 6 aB fun aS=>lI aS aI) aI fun aT aE=>gS true aC (ld false 1 aE aT fun aU=>lI aU aE) aE fun aV aJ=>gS true aC (bo .neq aV zO fun aW=>lI aW aJ) aJ fun aX aK=>gS false aA ((lH aC aX false).bind fun aY=>lI aY aK) aK fun aZ aL=>(lH aA true aZ).bind fun a_=>Rp K a_ aL aB
def CV (aA:Bool) (p0:lL):Option (Int) :=
 tc aA (CW true p0) (tc (!decide (p0.op=25)) (CW (!decide (p0.cond=0)) p0) (CW false p0))
theorem By (w234:Bool) (p0:lL):((Ro KK w234 (.ptr 0 0) ([.cells [p0.op,p0.rd,p0.rn,p0.rm,p0.ra,p0.imm,p0.cond,p0.wide]]:kO))).bind (mA 0)=tm (CV w234 p0) fun r=>(.ret r,[]):=by
 cases w234 <;> simp +contextual [-rZ,-oZ,-oJ,-p5,-pV,-qX,-qY,Ro,CV,Eu,xB,Jq,SO,U_,mA,vK,wM,Ay]
def Rn (K:kT) (aM:kN) (aC:kO) (aA:kN):Option R :=
 kV aM (some (.ret,[(2:Int)],aC)) (fa 0 aA fun aN=>ld false 1 aC aN fun aO=>bo .eql aO (25:Int) fun aB=>gS true aB (fa 6 aA fun aP=>lI aP aC) aC fun aQ aE=>gS true aB (ld false 1 aE aQ fun aR=>lI aR aE) aE fun aS aG=>gS true aB (bo .lss aS zO fun aT=>lI aT aG) aG fun aU aH=>gS true aB (lI aU aH) aH fun aD aI=>gS false aD (fa 6 aA fun aV=>lI aV aI) aI fun aW aF=>gS false aD (ld false 1 aF aW fun aX=>lI aX aF) aF fun aY aJ=>gS false aD (bo .gtr aY (13:Int) fun aZ=>lI aZ aJ) aJ fun a_ aK=>gS true aB ((lH aD true a_).bind fun bA=>lI bA aK) aK fun bB aL=>(lH aB bB false).bind fun bD=>Ro K bD aA aL)
def CU (aA:Bool) (p0:lL):Option (Int) :=
 tc aA (some 2) (tc (decide (p0.op=25)) (tc (decide (p0.cond<0)) (CV true p0) (CV (decide (13<p0.cond)) p0)) (CV false p0))
theorem CI (w204:Bool) (p0:lL):((Rn KK w204 ([.cells [p0.op,p0.rd,p0.rn,p0.rm,p0.ra,p0.imm,p0.cond,p0.wide]]:kO) (.ptr 0 0))).bind (mA 0)=tm (CU w204 p0) fun r=>(.ret r,[]):=by
 cases w204 <;> simp +contextual [-rZ,-oZ,-oJ,-p5,-pV,-qX,-qY,Rn,CU,Eu,xB,Jq,SO,U_,mA,vK,wM,Ay,By]
def Rm (K:kT) (aB:kN) (aA:kN) (aG:kO):Option R :=
 gS false aB (fa 0 aA fun aO=>lI aO aG) aG fun aP aD=>gS false aB (ld false 1 aD aP fun aQ=>lI aQ aD) aD fun aR aH=>gS false aB (bo .eql aR (17:Int) fun aS=>lI aS aH) aH fun aT aI=>gS false aB (lI aT aI) aI fun aC aJ=>gS true aC (fa 4 aA fun aU=>lI aU aJ) aJ fun aV aE=>gS true aC (ld false 1 aE aV fun aW=>lI aW aE) aE fun aX aK=>gS true aC (fa 1 aA fun aY=>lI aY aK) aK fun aZ aF=>gS true aC (ld false 1 aF aZ fun a_=>lI a_ aF) aF fun bA aL=>gS true aC (bo .eql aX bA fun bB=>lI bB aL) aL fun bD aM=>gS false aB ((lH aC bD false).bind fun bE=>lI bE aM) aM fun bF aN=>(lH aB true bF).bind fun bG=>Rn K bG aN aA
def CT (aA:Bool) (p0:lL):Option (Int) :=
 tc aA (CU true p0) (tc (decide (p0.op=17)) (CU (decide (p0.ra=p0.rd)) p0) (CU false p0))
theorem Ff (w171:Bool) (p0:lL):((Rm KK w171 (.ptr 0 0) ([.cells [p0.op,p0.rd,p0.rn,p0.rm,p0.ra,p0.imm,p0.cond,p0.wide]]:kO))).bind (mA 0)=tm (CT w171 p0) fun r=>(.ret r,[]):=by
 cases w171 <;> simp +contextual [-rZ,-oZ,-oJ,-p5,-pV,-qX,-qY,Rm,CT,Eu,xB,Jq,SO,U_,mA,vK,wM,Ay,By,CI]
def Rl (K:kT) (t129:kN) (aC:kO) (aA:kN):Option R :=
 kV t129 (some (.ret,[(2:Int)],aC)) (fa 0 aA fun aO=>ld false 1 aC aO fun aP=>bo .eql aP (18:Int) fun aB=>gS true aB (fa 4 aA fun t136=>lI t136 aC) aC fun t137 aD=>gS true aB (ld false 1 aD t137 fun t139=>lI t139 aD) aD fun t140 aG=>gS true aB (bo .lss t140 (1:Int) fun t142=>lI t142 aG) aG fun t143 aH=>gS true aB (lI t143 aH) aH fun t145 aI=>gS false t145 (fa 4 aA fun t147=>lI t147 aI) aI fun t148 aE=>gS false t145 (ld false 1 aE t148 fun t150=>lI t150 aE) aE fun t151 aJ=>gS false t145 (fa 5 aA fun aQ=>lI aQ aJ) aJ fun t154 aF=>gS false t145 (ld false 1 aF t154 fun t156=>lI t156 aF) aF fun t157 aK=>gS false t145 (bo .sub (32:Int) t157 fun aR=>lI aR aK) aK fun aS aL=>gS false t145 (bo .gtr t151 aS fun aT=>lI aT aL) aL fun aU aM=>gS true aB ((lH t145 true aU).bind fun aV=>lI aV aM) aM fun aW aN=>(lH aB aW false).bind fun aX=>Rm K aX aA aN)
def Fw (aA:Bool) (p0:lL):Option (Int) :=
 tc aA (some 2) (tc (decide (p0.op=18)) (tc (decide (p0.ra<1)) (CT true p0) (CT (decide ((IntKind.wrap .i64 (32-p0.imm))<p0.ra)) p0)) (CT false p0))
theorem Ih (w132:Bool) (p0:lL):((Rl KK w132 ([.cells [p0.op,p0.rd,p0.rn,p0.rm,p0.ra,p0.imm,p0.cond,p0.wide]]:kO) (.ptr 0 0))).bind (mA 0)=tm (Fw w132 p0) fun r=>(.ret r,[]):=by
 cases w132 <;> simp +contextual [-rZ,-oZ,-oJ,-p5,-pV,-qX,-qY,Rl,Fw,Eu,xB,Jq,SO,U_,mA,vK,wM,Ay,By,CI,Ff]
def Rk (K:kT) (aA:kN) (aG:kN) (aB:kO) (aH:kN) (aF:kN):Option R :=
 gS false aA (lI aG aB) aB fun t117 aC=>gS false aA (lI aH aC) aC fun aK aD=>gS false aA (cg (K 95 [(kN.kP t117),(kN.kP (.int .u8 97)),(kN.kP aK)] aD) fun t121 aI=>lI t121 aI) aD fun t124 aE=>gS false aA ((vN .not t124).bind fun t126=>lI t126 aE) aE fun aL aJ=>(lH aA true aL).bind fun t129=>Rl K t129 aJ aF
def Fv (aA:Bool) (aB:(List UInt8)) (p0:lL) (tB:Int):Option (Int) :=
 tc aA (Fw true p0) (tb ((t95 aB 97 tB)) fun zI=>Fw (!zI) p0)
theorem Nb (w116:Bool) (r28:(List UInt8)) (p0:lL) (tB:Int):((Rk KK w116 r28 ([.cells [p0.op,p0.rd,p0.rn,p0.rm,p0.ra,p0.imm,p0.cond,p0.wide]]:kO) tB (.ptr 0 0))).bind (mA 0)=tm (Fv w116 r28 p0 tB) fun r=>(.ret r,[]):=by
 cases w116 <;> simp [-rZ,-oZ,-oJ,-p5,-pV,-qX,-qY,Rk,Fv,Eu,xB,Jq,SO,U_,mA,vK,wM,Ay,By,CI,Ff,Ih]
def Rj (K:kT) (t93:kN) (aB:kN) (aK:kO) (aA:kN) (aF:kN):Option R :=
 gS false t93 (lI aB aK) aK fun t97 aL=>gS false t93 (fa 3 aA fun aM=>lI aM aL) aL fun t100 aC=>gS false t93 (ld false 1 aC t100 fun t102=>lI t102 aC) aC fun t103 aD=>gS false t93 (cg (K 95 [(kN.kP t97),(kN.kP (.int .u8 109)),(kN.kP t103)] aD) fun t105 aG=>lI t105 aG) aD fun t108 aE=>gS false t93 ((vN .not t108).bind fun t110=>lI t110 aE) aE fun aI aH=>(lH t93 true aI).bind fun aJ=>Rk K aJ aB aH aF aA
def Fu (aB:Bool) (aA:(List UInt8)) (p0:lL) (tB:Int):Option (Int) :=
 tc aB (Fv true aA p0 tB) (tb ((t95 aA 109 p0.rm)) fun AV=>Fv (!AV) aA p0 tB)
theorem SK (w96:Bool) (r28:(List UInt8)) (p0:lL) (tB:Int):((Rj KK w96 r28 ([.cells [p0.op,p0.rd,p0.rn,p0.rm,p0.ra,p0.imm,p0.cond,p0.wide]]:kO) (.ptr 0 0) tB)).bind (mA 0)=tm (Fu w96 r28 p0 tB) fun r=>(.ret r,[]):=by
 cases w96 <;> simp [-rZ,-oZ,-oJ,-p5,-pV,-qX,-qY,Rj,Fu,Eu,xB,Jq,SO,U_,mA,vK,wM,Ay,By,CI,Ff,Ih,Nb]
def Ri (K:kT) (t73:kN) (aB:kN) (aE:kO) (aA:kN) (aC:kN):Option R :=
 gS false t73 (lI aB aE) aE fun t77 aF=>gS false t73 (fa 2 aA fun aK=>lI aK aF) aF fun t80 aD=>gS false t73 (ld false 1 aD t80 fun aL=>lI aL aD) aD fun aM aG=>gS false t73 (cg (K 95 [(kN.kP t77),(kN.kP (.int .u8 110)),(kN.kP aM)] aG) fun t85 aI=>lI t85 aI) aG fun t88 aH=>gS false t73 ((vN .not t88).bind fun t90=>lI t90 aH) aH fun t91 aJ=>(lH t73 true t91).bind fun t93=>Rj K t93 aB aJ aA aC
def Ft (aB:Bool) (aA:(List UInt8)) (p0:lL) (tB:Int):Option (Int) :=
 tc aB (Fu true aA p0 tB) (tb ((t95 aA 110 p0.rn)) fun SN=>Fu (!SN) aA p0 tB)
theorem Xe (w76:Bool) (r28:(List UInt8)) (p0:lL) (tB:Int):((Ri KK w76 r28 ([.cells [p0.op,p0.rd,p0.rn,p0.rm,p0.ra,p0.imm,p0.cond,p0.wide]]:kO) (.ptr 0 0) tB)).bind (mA 0)=tm (Ft w76 r28 p0 tB) fun r=>(.ret r,[]):=by
 cases w76 <;> simp [-rZ,-oZ,-oJ,-p5,-pV,-qX,-qY,Ri,Ft,Eu,xB,Jq,SO,U_,mA,vK,wM,Ay,By,CI,Ff,Ih,Nb,SK]
def Rh (K:kT) (t53:kN) (aB:kN) (aE:kO) (aA:kN) (aC:kN):Option R :=
 gS false t53 (lI aB aE) aE fun t57 aF=>gS false t53 (fa 1 aA fun aK=>lI aK aF) aF fun aL aD=>gS false t53 (ld false 1 aD aL fun t62=>lI t62 aD) aD fun t63 aG=>gS false t53 (cg (K 95 [(kN.kP t57),(kN.kP (.int .u8 100)),(kN.kP t63)] aG) fun t65 aI=>lI t65 aI) aG fun t68 aH=>gS false t53 ((vN .not t68).bind fun aM=>lI aM aH) aH fun t71 aJ=>(lH t53 true t71).bind fun t73=>Ri K t73 aB aJ aA aC
def Fs (aB:Bool) (aA:(List UInt8)) (p0:lL) (tB:Int):Option (Int) :=
 tc aB (Ft true aA p0 tB) (tb ((t95 aA 100 p0.rd)) fun U8=>Ft (!U8) aA p0 tB)
theorem anD (w56:Bool) (r28:(List UInt8)) (p0:lL) (tB:Int):((Rh KK w56 r28 ([.cells [p0.op,p0.rd,p0.rn,p0.rm,p0.ra,p0.imm,p0.cond,p0.wide]]:kO) (.ptr 0 0) tB)).bind (mA 0)=tm (Fs w56 r28 p0 tB) fun r=>(.ret r,[]):=by
 cases w56 <;> simp [-rZ,-oZ,-oJ,-p5,-pV,-qX,-qY,Rh,Fs,Eu,xB,Jq,SO,U_,mA,vK,wM,Ay,By,CI,Ff,Ih,Nb,SK,Xe]
def m66 (K:kT) (a0:kN) (h0:kO):Option (mR×kO) :=
 (kW (lR 8 h0 a0) fun aC aG=>fa 0 aC fun aN=>ld false 1 aG aN fun aO=>fa 7 aC fun t24=>ld false 1 aG t24 fun aP=>ca (K 90 [(kN.kP aO),(kN.kP aP)] aG) fun aQ aE=>fa 4 aC fun t29=>ld false 1 aE t29 fun aR=>fa 0 aC fun t31=>ld false 1 aE t31 fun t32=>bo .eql t32 (18:Int) fun t33=>(Rg K (aa5 aE) t33 aC aQ aE aR).bind fun tB=>(fun aA aK aB aD aH=>Ex.pR tB.1 (bo .eql aB (.str []) fun aF=>gS false aF (ld true 8 aH aA fun t42=>lI t42 aH) aH fun aS aI=>gS false aF (cg (K 94 [(kN.kP aS)] aI) fun t45 aL=>lI t45 aL) aI fun t48 aJ=>gS false aF ((vN .not t48).bind fun aT=>lI aT aJ) aJ fun aU aM=>(lH aF true aU).bind fun t53=>Rh K t53 aB aM aA aD)) (gd tB.2.1 0) (gd tB.2.1 1) (gd tB.2.1 2) (gd tB.2.1 3) tB.2.2).bind (mA (aa5 h0))
theorem akT K a0 h0:nN K 66 [a0] h0=m66 (lG mJ K) a0 h0:=by kernel_rfl
def t66 (p0:lL):Option (Int) :=
 tb ((t90 p0.op p0.wide)) fun aA=>tb (II (decide (p0.op=18)) p0) fun tB=>tc (decide (aA=[])) (Fs true aA p0 tB) (tb ((t94 p0)) fun aB=>Fs (!aB) aA p0 tB)
theorem Xd (p0:lL) (h:kO):KK 66 [(.agg [p0.op,p0.rd,p0.rn,p0.rm,p0.ra,p0.imm,p0.cond,p0.wide])] h=tm (t66 p0) fun r=>(.ret r,h):=lJ rfl rfl (akT ..) (by
 simp +contextual [-rZ,-oZ,-oJ,-p5,-pV,-qX,-qY,m66,t66,Eu,xB,Jq,SO,U_,mA,vK,wM,Ay,By,CI,Ff,Ih,Nb,SK,Xe,anD])
def m71 (K:kT) (a0:kN) (h0:kO):Option (mR×kO) :=
 (kW (lR 8 h0 a0) fun aB aC=>ld true 8 aC aB fun aE=>ca (K 66 [(kN.kP aE)] aC) fun aF aA=>bo .neq aF zO fun aG=>kV aG (some (.ret,[zO],aA)) (fa 0 aB fun t27=>ld false 1 aA t27 fun aH=>fa 7 aB fun t29=>ld false 1 aA t29 fun aI=>ca (K 90 [(kN.kP aH),(kN.kP aI)] aA) fun t31 aD=>(nG t31).bind fun aJ=>bo .quo aJ (8:Int) fun t35=>some (.ret,[t35],aD))).bind (mA (aa5 h0))
theorem akY K a0 h0:nN K 71 [a0] h0=m71 (lG mJ K) a0 h0:=by kernel_rfl
def t71 (p0:lL):Option (Int) :=
 tb ((t66 p0)) fun aB=>tc (!decide (aB=0)) (some 0) (tb ((t90 p0.op p0.wide)) fun CF=>tb ((A0 .i64 ((CF.length:Nat):Int) 8)) fun aA=>some aA)
theorem r71 (p0:lL) (h:kO):KK 71 [(.agg [p0.op,p0.rd,p0.rn,p0.rm,p0.ra,p0.imm,p0.cond,p0.wide])] h=tm (t71 p0) fun r=>(.ret r,h):=lJ rfl rfl (akY ..) (by
 simp [-rZ,-oZ,-oJ,-p5,-pV,-qX,-qY,m71,t71,Xd,Eu,mA])
end
end
noncomputable section
open Go Hk
def Ia:Int→List rR→Option Int
 | b,[]=>some b
 | b,p::r =>
  if 0≤p.frm∧p.frm<64∧0≤p.many∧p.many<63∧0≤p.pos∧p.pos<64 then
   Ia (IntKind.i64.wrap (BitVec.ofInt 64 b ||| BitVec.ofInt 64 (IntKind.i64.wrap ((IntKind.i64.wrap (BitVec.ofInt 64 (p.n.fdiv (2^p.frm.toNat)) &&& BitVec.ofInt 64 (2^p.many.toNat-1)).toNat)*2^p.pos.toNat))).toNat) r
  else none
theorem TK:∀(b:Int) (ps:List rR),DV b (Rw rR.cells ps)=Ia b ps
 | b,[]=>rfl
 | b,p::r=>by
  simp only [Rw,List.map_cons,rR.cells,DV,Ia]
  split
  ·exact TK _ r
  ·rfl
def t155 (b:Int) (ps:List rR):Option Int:=if ps.length≤1000 then Ia b ps else none
theorem Pf (p0:Int) (p1:List rR) (h:kO):KK 155 [(.int .i64 p0),(.slice (Rw rR.cells p1) .no)] h=tm (t155 p0 p1) fun r=>(.ret (.int .i64 r),h):=by
 refine lJ rfl rfl (m:=O9 mJ.bld (.fn WN) [(.int .i64 p0),(.slice (Rw rR.cells p1) .no)] []) rfl ?_
 have hl:(Rw rR.cells p1).length=p1.length:=by simp [Rw]
 simp only [O9,WN,TK,t155,hl]
 by_cases h:p1.length≤1000
 ·rw [if_pos h,if_pos h];cases Ia p0 p1 <;> rfl
 ·rw [if_neg h,if_neg h];rfl
end
noncomputable section
open Go Hk
section
set_option maxHeartbeats 8000000
def Ws (mm:Nat) (CH:R):Option (mR×kO) :=
 (fun aA aB=>Ex.oH CH.1 ((kY true 3 aB aA).bind fun t55=>oM mm t55 aB)) (gd CH.2.1 0) CH.2.2
theorem Y1 (y0:Int) (y1:Int) (y2:Int) (y3:Int) (y4:Int) (y5:Int) (y6:Int) (y7:Int) (y8:Int) (y9:Int) (y10:Int) (y11:Int) (y12:Int) (y13:Int) (y14:Int) (y15:Int) (y16:Int) (y17:Int) (y18:Int) (y19:Int) (h:kO):lE 5 4 [zO,zO,zO,zO] [(0,(.agg [y0,y1,y2,y3])),(1,(.agg [y4,y5,y6,y7])),(2,(.agg [y8,y9,y10,y11])),(3,(.agg [y12,y13,y14,y15])),(4,(.agg [y16,y17,y18,y19]))] h=some (.slice (Rw rR.cells [(⟨y0,y1,y2,y3⟩:rR),(⟨y4,y5,y6,y7⟩:rR),(⟨y8,y9,y10,y11⟩:rR),(⟨y12,y13,y14,y15⟩:rR),(⟨y16,y17,y18,y19⟩:rR)]) (.own h.length),h++[qL 4 5]):=by
 rfl
theorem Y2 (y0:Int) (y1:Int) (y2:Int) (y3:Int) (h:kO):lE 1 4 [zO,zO,zO,zO] [(0,(.agg [y0,y1,y2,y3]))] h=some (.slice (Rw rR.cells [(⟨y0,y1,y2,y3⟩:rR)]) (.own h.length),h++[qL 4 1]):=by
 rfl
def avM (K:kT) (a0 a1 a2:kN) (h0:kO):Option (mR×kO) :=
 (kW (lR 8 h0 a1) fun aB aE=>kW (lR 3 aE (.agg [zO,zO,false])) fun aD aA=>fa 5 aB fun t24=>ld false 1 aA t24 fun aJ=>(lB [zO,zO,zO,zO] [(0,1),(1,1),(2,1),(3,1)] [(0,aJ),(1,(2:Int)),(2,(3:Int)),(3,(12:Int))]).bind fun aK=>fa 1 aB fun t27=>ld false 1 aA t27 fun aL=>(lB [zO,zO,zO,zO] [(0,1),(1,1),(2,1),(3,1)] [(0,aL),(1,zO),(2,(4:Int)),(3,(8:Int))]).bind fun t29=>fa 5 aB fun aM=>ld false 1 aA aM fun t31=>(lB [zO,zO,zO,zO] [(0,1),(1,1),(2,1),(3,1)] [(0,t31),(1,zO),(2,(2:Int)),(3,(6:Int))]).bind fun t32=>(lB [zO,zO,zO,zO] [(0,1),(1,1),(2,1),(3,1)] [(0,a2),(1,zO),(2,(2:Int)),(3,(4:Int))]).bind fun t33=>fa 3 aB fun aN=>ld false 1 aA aN fun t35=>(lB [zO,zO,zO,zO] [(0,1),(1,1),(2,1),(3,1)] [(0,t35),(1,zO),(2,(4:Int)),(3,zO)]).bind fun t36=>kW (lE 5 4 [zO,zO,zO,zO] [(0,aK),(1,t29),(2,t32),(3,t33),(4,t36)] aA) fun aO aF=>ca (K 155 [(kN.kP zO),(kN.kP aO)] aF) fun aP aC=>fa 2 aB fun t42=>ld false 1 aC t42 fun aQ=>(lB [zO,zO,zO,zO] [(0,1),(1,1),(2,1),(3,1)] [(0,aQ),(1,zO),(2,(4:Int)),(3,zO)]).bind fun aR=>kW (lE 1 4 [zO,zO,zO,zO] [(0,aR)] aC) fun t45 aG=>ca (K 155 [(kN.kP a0),(kN.kP t45)] aG) fun aS aH=>(lB [zO,zO,false] [(0,1),(1,1),(2,1)] [(0,aS),(1,aP),(2,true)]).bind fun aT=>(kR 3 aH aD aT).bind fun aI=>some (.ret,[aD],aI)).bind (Ws (aa5 h0))
theorem aaG K a0 a1 a2 h0:nN K 140 [a0,a1,a2] h0=avM (lG mJ K) a0 a1 a2 h0:=by kernel_rfl
def t140 (p0:Int) (p1:lL) (p2:Int):Option (G8) :=
 tb ((t155 0 [(⟨p1.imm,2,3,12⟩:rR),(⟨p1.rd,0,4,8⟩:rR),(⟨p1.imm,0,2,6⟩:rR),(⟨p2,0,2,4⟩:rR),(⟨p1.rm,0,4,0⟩:rR)])) fun aA=>tb ((t155 p0 [(⟨p1.rn,0,4,0⟩:rR)])) fun Ph=>some (⟨Ph,aA,true⟩:G8)
theorem Gp (p0:Int) (p1:lL) (p2:Int) (h:kO):KK 140 [p0,(.agg [p1.op,p1.rd,p1.rn,p1.rm,p1.ra,p1.imm,p1.cond,p1.wide]),p2] h=tm (t140 p0 p1 p2) fun r=>(.ret (.agg [r.first,r.second,r.long]),h):=lJ rfl rfl (aaG ..) (by
 simp [-rZ,-oZ,-oJ,-p5,-pV,-qX,-qY,avM,t140,Y1,Pf,Y2,Ws])
def Wr (mm:Nat) (aB:R):Option (mR×kO) :=
 (fun aA aC=>Ex.oH aB.1 ((kY true 3 aC aA).bind fun t54=>oM mm t54 aC)) (gd aB.2.1 0) aB.2.2
theorem YZ (y0:Int) (y1:Int) (y2:Int) (y3:Int) (y4:Int) (y5:Int) (y6:Int) (y7:Int) (h:kO):lE 2 4 [zO,zO,zO,zO] [(0,(.agg [y0,y1,y2,y3])),(1,(.agg [y4,y5,y6,y7]))] h=some (.slice (Rw rR.cells [(⟨y0,y1,y2,y3⟩:rR),(⟨y4,y5,y6,y7⟩:rR)]) (.own h.length),h++[qL 4 2]):=by
 rfl
theorem Y0 (y0:Int) (y1:Int) (y2:Int) (y3:Int) (y4:Int) (y5:Int) (y6:Int) (y7:Int) (y8:Int) (y9:Int) (y10:Int) (y11:Int) (h:kO):lE 3 4 [zO,zO,zO,zO] [(0,(.agg [y0,y1,y2,y3])),(1,(.agg [y4,y5,y6,y7])),(2,(.agg [y8,y9,y10,y11]))] h=some (.slice (Rw rR.cells [(⟨y0,y1,y2,y3⟩:rR),(⟨y4,y5,y6,y7⟩:rR),(⟨y8,y9,y10,y11⟩:rR)]) (.own h.length),h++[qL 4 3]):=by
 rfl
def avL (K:kT) (a0 a1:kN) (h0:kO):Option (mR×kO) :=
 (kW (lR 8 h0 a1) fun aA aE=>kW (lR 3 aE (.agg [zO,zO,false])) fun aD aC=>fa 5 aA fun t24=>ld false 1 aC t24 fun aJ=>(lB [zO,zO,zO,zO] [(0,1),(1,1),(2,1),(3,1)] [(0,aJ),(1,(11:Int)),(2,(1:Int)),(3,(10:Int))]).bind fun aK=>fa 5 aA fun t27=>ld false 1 aC t27 fun aL=>(lB [zO,zO,zO,zO] [(0,1),(1,1),(2,1),(3,1)] [(0,aL),(1,(12:Int)),(2,(4:Int)),(3,zO)]).bind fun t29=>kW (lE 2 4 [zO,zO,zO,zO] [(0,aK),(1,t29)] aC) fun aM aF=>ca (K 155 [(kN.kP a0),(kN.kP aM)] aF) fun t32 aB=>fa 5 aA fun t35=>ld false 1 aB t35 fun t36=>(lB [zO,zO,zO,zO] [(0,1),(1,1),(2,1),(3,1)] [(0,t36),(1,(8:Int)),(2,(3:Int)),(3,(12:Int))]).bind fun aN=>fa 1 aA fun t38=>ld false 1 aB t38 fun aO=>(lB [zO,zO,zO,zO] [(0,1),(1,1),(2,1),(3,1)] [(0,aO),(1,zO),(2,(4:Int)),(3,(8:Int))]).bind fun aP=>fa 5 aA fun aQ=>ld false 1 aB aQ fun t42=>(lB [zO,zO,zO,zO] [(0,1),(1,1),(2,1),(3,1)] [(0,t42),(1,zO),(2,(8:Int)),(3,zO)]).bind fun aR=>kW (lE 3 4 [zO,zO,zO,zO] [(0,aN),(1,aP),(2,aR)] aB) fun aS aG=>ca (K 155 [(kN.kP zO),(kN.kP aS)] aG) fun t46 aH=>(lB [zO,zO,false] [(0,1),(1,1),(2,1)] [(0,t32),(1,t46),(2,true)]).bind fun t49=>(kR 3 aH aD t49).bind fun aI=>some (.ret,[aD],aI)).bind (Wr (aa5 h0))
theorem aaF K a0 a1 h0:nN K 139 [a0,a1] h0=avL (lG mJ K) a0 a1 h0:=by kernel_rfl
def t139 (p0:Int) (p1:lL):Option (G8) :=
 tb ((t155 p0 [(⟨p1.imm,11,1,10⟩:rR),(⟨p1.imm,12,4,0⟩:rR)])) fun aA=>tb ((t155 0 [(⟨p1.imm,8,3,12⟩:rR),(⟨p1.rd,0,4,8⟩:rR),(⟨p1.imm,0,8,0⟩:rR)])) fun Pg=>some (⟨aA,Pg,true⟩:G8)
theorem axA (p0:Int) (p1:lL) (h:kO):KK 139 [p0,(.agg [p1.op,p1.rd,p1.rn,p1.rm,p1.ra,p1.imm,p1.cond,p1.wide])] h=tm (t139 p0 p1) fun r=>(.ret (.agg [r.first,r.second,r.long]),h):=lJ rfl rfl (aaF ..) (by
 simp [-rZ,-oZ,-oJ,-p5,-pV,-qX,-qY,avL,t139,YZ,Pf,Y0,Wr])
def Wu (mm:Nat) (yP:R):Option (mR×kO) :=
 (fun aA aB=>Ex.oH yP.1 ((kY true 3 aB aA).bind fun aC=>oM mm aC aB)) (gd yP.2.1 0) yP.2.2
theorem Y6 (y0:Int) (y1:Int) (y2:Int) (y3:Int) (y4:Int) (y5:Int) (y6:Int) (y7:Int) (h:kO):lE 2 4 [zO,zO,zO,zO] [(0,(.agg [y0,y1,y2,y3])),(1,(.agg [y4,y5,y6,y7]))] h=some (.slice (Rw rR.cells [(⟨y0,y1,y2,y3⟩:rR),(⟨y4,y5,y6,y7⟩:rR)]) (.own h.length),h++[qL 4 2]):=by
 rfl
def av1 (K:kT) (a0 a1 a2:kN) (h0:kO):Option (mR×kO) :=
 (kW (lR 3 h0 (.agg [zO,zO,false])) fun aA aB=>(lB [zO,zO,zO,zO] [(0,1),(1,1),(2,1),(3,1)] [(0,a1),(1,zO),(2,(3:Int)),(3,zO)]).bind fun aF=>(lB [zO,zO,zO,zO] [(0,1),(1,1),(2,1),(3,1)] [(0,a2),(1,zO),(2,(3:Int)),(3,(3:Int))]).bind fun aG=>kW (lE 2 4 [zO,zO,zO,zO] [(0,aF),(1,aG)] aB) fun t24 aC=>ca (K 155 [(kN.kP a0),(kN.kP t24)] aC) fun aH aD=>(lB [zO,zO,false] [(0,1),(1,1),(2,1)] [(0,aH)]).bind fun t29=>(kR 3 aD aA t29).bind fun aE=>some (.ret,[aA],aE)).bind (Wu (aa5 h0))
theorem aaV K a0 a1 a2 h0:nN K 156 [a0,a1,a2] h0=av1 (lG mJ K) a0 a1 a2 h0:=by kernel_rfl
def t156 (p0:Int) (p1:Int) (p2:Int):Option (G8) :=
 tb ((t155 p0 [(⟨p1,0,3,0⟩:rR),(⟨p2,0,3,3⟩:rR)])) fun aA=>some (⟨aA,0,false⟩:G8)
theorem aD6 (p0:Int) (p1:Int) (p2:Int) (h:kO):KK 156 [p0,p1,p2] h=tm (t156 p0 p1 p2) fun r=>(.ret (.agg [r.first,r.second,r.long]),h):=lJ rfl rfl (aaV ..) (by
 simp [-rZ,-oZ,-oJ,-p5,-pV,-qX,-qY,av1,t156,Y6,Pf,Wu])
def Wv (mm:Nat) (PG:R):Option (mR×kO) :=
 (fun aA aB=>Ex.oH PG.1 ((kY true 3 aB aA).bind fun t100=>oM mm t100 aB)) (gd PG.2.1 0) PG.2.2
theorem Y7 (y0:Int) (y1:Int) (y2:Int) (y3:Int) (h:kO):lE 1 4 [zO,zO,zO,zO] [(0,(.agg [y0,y1,y2,y3]))] h=some (.slice (Rw rR.cells [(⟨y0,y1,y2,y3⟩:rR)]) (.own h.length),h++[qL 4 1]):=by
 rfl
theorem Y8 (y0:Int) (y1:Int) (y2:Int) (y3:Int) (y4:Int) (y5:Int) (y6:Int) (y7:Int) (y8:Int) (y9:Int) (y10:Int) (y11:Int) (h:kO):lE 3 4 [zO,zO,zO,zO] [(0,(.agg [y0,y1,y2,y3])),(1,(.agg [y4,y5,y6,y7])),(2,(.agg [y8,y9,y10,y11]))] h=some (.slice (Rw rR.cells [(⟨y0,y1,y2,y3⟩:rR),(⟨y4,y5,y6,y7⟩:rR),(⟨y8,y9,y10,y11⟩:rR)]) (.own h.length),h++[qL 4 3]):=by
 rfl
theorem Y9 (y0:Int) (y1:Int) (y2:Int) (y3:Int) (y4:Int) (y5:Int) (y6:Int) (y7:Int) (h:kO):lE 2 4 [zO,zO,zO,zO] [(0,(.agg [y0,y1,y2,y3])),(1,(.agg [y4,y5,y6,y7]))] h=some (.slice (Rw rR.cells [(⟨y0,y1,y2,y3⟩:rR),(⟨y4,y5,y6,y7⟩:rR)]) (.own h.length),h++[qL 4 2]):=by
 rfl
theorem Y_ (y0:Int) (y1:Int) (y2:Int) (y3:Int) (y4:Int) (y5:Int) (y6:Int) (y7:Int) (h:kO):lE 2 4 [zO,zO,zO,zO] [(0,(.agg [y0,y1,y2,y3])),(1,(.agg [y4,y5,y6,y7]))] h=some (.slice (Rw rR.cells [(⟨y0,y1,y2,y3⟩:rR),(⟨y4,y5,y6,y7⟩:rR)]) (.own h.length),h++[qL 4 2]):=by
 rfl
theorem Za (y0:Int) (y1:Int) (y2:Int) (y3:Int) (y4:Int) (y5:Int) (y6:Int) (y7:Int) (h:kO):lE 2 4 [zO,zO,zO,zO] [(0,(.agg [y0,y1,y2,y3])),(1,(.agg [y4,y5,y6,y7]))] h=some (.slice (Rw rR.cells [(⟨y0,y1,y2,y3⟩:rR),(⟨y4,y5,y6,y7⟩:rR)]) (.own h.length),h++[qL 4 2]):=by
 rfl
def av2 (K:kT) (a0:kN) (h0:kO):Option (mR×kO) :=
 (kW (lR 8 h0 a0) fun aA aH=>kW (lR 3 aH (.agg [zO,zO,false])) fun aC aE=>fa 5 aA fun t24=>ld false 1 aE t24 fun aS=>bo .shr aS (.int .u64 24) fun aT=>bo .and aT (1:Int) fun aD=>fa 5 aA fun t29=>ld false 1 aE t29 fun aU=>(lB [zO,zO,zO,zO] [(0,1),(1,1),(2,1),(3,1)] [(0,aU),(1,(1:Int)),(2,(11:Int)),(3,zO)]).bind fun t31=>kW (lE 1 4 [zO,zO,zO,zO] [(0,t31)] aE) fun t32 aI=>ca (K 155 [(kN.kP zO),(kN.kP t32)] aI) fun aG aB=>fa 0 aA fun aV=>ld false 1 aB aV fun t38=>bo .eql t38 (25:Int) fun aW=>kV aW ((lB [zO,zO,zO,zO] [(0,1),(1,1),(2,1),(3,1)] [(0,aD),(1,zO),(2,(1:Int)),(3,(10:Int))]).bind fun aX=>fa 6 aA fun aY=>ld false 1 aB aY fun t42=>(lB [zO,zO,zO,zO] [(0,1),(1,1),(2,1),(3,1)] [(0,t42),(1,zO),(2,(4:Int)),(3,(6:Int))]).bind fun aZ=>fa 5 aA fun a_=>ld false 1 aB a_ fun t45=>(lB [zO,zO,zO,zO] [(0,1),(1,1),(2,1),(3,1)] [(0,t45),(1,(12:Int)),(2,(6:Int)),(3,zO)]).bind fun t46=>kW (lE 3 4 [zO,zO,zO,zO] [(0,aX),(1,aZ),(2,t46)] aB) fun bA aJ=>ca (K 155 [(kN.kP (61440:Int)),(kN.kP bA)] aJ) fun t49 aF=>bo .or aG (32768:Int) fun t52=>fa 5 aA fun t53=>ld false 1 aF t53 fun t54=>(lB [zO,zO,zO,zO] [(0,1),(1,1),(2,1),(3,1)] [(0,t54),(1,(18:Int)),(2,(1:Int)),(3,(13:Int))]).bind fun t55=>fa 5 aA fun bB=>ld false 1 aF bB fun t57=>(lB [zO,zO,zO,zO] [(0,1),(1,1),(2,1),(3,1)] [(0,t57),(1,(19:Int)),(2,(1:Int)),(3,(11:Int))]).bind fun bD=>kW (lE 2 4 [zO,zO,zO,zO] [(0,t55),(1,bD)] aF) fun bE aK=>ca (K 155 [(kN.kP t52),(kN.kP bE)] aK) fun bF aL=>(lB [zO,zO,false] [(0,1),(1,1),(2,1)] [(0,t49),(1,bF),(2,true)]).bind fun t64=>(kR 3 aL aC t64).bind fun aM=>some (.ret,[aC],aM)) (fa 5 aA fun t66=>ld false 1 aB t66 fun t67=>bo .shr t67 (.int .u64 23) fun t68=>(vN .xor t68).bind fun bG=>bo .xor bG aD fun t71=>fa 5 aA fun t72=>ld false 1 aB t72 fun t73=>bo .shr t73 (.int .u64 22) fun t74=>(vN .xor t74).bind fun t76=>bo .xor t76 aD fun t77=>(lB [zO,zO,zO,zO] [(0,1),(1,1),(2,1),(3,1)] [(0,aD),(1,zO),(2,(1:Int)),(3,(10:Int))]).bind fun t78=>fa 5 aA fun bH=>ld false 1 aB bH fun t80=>(lB [zO,zO,zO,zO] [(0,1),(1,1),(2,1),(3,1)] [(0,t80),(1,(12:Int)),(2,(10:Int)),(3,zO)]).bind fun bI=>kW (lE 2 4 [zO,zO,zO,zO] [(0,t78),(1,bI)] aB) fun bJ aN=>ca (K 155 [(kN.kP (61440:Int)),(kN.kP bJ)] aN) fun bK aO=>bo .or aG (36864:Int) fun t87=>(lB [zO,zO,zO,zO] [(0,1),(1,1),(2,1),(3,1)] [(0,t71),(1,zO),(2,(1:Int)),(3,(13:Int))]).bind fun t88=>(lB [zO,zO,zO,zO] [(0,1),(1,1),(2,1),(3,1)] [(0,t77),(1,zO),(2,(1:Int)),(3,(11:Int))]).bind fun t89=>kW (lE 2 4 [zO,zO,zO,zO] [(0,t88),(1,t89)] aO) fun t90 aP=>ca (K 155 [(kN.kP t87),(kN.kP t90)] aP) fun t92 aQ=>(lB [zO,zO,false] [(0,1),(1,1),(2,1)] [(0,bK),(1,t92),(2,true)]).bind fun t95=>(kR 3 aQ aC t95).bind fun aR=>some (.ret,[aC],aR))).bind (Wv (aa5 h0))
theorem aaW K a0 h0:nN K 157 [a0] h0=av2 (lG mJ K) a0 h0:=by kernel_rfl
def t157 (p0:lL):Option (G8) :=
 tb ((sX .i64 p0.imm 24)) fun aA=>tb ((t155 0 [(⟨p0.imm,1,11,0⟩:rR)])) fun Co=>tc (decide (p0.op=25)) (tb ((t155 61440 [(⟨(rC .i64 aA 1),0,1,10⟩:rR),(⟨p0.cond,0,4,6⟩:rR),(⟨p0.imm,12,6,0⟩:rR)])) fun aD=>tb ((t155 (sD .i64 Co 32768) [(⟨p0.imm,18,1,13⟩:rR),(⟨p0.imm,19,1,11⟩:rR)])) fun r63=>some (⟨aD,r63,true⟩:G8)) (tb ((sX .i64 p0.imm 23)) fun aB=>tb ((sX .i64 p0.imm 22)) fun aC=>tb ((t155 61440 [(⟨(rC .i64 aA 1),0,1,10⟩:rR),(⟨p0.imm,12,10,0⟩:rR)])) fun aE=>tb ((t155 (sD .i64 Co 36864) [(⟨(C5 .i64 (Pu .i64 aB) (rC .i64 aA 1)),0,1,13⟩:rR),(⟨(C5 .i64 (Pu .i64 aC) (rC .i64 aA 1)),0,1,11⟩:rR)])) fun Jq=>some (⟨aE,Jq,true⟩:G8))
theorem axD (p0:lL) (h:kO):KK 157 [(.agg [p0.op,p0.rd,p0.rn,p0.rm,p0.ra,p0.imm,p0.cond,p0.wide])] h=tm (t157 p0) fun r=>(.ret (.agg [r.first,r.second,r.long]),h):=lJ rfl rfl (aaW ..) (by
 simp [-rZ,-oZ,-oJ,-p5,-pV,-qX,-qY,av2,t157,Y7,Pf,Y8,Y9,Y_,Za,Wv])
def Wt (mm:Nat) (aA:R):Option (mR×kO) :=
 (fun aB aC=>Ex.oH aA.1 ((kY true 3 aC aB).bind fun aD=>oM mm aD aC)) (gd aA.2.1 0) aA.2.2
theorem Y3 (y0:Int) (y1:Int) (y2:Int) (y3:Int) (y4:Int) (y5:Int) (y6:Int) (y7:Int) (y8:Int) (y9:Int) (y10:Int) (y11:Int) (h:kO):lE 3 4 [zO,zO,zO,zO] [(0,(.agg [y0,y1,y2,y3])),(1,(.agg [y4,y5,y6,y7])),(2,(.agg [y8,y9,y10,y11]))] h=some (.slice (Rw rR.cells [(⟨y0,y1,y2,y3⟩:rR),(⟨y4,y5,y6,y7⟩:rR),(⟨y8,y9,y10,y11⟩:rR)]) (.own h.length),h++[qL 4 3]):=by
 rfl
theorem Y4 (y0:Int) (y1:Int) (y2:Int) (y3:Int) (h:kO):lE 1 4 [zO,zO,zO,zO] [(0,(.agg [y0,y1,y2,y3]))] h=some (.slice (Rw rR.cells [(⟨y0,y1,y2,y3⟩:rR)]) (.own h.length),h++[qL 4 1]):=by
 rfl
theorem Y5 (y0:Int) (y1:Int) (y2:Int) (y3:Int) (y4:Int) (y5:Int) (y6:Int) (y7:Int) (h:kO):lE 2 4 [zO,zO,zO,zO] [(0,(.agg [y0,y1,y2,y3])),(1,(.agg [y4,y5,y6,y7]))] h=some (.slice (Rw rR.cells [(⟨y0,y1,y2,y3⟩:rR),(⟨y4,y5,y6,y7⟩:rR)]) (.own h.length),h++[qL 4 2]):=by
 rfl
def avN (K:kT) (a0:kN) (h0:kO):Option (mR×kO) :=
 (kW (lR 8 h0 a0) fun aB bD=>kW (lR 3 bD (.agg [zO,zO,false])) fun aC aA=>fa 0 aB fun t24=>ld false 1 aA t24 fun aD=>bo .eql aD (16:Int) fun bM=>kV bM (ld true 8 aA aB fun t27=>ca (K 140 [(kN.kP (64256:Int)),(kN.kP t27),(kN.kP zO)] aA) fun bN bE=>kW (lR 3 bE (.agg [zO,zO,false])) fun t31 bF=>(kR 3 bF t31 bN).bind fun a_=>fa 1 t31 fun bO=>ld false 1 a_ bO fun t35=>bo .or t35 (61440:Int) fun t36=>fa 1 t31 fun bP=>(kR 1 a_ bP t36).bind fun bA=>ld true 3 bA t31 fun bQ=>(kR 3 bA aC bQ).bind fun bG=>some (.ret,[aC],bG)) (bo .eql aD (17:Int) fun bR=>kV bR (fa 2 aB fun t42=>ld false 1 aA t42 fun bS=>bo .or (64416:Int) bS fun bT=>fa 1 aB fun t45=>ld false 1 aA t45 fun t46=>bo .shl t46 (.int .u64 12) fun bU=>fa 4 aB fun t49=>ld false 1 aA t49 fun bV=>bo .shl bV (.int .u64 8) fun bW=>bo .or bU bW fun t53=>fa 3 aB fun t54=>ld false 1 aA t54 fun t55=>bo .or t53 t55 fun bX=>(lB [zO,zO,false] [(0,1),(1,1),(2,1)] [(0,bT),(1,bX),(2,true)]).bind fun t57=>(kR 3 aA aC t57).bind fun bH=>some (.ret,[aC],bH)) (bo .eql aD (18:Int) fun bY=>kV bY (fa 2 aB fun aE=>ld false 1 aA aE fun bZ=>bo .or (62304:Int) bZ fun t62=>fa 5 aB fun t63=>ld false 1 aA t63 fun t64=>fa 4 aB fun t65=>ld false 1 aA t65 fun t66=>bo .add t64 t66 fun t67=>bo .sub t67 (1:Int) fun t68=>fa 5 aB fun b_=>ld false 1 aA b_ fun cA=>(lB [zO,zO,zO,zO] [(0,1),(1,1),(2,1),(3,1)] [(0,cA),(1,(2:Int)),(2,(3:Int)),(3,(12:Int))]).bind fun t71=>fa 1 aB fun t72=>ld false 1 aA t72 fun t73=>(lB [zO,zO,zO,zO] [(0,1),(1,1),(2,1),(3,1)] [(0,t73),(1,zO),(2,(4:Int)),(3,(8:Int))]).bind fun t74=>fa 5 aB fun t75=>ld false 1 aA t75 fun t76=>(lB [zO,zO,zO,zO] [(0,1),(1,1),(2,1),(3,1)] [(0,t76),(1,zO),(2,(2:Int)),(3,(6:Int))]).bind fun t77=>kW (lE 3 4 [zO,zO,zO,zO] [(0,t71),(1,t74),(2,t77)] (oR (lA [0,1,2] [aE,t63,t65]) aA)) fun t78 bB=>ca (K 155 [(kN.kP t68),(kN.kP t78)] (oR (lA [0] [aE]) (lO (lA [0,1,2] [aE,t63,t65]) aA bB))) fun t80 bI=>(lB [zO,zO,false] [(0,1),(1,1),(2,1)] [(0,t62),(1,t80),(2,true)]).bind fun cB=>(kR 3 (lO (lA [0] [aE]) (lO (lA [0,1,2] [aE,t63,t65]) aA bB) bI) aC cB).bind fun bJ=>some (.ret,[aC],bJ)) (bo .eql aD (19:Int) fun t85=>kV t85 (fa 1 aB fun cC=>ld false 1 aA cC fun t87=>fa 2 aB fun t88=>ld false 1 aA t88 fun t89=>ca (K 156 [(kN.kP (26624:Int)),(kN.kP t87),(kN.kP t89)] aA) fun t90 bK=>(kR 3 bK aC t90).bind fun bL=>some (.ret,[aC],bL)) (bo .eql aD (20:Int) fun t94=>kV t94 (fa 1 aB fun t95=>ld false 1 aA t95 fun t96=>fa 2 aB fun t97=>ld false 1 aA t97 fun t98=>ca (K 156 [(kN.kP (24576:Int)),(kN.kP t96),(kN.kP t98)] aA) fun cD aF=>(kR 3 aF aC cD).bind fun aG=>some (.ret,[aC],aG)) (bo .eql aD (21:Int) fun t103=>kV t103 (fa 1 aB fun t104=>ld false 1 aA t104 fun t105=>fa 2 aB fun t106=>ld false 1 aA t106 fun t107=>ca (K 156 [(kN.kP (30720:Int)),(kN.kP t105),(kN.kP t107)] aA) fun t108 aH=>(kR 3 aH aC t108).bind fun aI=>some (.ret,[aC],aI)) (bo .eql aD (22:Int) fun t112=>kV t112 (fa 1 aB fun aV=>ld false 1 aA aV fun t114=>fa 2 aB fun t115=>ld false 1 aA t115 fun t116=>ca (K 156 [(kN.kP (28672:Int)),(kN.kP t114),(kN.kP t116)] aA) fun t117 aJ=>(kR 3 aJ aC t117).bind fun aK=>some (.ret,[aC],aK)) (bo .eql aD (23:Int) fun t121=>kV t121 (fa 2 aB fun t122=>ld false 1 aA t122 fun t123=>fa 3 aB fun t124=>ld false 1 aA t124 fun t125=>ca (K 156 [(kN.kP (17024:Int)),(kN.kP t123),(kN.kP t125)] aA) fun t126 aL=>(kR 3 aL aC t126).bind fun aM=>some (.ret,[aC],aM)) (fa 7 aB fun t130=>ld false 1 aA t130 fun t131=>kV t131 (ld true 8 aA aB fun t132=>ca (K 157 [(kN.kP t132)] aA) fun aW aN=>(kR 3 aN aC aW).bind fun aO=>some (.ret,[aC],aO)) (fa 0 aB fun t137=>ld false 1 aA t137 fun t138=>bo .eql t138 (24:Int) fun t139=>kV t139 (fa 5 aB fun t140=>ld false 1 aA t140 fun t141=>(lB [zO,zO,zO,zO] [(0,1),(1,1),(2,1),(3,1)] [(0,t141),(1,(1:Int)),(2,(11:Int)),(3,zO)]).bind fun t142=>kW (lE 1 4 [zO,zO,zO,zO] [(0,t142)] aA) fun t143 aP=>ca (K 155 [(kN.kP (57344:Int)),(kN.kP t143)] aP) fun t145 aQ=>(lB [zO,zO,false] [(0,1),(1,1),(2,1)] [(0,t145)]).bind fun t148=>(kR 3 aQ aC t148).bind fun aR=>some (.ret,[aC],aR)) (fa 6 aB fun t150=>ld false 1 aA t150 fun t151=>(lB [zO,zO,zO,zO] [(0,1),(1,1),(2,1),(3,1)] [(0,t151),(1,zO),(2,(4:Int)),(3,(8:Int))]).bind fun t152=>fa 5 aB fun aX=>ld false 1 aA aX fun t154=>(lB [zO,zO,zO,zO] [(0,1),(1,1),(2,1),(3,1)] [(0,t154),(1,(1:Int)),(2,(8:Int)),(3,zO)]).bind fun t155=>kW (lE 2 4 [zO,zO,zO,zO] [(0,t152),(1,t155)] aA) fun t156 aS=>ca (K 155 [(kN.kP (53248:Int)),(kN.kP t156)] aS) fun aY aT=>(lB [zO,zO,false] [(0,1),(1,1),(2,1)] [(0,aY)]).bind fun aZ=>(kR 3 aT aC aZ).bind fun aU=>some (.ret,[aC],aU)))))))))))).bind (Wt (aa5 h0))
theorem aaH K a0 h0:nN K 141 [a0] h0=avN (lG mJ K) a0 h0:=by kernel_rfl
def t141 (p0:lL):Option (G8) :=
 tc (decide (p0.op=16)) (tb ((t140 64256 p0 0)) fun aD=>some (⟨aD.first,(sD .i64 aD.second 61440),aD.long⟩:G8)) (tc (decide (p0.op=17)) (tb ((qP .i64 p0.rd 12)) fun aE=>tb ((qP .i64 p0.ra 8)) fun aF=>some (⟨(sD .i64 64416 p0.rn),(sD .i64 (sD .i64 aE aF) p0.rm),true⟩:G8)) (tc (decide (p0.op=18)) (tb ((t155 (IntKind.wrap .i64 ((IntKind.wrap .i64 (p0.imm+p0.ra))-1)) [(⟨p0.imm,2,3,12⟩:rR),(⟨p0.rd,0,4,8⟩:rR),(⟨p0.imm,0,2,6⟩:rR)])) fun aG=>some (⟨(sD .i64 62304 p0.rn),aG,true⟩:G8)) (tc (decide (p0.op=19)) (tb ((t156 26624 p0.rd p0.rn)) fun Nd=>some Nd) (tc (decide (p0.op=20)) (tb ((t156 24576 p0.rd p0.rn)) fun DW=>some DW) (tc (decide (p0.op=21)) (tb ((t156 30720 p0.rd p0.rn)) fun Fc=>some Fc) (tc (decide (p0.op=22)) (tb ((t156 28672 p0.rd p0.rn)) fun aA=>some aA) (tc (decide (p0.op=23)) (tb ((t156 17024 p0.rn p0.rm)) fun al8=>some al8) (tc p0.wide (tb ((t157 p0)) fun aB=>some aB) (tc (decide (p0.op=24)) (tb ((t155 57344 [(⟨p0.imm,1,11,0⟩:rR)])) fun AX=>some (⟨AX,0,false⟩:G8)) (tb ((t155 53248 [(⟨p0.cond,0,4,8⟩:rR),(⟨p0.imm,1,8,0⟩:rR)])) fun aC=>some (⟨aC,0,false⟩:G8)))))))))))
theorem M7 (p0:lL) (h:kO):KK 141 [(.agg [p0.op,p0.rd,p0.rn,p0.rm,p0.ra,p0.imm,p0.cond,p0.wide])] h=tm (t141 p0) fun r=>(.ret (.agg [r.first,r.second,r.long]),h):=lJ rfl rfl (aaH ..) (by
 simp -implicitDefEqProofs (maxSteps:=2000000) [-rZ,-oZ,-oJ,-p5,-pV,-qX,-qY,avN,t141,Gp,Y3,Pf,aD6,axD,Y4,Y5,Wt])
def Wq (mm:Nat) (xA:R):Option (mR×kO) :=
 (fun aA aB=>Ex.oH xA.1 ((kY true 3 aB aA).bind fun aC=>oM mm aC aB)) (gd xA.2.1 0) xA.2.2
def LL (K:kT) (m:Nat) (t55:kN) (aC:kN) (aD:kN) (aA:kN) (aB:kO):Option R :=
 kV t55 (kZ m .normal [aC,aD,aA,t55] aB) (bo .eql aA (8:Int) fun t57=>kZ m .normal [aC,aD,aA,t57] aB)
def oG (aA:Bool) (p0:lL):Option (Bool) :=
 tc aA (some aA) (some (decide (p0.op=8)))
theorem ab0 (w56:Bool) (p0:lL):(LL KK 2 w56 (.ptr 0 0) (.ptr 1 0) p0.op ([.cells [p0.op,p0.rd,p0.rn,p0.rm,p0.ra,p0.imm,p0.cond,p0.wide],.cells [zO,zO,false]]:kO))=tm (β:=R) (oG w56 p0) fun r=>(.normal,[(.ptr 0 0),(.ptr 1 0),p0.op,r],([.cells [p0.op,p0.rd,p0.rn,p0.rm,p0.ra,p0.imm,p0.cond,p0.wide],.cells [zO,zO,false]]:kO)):=by
 cases w56 <;> simp [-rZ,-oZ,-oJ,-p5,-pV,-qX,-qY,LL,oG]
def LJ (K:kT) (m:Nat) (t53:kN) (aH:kN) (aI:kN) (aG:kN) (aF:kO):Option R :=
 kV t53 (kZ m .normal [aH,aI,aG,t53] aF) (bo .eql aG (7:Int) fun t55=>(LL K (aa5 aF) t55 aH aI aG aF).bind fun aB=>(fun aC aD aE aA aJ=>Ex.pR aB.1 (kZ m .normal [aC,aD,aE,aA] aJ)) (gd aB.2.1 0) (gd aB.2.1 1) (gd aB.2.1 2) (gd aB.2.1 3) aB.2.2)
def oF (aA:Bool) (p0:lL):Option (Bool) :=
 tc aA (some aA) (tb (oG (decide (p0.op=7)) p0) fun aB=>some aB)
theorem abZ (w54:Bool) (p0:lL):(LJ KK 2 w54 (.ptr 0 0) (.ptr 1 0) p0.op ([.cells [p0.op,p0.rd,p0.rn,p0.rm,p0.ra,p0.imm,p0.cond,p0.wide],.cells [zO,zO,false]]:kO))=tm (β:=R) (oF w54 p0) fun r=>(.normal,[(.ptr 0 0),(.ptr 1 0),p0.op,r],([.cells [p0.op,p0.rd,p0.rn,p0.rm,p0.ra,p0.imm,p0.cond,p0.wide],.cells [zO,zO,false]]:kO)):=by
 cases w54 <;> simp [-rZ,-oZ,-oJ,-p5,-pV,-qX,-qY,LJ,oF,ab0]
def LI (K:kT) (m:Nat) (aI:kN) (aG:kN) (aH:kN) (aF:kN) (aE:kO):Option R :=
 kV aI (kZ m .normal [aG,aH,aF,aI] aE) (bo .eql aF (6:Int) fun t53=>(LJ K (aa5 aE) t53 aG aH aF aE).bind fun Og=>(fun aB aC aD aA aJ=>Ex.pR Og.1 (kZ m .normal [aB,aC,aD,aA] aJ)) (gd Og.2.1 0) (gd Og.2.1 1) (gd Og.2.1 2) (gd Og.2.1 3) Og.2.2)
def oE (aA:Bool) (p0:lL):Option (Bool) :=
 tc aA (some aA) (tb (oF (decide (p0.op=6)) p0) fun Og=>some Og)
theorem abY (w52:Bool) (p0:lL):(LI KK 2 w52 (.ptr 0 0) (.ptr 1 0) p0.op ([.cells [p0.op,p0.rd,p0.rn,p0.rm,p0.ra,p0.imm,p0.cond,p0.wide],.cells [zO,zO,false]]:kO))=tm (β:=R) (oE w52 p0) fun r=>(.normal,[(.ptr 0 0),(.ptr 1 0),p0.op,r],([.cells [p0.op,p0.rd,p0.rn,p0.rm,p0.ra,p0.imm,p0.cond,p0.wide],.cells [zO,zO,false]]:kO)):=by
 cases w52 <;> simp [-rZ,-oZ,-oJ,-p5,-pV,-qX,-qY,LI,oE,abZ]
def au6 (K:kT) (a0:kN) (h0:kO):Option (mR×kO) :=
 (kW (lR 8 h0 a0) fun aJ aX=>kW (lR 3 aX (.agg [zO,zO,false])) fun aF aE=>fa 0 aJ fun t24=>ld false 1 aE t24 fun aI=>bo .eql aI (1:Int) fun bL=>kV bL ((lB [zO,zO,false] [(0,1),(1,1),(2,1)] [(0,(48896:Int))]).bind fun t27=>(kR 3 aE aF t27).bind fun aY=>some (.ret,[aF],aY)) (bo .eql aI (2:Int) fun t29=>kV t29 (fa 5 aJ fun bM=>ld false 1 aE bM fun t31=>bo .or (48640:Int) t31 fun t32=>(lB [zO,zO,false] [(0,1),(1,1),(2,1)] [(0,t32)]).bind fun t33=>(kR 3 aE aF t33).bind fun aZ=>some (.ret,[aF],aZ)) (bo .eql aI (3:Int) fun t35=>kV t35 (ld true 8 aE aJ fun t36=>ca (K 139 [(kN.kP (62016:Int)),(kN.kP t36)] aE) fun bN a_=>(kR 3 a_ aF bN).bind fun bA=>some (.ret,[aF],bA)) (bo .eql aI (4:Int) fun bO=>kV bO (ld true 8 aE aJ fun t42=>ca (K 139 [(kN.kP (62144:Int)),(kN.kP t42)] aE) fun bP bB=>(kR 3 bB aF bP).bind fun bD=>some (.ret,[aF],bD)) (bo .eql aI (5:Int) fun bQ=>(LI K (aa5 aE) bQ aJ aF aI aE).bind fun aH=>(fun aB aA aC aG aD=>Ex.pR aH.1 (kV aG (ld true 8 aD aB fun t76=>fa 0 aB fun t77=>ld false 1 aD t77 fun t78=>bo .sub t78 (5:Int) fun bR=>ca (K 140 [(kN.kP (59983:Int)),(kN.kP t76),(kN.kP bR)] aD) fun t80 bE=>(kR 3 bE aA t80).bind fun bF=>some (.ret,[aA],bF)) (bo .eql aC (9:Int) fun bS=>kV bS (ld true 8 aD aB fun t85=>ca (K 140 [(kN.kP (60015:Int)),(kN.kP t85),(kN.kP zO)] aD) fun bT bG=>(kR 3 bG aA bT).bind fun bH=>some (.ret,[aA],bH)) (bo .eql aC (10:Int) fun t90=>kV t90 (ld true 8 aD aB fun t91=>ca (K 140 [(kN.kP (59904:Int)),(kN.kP t91),(kN.kP zO)] aD) fun t92 bI=>(kR 3 bI aA t92).bind fun bJ=>some (.ret,[aA],bJ)) (bo .eql aC (11:Int) fun t96=>kV t96 (ld true 8 aD aB fun t97=>ca (K 140 [(kN.kP (59936:Int)),(kN.kP t97),(kN.kP zO)] aD) fun t98 bK=>(kR 3 bK aA t98).bind fun aK=>some (.ret,[aA],aK)) (bo .eql aC (12:Int) fun t102=>kV t102 (ld true 8 aD aB fun t103=>ca (K 140 [(kN.kP (59968:Int)),(kN.kP t103),(kN.kP zO)] aD) fun t104 aL=>(kR 3 aL aA t104).bind fun aM=>some (.ret,[aA],aM)) (bo .eql aC (13:Int) fun t108=>kV t108 (ld true 8 aD aB fun t109=>ca (K 140 [(kN.kP (60032:Int)),(kN.kP t109),(kN.kP zO)] aD) fun t110 aN=>(kR 3 aN aA t110).bind fun aO=>some (.ret,[aA],aO)) (bo .eql aC (14:Int) fun t114=>kV t114 (ld true 8 aD aB fun t115=>ca (K 140 [(kN.kP (60160:Int)),(kN.kP t115),(kN.kP zO)] aD) fun t116 aP=>(kR 3 aP aA t116).bind fun aQ=>some (.ret,[aA],aQ)) (bo .eql aC (15:Int) fun aV=>kV aV (ld true 8 aD aB fun t121=>ca (K 140 [(kN.kP (60320:Int)),(kN.kP t121),(kN.kP zO)] aD) fun t122 aR=>(kR 3 aR aA t122).bind fun aS=>some (.ret,[aA],aS)) (ld true 8 aD aB fun t126=>ca (K 141 [(kN.kP t126)] aD) fun aW aT=>(kR 3 aT aA aW).bind fun aU=>some (.ret,[aA],aU))))))))))) (gd aH.2.1 0) (gd aH.2.1 1) (gd aH.2.1 2) (gd aH.2.1 3) aH.2.2))))).bind (Wq (aa5 h0))
theorem ZX K a0 h0:nN K 121 [a0] h0=au6 (lG mJ K) a0 h0:=by kernel_rfl
def t121 (p0:lL):Option (G8) :=
 tc (decide (p0.op=1)) (some (⟨48896,0,false⟩:G8)) (tc (decide (p0.op=2)) (some (⟨(sD .i64 48640 p0.imm),0,false⟩:G8)) (tc (decide (p0.op=3)) (tb ((t139 62016 p0)) fun aB=>some aB) (tc (decide (p0.op=4)) (tb ((t139 62144 p0)) fun U7=>some U7) (tb (oE (decide (p0.op=5)) p0) fun aC=>tc aC (tb ((t140 59983 p0 (IntKind.wrap .i64 (p0.op-5)))) fun aD=>some aD) (tc (decide (p0.op=9)) (tb ((t140 60015 p0 0)) fun Ij=>some Ij) (tc (decide (p0.op=10)) (tb ((t140 59904 p0 0)) fun Jq=>some Jq) (tc (decide (p0.op=11)) (tb ((t140 59936 p0 0)) fun xN=>some xN) (tc (decide (p0.op=12)) (tb ((t140 59968 p0 0)) fun Gm=>some Gm) (tc (decide (p0.op=13)) (tb ((t140 60032 p0 0)) fun SB=>some SB) (tc (decide (p0.op=14)) (tb ((t140 60160 p0 0)) fun aA=>some aA) (tc (decide (p0.op=15)) (tb ((t140 60320 p0 0)) fun Ab=>some Ab) (tb ((t141 p0)) fun US=>some US))))))))))))
theorem WR (p0:lL) (h:kO):KK 121 [(.agg [p0.op,p0.rd,p0.rn,p0.rm,p0.ra,p0.imm,p0.cond,p0.wide])] h=tm (t121 p0) fun r=>(.ret (.agg [r.first,r.second,r.long]),h):=lJ rfl rfl (ZX ..) (by
 simp -implicitDefEqProofs (maxSteps:=2000000) [-rZ,-oZ,-oJ,-p5,-pV,-qX,-qY,au6,t121,axA,abY,Gp,M7,Wq])
def m85 (K:kT) (a0:kN) (h0:kO):Option (mR×kO) :=
 (kW (lR 8 h0 a0) fun aD aB=>ld true 8 aB aD fun aE=>ca (K 80 [(kN.kP aE)] aB) fun aF aA=>bo .neq aF zO fun aG=>kV aG (some (.ret,[zO],aA)) (ld true 8 aA aD fun t27=>ca (K 121 [(kN.kP t27)] aA) fun aH aC=>(Hv false 1 2 aH).bind fun t31=>kV t31 (some (.ret,[(4:Int)],aC)) (some (.ret,[(2:Int)],aC)))).bind (mA (aa5 h0))
theorem alC K a0 h0:nN K 85 [a0] h0=m85 (lG mJ K) a0 h0:=by kernel_rfl
def t85 (p0:lL):Option (Int) :=
 tb ((t80 p0)) fun aA=>tc (!decide (aA=0)) (some 0) (tb ((t121 p0)) fun aB=>tc aB.long (some 4) (some 2))
theorem U9 (p0:lL) (h:kO):KK 85 [(.agg [p0.op,p0.rd,p0.rn,p0.rm,p0.ra,p0.imm,p0.cond,p0.wide])] h=tm (t85 p0) fun r=>(.ret r,h):=lJ rfl rfl (alC ..) (by
 simp [-rZ,-oZ,-oJ,-p5,-pV,-qX,-qY,m85,t85,r80,WR,mA])
end
end
section
open Go Hk
def hasB (s:List UInt8) (c:UInt8):Bool:=s.any fun x=>x == c
theorem Wa (s:List UInt8) (hs:s.length≤64) (c:UInt8):∀(n j:Nat),j+n=s.length→∃k:Int,rX (yV s ((c.toNat:Nat):Int)) (false,(j:Int))=some (if (s.drop j).any (fun x=>x == c) then(.r,true,k) else(.x 0,false,k)):=by
 intro n
 induction n with
 | zero =>
  intro j hj
  refine⟨(j:Int),?_⟩
  have:s.drop j=[]:=List.drop_eq_nil_of_le (by omega)
  rw [this]
  refine mV ?_ (by simp)
  have h:¬((j:Int)<((s.length:Nat):Int)):=by omega
  simp [yV,h]
 | succ n ih =>
  intro j hj
  have hlt:j<s.length:=by omega
  have h:((j:Int)<((s.length:Nat):Int)):=by omega
  have hd:s.drop j=s[j]::s.drop (j+1):=List.drop_eq_getElem_cons hlt
  have ht:uU s (j:Int)=some ((s[j].toNat:Nat):Int):=by
   unfold uU
   simp [hlt]
  by_cases hc:s[j]=c
  ·refine⟨(j:Int),?_⟩
   rw [hd]
   have e:(s[j]::s.drop (j+1)).any (fun x=>x == c)=true:=by simp [hc]
   rw [e]
   refine mV ?_ (by simp)
   simp [yV,h,ht,hc]
  ·obtain⟨k,hk⟩:=ih (j+1) (by omega)
   refine⟨k,?_⟩
   have hne:¬((s[j].toNat:Nat):Int)=((c.toNat:Nat):Int):=by
    intro q;exact hc (UInt8.toNat_inj.1 (by omega))
   have e:(s.drop j).any (fun x=>x == c)=(s.drop (j+1)).any (fun x=>x == c):=by
    rw [hd,List.any_cons,beq_false_of_ne hc,Bool.false_or]
   rw [e,←hk]
   refine oB ?_
   simp only [yV,h,decide_true,lD,ht,kS,hne,decide_false,kX]
   rw [lP _ (by omega) (by omega)]
   simp
theorem XJ (s:List UInt8) (hs:s.length≤64) (c:UInt8):t129 s ((c.toNat:Nat):Int)=some (hasB s c):=by
 obtain⟨k,hk⟩:=Wa s hs c s.length 0 (by omega)
 unfold t129 hasB
 rw [show((0:Nat):Int)=0 from rfl,List.drop_zero] at hk
 rw [hk]
 by_cases h:s.any (fun x=>x == c)=true
 ·rw [if_pos h,h];simp [uL,vO,Ao]
 ·rw [if_neg h,Bool.eq_false_iff.2 h];simp [uL,vO]
theorem az2 (s:List UInt8) (hs:s.length≤64) (c:UInt8) (n m:Int) (hh:hasB s c=true) (hm:(if s.length=16 then(7:Int) else 12)=m):t95 s ((c.toNat:Nat):Int) n=some (decide (0≤n∧n≤m)):=by
 subst hm
 unfold t95 N5 IY
 rw [XJ s hs c,hh]
 by_cases h16:s.length=16
 ·have:((s.length:Nat):Int)=16:=by omega
  by_cases h0:0≤n <;> simp [h16,h0]
 ·have:¬((s.length:Nat):Int)=16:=by omega
  by_cases h0:0≤n <;> simp [h16,h0,this]
theorem az1 (s:List UInt8) (hs:s.length≤64) (c:UInt8) (n:Int) (hh:hasB s c=false):t95 s ((c.toNat:Nat):Int) n=some (decide (n=0)):=by
 unfold t95
 rw [XJ s hs c,hh];rfl
end
section
open Go Hk
theorem Jd {α:Type}{p:Prop} [Decidable p] {x y:Option α}:tc (decide p) x y=if p then x else y:=by
 by_cases h:p <;> simp [tc,h]
theorem G5 {α:Type}{p:Prop} [Decidable p] {x y:Option α}:tc (!decide p) x y=if p then y else x:=by
 by_cases h:p <;> simp [tc,h]
theorem az7 (x:Int):qA x 2=some (x.tmod 2):=rfl
theorem XV (x:Int):(x.tmod 2=0)=(x%2=0):=propext ⟨fun h=>by have:=Int.dvd_of_tmod_eq_zero h;omega,fun h=>Int.tmod_eq_zero_of_dvd (by omega)⟩
theorem afY (x:Int):rC .i64 x 1=x%2:=uC x 1 (by decide)
theorem iw0:IntKind.i64.wrap (0-2048)=-2048:=by decide
theorem iw1:IntKind.i64.wrap (2048-2)=2046:=by decide
theorem iw2:IntKind.i64.wrap (0-16777216)=-16777216:=by decide
theorem iw3:IntKind.i64.wrap (16777216-2)=16777214:=by decide
theorem iw4:IntKind.i64.wrap (0-256)=-256:=by decide
theorem iw5:IntKind.i64.wrap (256-2)=254:=by decide
theorem iw6:IntKind.i64.wrap (0-1048576)=-1048576:=by decide
theorem iw7:IntKind.i64.wrap (1048576-2)=1048574:=by decide
theorem auB {x:Int}(h0:0≤x) (h1:x≤31):IntKind.i64.wrap (32-x)=32-x:=lP _ (by omega) (by omega)
def Yw (i:lL):Prop:=i.rd=0∧i.rn=0∧i.rm=0∧i.ra=0∧i.imm=0∧i.cond=0
def Yx (i:lL):Prop:=i.rd=0∧i.rn=0∧i.rm=0∧i.ra=0∧0≤i.imm∧i.imm≤255∧i.cond=0
def Vq (i:lL):Prop:=0≤i.rd∧i.rd≤12∧i.rn=0∧i.rm=0∧i.ra=0∧0≤i.imm∧i.imm≤65535∧i.cond=0
def Vr (i:lL):Prop:=0≤i.rd∧i.rd≤12∧i.rn=0∧i.rm=0∧i.ra=0∧0≤i.imm∧i.imm≤65535∧i.cond=0
def Vt (i:lL):Prop:=0≤i.rd∧i.rd≤12∧i.rn=0∧0≤i.rm∧i.rm≤12∧i.ra=0∧0≤i.imm∧i.imm≤31∧i.cond=0
def Vu (i:lL):Prop:=0≤i.rd∧i.rd≤12∧i.rn=0∧0≤i.rm∧i.rm≤12∧i.ra=0∧1≤i.imm∧i.imm≤31∧i.cond=0
def Vv (i:lL):Prop:=0≤i.rd∧i.rd≤12∧i.rn=0∧0≤i.rm∧i.rm≤12∧i.ra=0∧1≤i.imm∧i.imm≤31∧i.cond=0
def Vw (i:lL):Prop:=0≤i.rd∧i.rd≤12∧i.rn=0∧0≤i.rm∧i.rm≤12∧i.ra=0∧1≤i.imm∧i.imm≤31∧i.cond=0
def Vx (i:lL):Prop:=0≤i.rd∧i.rd≤12∧i.rn=0∧0≤i.rm∧i.rm≤12∧i.ra=0∧i.imm=0∧i.cond=0
def Ha (i:lL):Prop:=0≤i.rd∧i.rd≤12∧0≤i.rn∧i.rn≤12∧0≤i.rm∧i.rm≤12∧i.ra=0∧i.imm=0∧i.cond=0
def Hb (i:lL):Prop:=0≤i.rd∧i.rd≤12∧0≤i.rn∧i.rn≤12∧0≤i.rm∧i.rm≤12∧i.ra=0∧i.imm=0∧i.cond=0
def Hc (i:lL):Prop:=0≤i.rd∧i.rd≤12∧0≤i.rn∧i.rn≤12∧0≤i.rm∧i.rm≤12∧i.ra=0∧i.imm=0∧i.cond=0
def He (i:lL):Prop:=0≤i.rd∧i.rd≤12∧0≤i.rn∧i.rn≤12∧0≤i.rm∧i.rm≤12∧i.ra=0∧i.imm=0∧i.cond=0
def Hf (i:lL):Prop:=0≤i.rd∧i.rd≤12∧0≤i.rn∧i.rn≤12∧0≤i.rm∧i.rm≤12∧i.ra=0∧i.imm=0∧i.cond=0
def Hg (i:lL):Prop:=0≤i.rd∧i.rd≤12∧0≤i.rn∧i.rn≤12∧0≤i.rm∧i.rm≤12∧i.ra=0∧i.imm=0∧i.cond=0
def Hi (i:lL):Prop:=0≤i.rd∧i.rd≤12∧0≤i.rn∧i.rn≤12∧0≤i.rm∧i.rm≤12∧i.ra=0∧i.imm=0∧i.cond=0
def Hj (i:lL):Prop:=0≤i.rd∧i.rd≤12∧0≤i.rn∧i.rn≤12∧0≤i.rm∧i.rm≤12∧0≤i.ra∧i.ra≤12∧i.ra≠i.rd∧i.imm=0∧i.cond=0
def Hl (i:lL):Prop:=0≤i.rd∧i.rd≤12∧0≤i.rn∧i.rn≤12∧i.rm=0∧1≤i.ra∧i.ra≤32-i.imm∧0≤i.imm∧i.imm≤31∧i.cond=0
def KL (i:lL):Prop:=0≤i.rd∧i.rd≤7∧0≤i.rn∧i.rn≤7∧i.rm=0∧i.ra=0∧i.imm=0∧i.cond=0
def KM (i:lL):Prop:=0≤i.rd∧i.rd≤7∧0≤i.rn∧i.rn≤7∧i.rm=0∧i.ra=0∧i.imm=0∧i.cond=0
def KN (i:lL):Prop:=0≤i.rd∧i.rd≤7∧0≤i.rn∧i.rn≤7∧i.rm=0∧i.ra=0∧i.imm=0∧i.cond=0
def KO (i:lL):Prop:=0≤i.rd∧i.rd≤7∧0≤i.rn∧i.rn≤7∧i.rm=0∧i.ra=0∧i.imm=0∧i.cond=0
def KP (i:lL):Prop:=i.rd=0∧0≤i.rn∧i.rn≤7∧0≤i.rm∧i.rm≤7∧i.ra=0∧i.imm=0∧i.cond=0
def KQ (i:lL):Prop:=i.rd=0∧i.rn=0∧i.rm=0∧i.ra=0∧i.cond=0∧i.imm%2=0∧-2048≤i.imm∧i.imm≤2046
def A1 (i:lL):Prop:=i.rd=0∧i.rn=0∧i.rm=0∧i.ra=0∧i.cond=0∧i.imm%2=0∧-16777216≤i.imm∧i.imm≤16777214
def KR (i:lL):Prop:=i.rd=0∧i.rn=0∧i.rm=0∧i.ra=0∧0≤i.cond∧i.cond≤13∧i.imm%2=0∧-256≤i.imm∧i.imm≤254
def A2 (i:lL):Prop:=i.rd=0∧i.rn=0∧i.rm=0∧i.ra=0∧0≤i.cond∧i.cond≤13∧i.imm%2=0∧-1048576≤i.imm∧i.imm≤1048574
def At (E:Prop→Prop) (i:lL):Prop:=(i.op=1→i.wide=false→E (Yw i))∧(i.op=2→i.wide=false→E (Yx i))∧(i.op=3→i.wide=false→E (Vq i))∧(i.op=4→i.wide=false→E (Vr i))∧(i.op=5→i.wide=false→E (Vt i))∧(i.op=6→i.wide=false→E (Vu i))∧(i.op=7→i.wide=false→E (Vv i))∧(i.op=8→i.wide=false→E (Vw i))∧(i.op=9→i.wide=false→E (Vx i))∧(i.op=10→i.wide=false→E (Ha i))∧(i.op=11→i.wide=false→E (Hb i))∧(i.op=12→i.wide=false→E (Hc i))∧(i.op=13→i.wide=false→E (He i))∧(i.op=14→i.wide=false→E (Hf i))∧(i.op=15→i.wide=false→E (Hg i))∧(i.op=16→i.wide=false→E (Hi i))∧(i.op=17→i.wide=false→E (Hj i))∧(i.op=18→i.wide=false→E (Hl i))∧(i.op=19→i.wide=false→E (KL i))∧(i.op=20→i.wide=false→E (KM i))∧(i.op=21→i.wide=false→E (KN i))∧(i.op=22→i.wide=false→E (KO i))∧(i.op=23→i.wide=false→E (KP i))∧(i.op=24→i.wide=false→E (KQ i))∧(i.op=25→i.wide=false→E (KR i))∧(i.op=24→i.wide=true→E (A1 i))∧(i.op=25→i.wide=true→E (A2 i))
theorem az0 {i:lL}{k:Int}{w:Bool}{p:List UInt8}(hop:i.op=k) (hw:i.wide=w) (e:t90 k w=some p):t90 i.op i.wide=some p:=by rw [hop,hw];exact e
theorem XU {i:lL}{p:List UInt8}(_:t90 i.op i.wide=some p) (hs:p.length≤64) (c:UInt8) (n:Int) (hh:hasB p c=false):t95 p ((c.toNat:Nat):Int) n=some (decide (n=0)):=az1 p hs c n hh
theorem JX {i:lL}{p:List UInt8}(_:t90 i.op i.wide=some p) (hs:p.length≤64) (c:UInt8) (n m:Int) (hh:hasB p c=true) (hm:(if p.length=16 then(7:Int) else 12)=m):t95 p ((c.toNat:Nat):Int) n=some (decide (0≤n∧n≤m)):=az2 p hs c n m hh hm
theorem pN {i:lL}{p:List UInt8}(_:t90 i.op i.wide=some p) (h:p≠[]):p≠[]:=h
set_option maxHeartbeats 80000000 in
theorem mH (i:lL):At (fun P=>∃e,t66 i=some e∧(e=0↔P)) i:=by
 unfold At
 refine⟨?_,?_,?_,?_,?_,?_,?_,?_,?_,?_,?_,?_,?_,?_,?_,?_,?_,?_,?_,?_,?_,?_,?_,?_,?_,?_,?_⟩ <;> intro hop hw
 all_goals have hb:=az0 hop hw rfl
 all_goals have hP:=pN hb (by simp)
 all_goals first | have hd:=XU hb (by decide) 100 i.rd rfl | have hd:=JX hb (by decide) 100 i.rd 7 rfl rfl | have hd:=JX hb (by decide) 100 i.rd 12 rfl rfl
 all_goals first | have hn:=XU hb (by decide) 110 i.rn rfl | have hn:=JX hb (by decide) 110 i.rn 7 rfl rfl | have hn:=JX hb (by decide) 110 i.rn 12 rfl rfl
 all_goals first | have hm:=XU hb (by decide) 109 i.rm rfl | have hm:=JX hb (by decide) 109 i.rm 7 rfl rfl | have hm:=JX hb (by decide) 109 i.rm 12 rfl rfl
 all_goals first | have ha:=XU hb (by decide) 97 i.ra rfl | have ha:=JX hb (by decide) 97 i.ra 7 rfl rfl | have ha:=JX hb (by decide) 97 i.ra 12 rfl rfl
 all_goals first | have h0:=XU hb (by decide) 97 0 rfl | have h0:=JX hb (by decide) 97 0 7 rfl rfl | have h0:=JX hb (by decide) 97 0 12 rfl rfl
 all_goals simp only [show(((100:UInt8).toNat:Nat):Int)=100 from rfl,show(((110:UInt8).toNat:Nat):Int)=110 from rfl,show(((109:UInt8).toNat:Nat):Int)=109 from rfl,show(((97:UInt8).toNat:Nat):Int)=97 from rfl] at hd hn hm ha h0
 all_goals unfold t66
 all_goals rw [hb]
 all_goals simp only [kS,hop,hw,hP,decide_false,decide_true,II,kX,t94,NV,NW,NX,NY,NZ,N0,N1,N2,N3,N4,Er,uL,vO,Ao,Fs,Ft,Fu,Fv,Fw,CT,CU,CV,CW,Ep,AJ,hd,hn,hm,ha,t96,IZ,N6,N7,I0,N8,N9,ae2,Bool.not_true,Bool.not_false,lD,az7,iw0,iw1,iw2,iw3,iw4,iw5,iw6,iw7,h0,Yw,Yx,Vq,Vr,Vt,Vu,Vv,Vw,Vx,Ha,Hb,Hc,He,Hf,Hg,Hi,Hj,Hl,KL,KM,KN,KO,KP,KQ,KR,A1,A2]
 all_goals simp only [Jd,G5,XV,afY]
 all_goals repeat' (first | split | simp only [kS,Jd,G5,Bool.not_true,Bool.not_false,lD,kX])
 all_goals (refine⟨_,rfl,?_⟩;first | omega | (have hi:=auB (x:=i.imm) (by omega) (by omega);omega))
set_option maxHeartbeats 80000000 in
theorem sQ (i:lL):At (fun P=>∃e,t80 i=some e∧(e=0↔P)) i:=by
 unfold At
 refine⟨?_,?_,?_,?_,?_,?_,?_,?_,?_,?_,?_,?_,?_,?_,?_,?_,?_,?_,?_,?_,?_,?_,?_,?_,?_,?_,?_⟩ <;> intro hop hw
 all_goals unfold t80
 all_goals simp only [IP,IQ,IS,IT,IU,IV,IW,IX,Fx,t114,Ed,Ee,Ef,B8,Eg,Eh,t115,GK,GL,GM,GN,GO,GP,GQ,GR,GS,GU,Ei,Ej,t116,Ek,t117,t137,GW,GX,GY,GZ,kS,hop,hw,decide_false,decide_true,kX,lD,ae2,Int.reduceNeg,Bool.not_true,Bool.not_false,uL,vO,Ao,iw0,iw1,iw2,iw3,iw4,iw5,iw6,iw7,Yw,Yx,Vq,Vr,Vt,Vu,Vv,Vw,Vx,Ha,Hb,Hc,He,Hf,Hg,Hi,Hj,Hl,KL,KM,KN,KO,KP,KQ,KR,A1,A2]
 all_goals simp only [Jd,G5,XV,afY]
 all_goals repeat' (first | split | simp only [kS,Jd,G5,Bool.not_true,Bool.not_false,lD,kX])
 all_goals (refine⟨_,rfl,?_⟩;first | omega | (have hi:=auB (x:=i.imm) (by omega) (by omega);omega))
end
section
open Go Hk
def aa3:List rR→Bool
 | []=>true
 | p::r=>decide (0≤p.frm∧p.frm<64∧0≤p.many∧p.many<63∧0≤p.pos∧p.pos<64)&&aa3 r
theorem Pd:∀(ps:List rR) (b:Int),aa3 ps=true→∃v,Ia b ps=some v
 | [],b,_=>⟨b,rfl⟩
 | p::r,b,h=>by
  simp only [aa3,ae7,decide_eq_true_eq] at h
  rw [Ia,if_pos h.1]
  exact Pd r _ h.2
theorem mQ (ps:List rR) (b:Int) (h:(decide (ps.length≤1000)&&aa3 ps)=true):∃v,t155 b ps=some v:=by
 simp only [ae7,decide_eq_true_eq] at h
 unfold t155
 rw [if_pos h.1]
 exact Pd ps b h.2
theorem Ob (x:Int) (k:Int) (h0:0≤k) (h1:k<64):∃n,sX .i64 x k=some n:=⟨_,by unfold sX;rw [if_neg (by omega)]⟩
theorem apJ (x:Int):qP .i64 x 12=some (IntKind.i64.wrap (x*2^12)):=(rfl)
theorem az9 (x:Int):qP .i64 x 8=some (IntKind.i64.wrap (x*2^8)):=(rfl)
theorem aCK:IntKind.i64.wrap 0=0:=by decide
theorem aCL:IntKind.i64.wrap 1=1:=by decide
theorem aCM:IntKind.i64.wrap 2=2:=by decide
theorem aCN:IntKind.i64.wrap 3=3:=by decide
def Gr (i:lL):Int:=if i.wide=true∨3≤i.op∧i.op≤18 then 4 else 2
def GB (i:lL):Prop:=1≤i.op∧i.op≤25∧0≤i.rd∧i.rd≤12∧0≤i.rn∧i.rn≤12∧0≤i.rm∧i.rm≤12∧0≤i.ra∧i.ra≤32∧(i.op=17→i.ra≤12∧i.ra≠i.rd)∧(i.op=18→1≤i.ra∧i.ra≤32-i.imm)∧(i.op<24→0≤i.imm)∧(5≤i.op∧i.op≤8∨i.op=18→i.imm≤31)∧(i.op=3∨i.op=4→i.imm≤65535)∧-16777216≤i.imm∧i.imm≤16777214
theorem ad3 (i:lL) (h:t90 i.op i.wide=some []):t66 i=some 2:=by
 unfold t66 II
 rw [h]
 by_cases h18:i.op=18 <;> simp [h18,Fs,Ft,Fu,Fv,Fw,CT,CU,CV,CW]
def Ez (i:lL):Prop:=t66 i=some 0→t80 i=some 0→t71 i=some (Gr i)∧t85 i=some (Gr i)
theorem sW {i:lL}{k:Int}{w:Bool}{p:List UInt8}{L:Bool}(hop:i.op=k) (hw:i.wide=w) (hb:t90 k w=some p) (hz:(if w=true∨3≤k∧k≤18 then(4:Int) else 2)=if L then 4 else 2) (hq:A0 .i64 ((p.length:Nat):Int) 8=some (if L then(4:Int) else 2)) (hL:(L == L)=true) (hc:∃c:G8,t121 i=some c∧c.long=L):Ez i:=by
 intro h6 h8
 have hz':Gr i=if L then 4 else 2:=by unfold Gr;rw [hop,hw];exact hz
 rw [hz']
 refine⟨?_,?_⟩
 ·unfold t71;rw [h6,hop,hw,hb]
  simp only [kS,decide_true,Bool.not_true,kX,hq]
 ·unfold t85;rw [h8]
  obtain⟨c,c1,c2⟩:=hc
  cases L <;> simp [c1,c2]
theorem aEt {i:lL}(hop:i.op=1) (hw:i.wide=false):Ez i:=by
 refine sW (L:=false) hop hw rfl (by decide) rfl rfl ?_
 simp [t121,hop,hw]
theorem aEu {i:lL}(hop:i.op=2) (hw:i.wide=false):Ez i:=by
 refine sW (L:=false) hop hw rfl (by decide) rfl rfl ?_
 simp [t121,hop,hw]
theorem aEv {i:lL}(hop:i.op=3) (hw:i.wide=false):Ez i:=by
 refine sW (L:=true) hop hw rfl (by decide) rfl rfl ?_
 obtain⟨v1,v1h⟩:=mQ [⟨i.imm,11,1,10⟩,⟨i.imm,12,4,0⟩] 62016 rfl
 obtain⟨v2,v2h⟩:=mQ [⟨i.imm,8,3,12⟩,⟨i.rd,0,4,8⟩,⟨i.imm,0,8,0⟩] 0 rfl
 simp [t121,hop,hw,t139,v1h,v2h]
theorem aEw {i:lL}(hop:i.op=4) (hw:i.wide=false):Ez i:=by
 refine sW (L:=true) hop hw rfl (by decide) rfl rfl ?_
 obtain⟨v1,v1h⟩:=mQ [⟨i.imm,11,1,10⟩,⟨i.imm,12,4,0⟩] 62144 rfl
 obtain⟨v2,v2h⟩:=mQ [⟨i.imm,8,3,12⟩,⟨i.rd,0,4,8⟩,⟨i.imm,0,8,0⟩] 0 rfl
 simp [t121,hop,hw,t139,v1h,v2h]
theorem aEx {i:lL}(hop:i.op=5) (hw:i.wide=false):Ez i:=by
 refine sW (L:=true) hop hw rfl (by decide) rfl rfl ?_
 obtain⟨v1,v1h⟩:=mQ [⟨i.imm,2,3,12⟩,⟨i.rd,0,4,8⟩,⟨i.imm,0,2,6⟩,⟨0,0,2,4⟩,⟨i.rm,0,4,0⟩] 0 rfl
 obtain⟨v2,v2h⟩:=mQ [⟨i.rn,0,4,0⟩] 59983 rfl
 simp [t121,hop,hw,t140,v1h,v2h,oE,oF,oG,aCK]
theorem aEy {i:lL}(hop:i.op=6) (hw:i.wide=false):Ez i:=by
 refine sW (L:=true) hop hw rfl (by decide) rfl rfl ?_
 obtain⟨v1,v1h⟩:=mQ [⟨i.imm,2,3,12⟩,⟨i.rd,0,4,8⟩,⟨i.imm,0,2,6⟩,⟨1,0,2,4⟩,⟨i.rm,0,4,0⟩] 0 rfl
 obtain⟨v2,v2h⟩:=mQ [⟨i.rn,0,4,0⟩] 59983 rfl
 simp [t121,hop,hw,t140,v1h,v2h,oE,oF,oG,aCL]
theorem aEz {i:lL}(hop:i.op=7) (hw:i.wide=false):Ez i:=by
 refine sW (L:=true) hop hw rfl (by decide) rfl rfl ?_
 obtain⟨v1,v1h⟩:=mQ [⟨i.imm,2,3,12⟩,⟨i.rd,0,4,8⟩,⟨i.imm,0,2,6⟩,⟨2,0,2,4⟩,⟨i.rm,0,4,0⟩] 0 rfl
 obtain⟨v2,v2h⟩:=mQ [⟨i.rn,0,4,0⟩] 59983 rfl
 simp [t121,hop,hw,t140,v1h,v2h,oE,oF,oG,aCM]
theorem aEA {i:lL}(hop:i.op=8) (hw:i.wide=false):Ez i:=by
 refine sW (L:=true) hop hw rfl (by decide) rfl rfl ?_
 obtain⟨v1,v1h⟩:=mQ [⟨i.imm,2,3,12⟩,⟨i.rd,0,4,8⟩,⟨i.imm,0,2,6⟩,⟨3,0,2,4⟩,⟨i.rm,0,4,0⟩] 0 rfl
 obtain⟨v2,v2h⟩:=mQ [⟨i.rn,0,4,0⟩] 59983 rfl
 simp [t121,hop,hw,t140,v1h,v2h,oE,oF,oG,aCN]
theorem aEB {i:lL}(hop:i.op=9) (hw:i.wide=false):Ez i:=by
 refine sW (L:=true) hop hw rfl (by decide) rfl rfl ?_
 obtain⟨v1,v1h⟩:=mQ [⟨i.imm,2,3,12⟩,⟨i.rd,0,4,8⟩,⟨i.imm,0,2,6⟩,⟨0,0,2,4⟩,⟨i.rm,0,4,0⟩] 0 rfl
 obtain⟨v2,v2h⟩:=mQ [⟨i.rn,0,4,0⟩] 60015 rfl
 simp [t121,hop,hw,t140,v1h,v2h,oE,oF,oG]
theorem ay5 {i:lL}(hop:i.op=10) (hw:i.wide=false):Ez i:=by
 refine sW (L:=true) hop hw rfl (by decide) rfl rfl ?_
 obtain⟨v1,v1h⟩:=mQ [⟨i.imm,2,3,12⟩,⟨i.rd,0,4,8⟩,⟨i.imm,0,2,6⟩,⟨0,0,2,4⟩,⟨i.rm,0,4,0⟩] 0 rfl
 obtain⟨v2,v2h⟩:=mQ [⟨i.rn,0,4,0⟩] 59904 rfl
 simp [t121,hop,hw,t140,v1h,v2h,oE,oF,oG]
theorem ay6 {i:lL}(hop:i.op=11) (hw:i.wide=false):Ez i:=by
 refine sW (L:=true) hop hw rfl (by decide) rfl rfl ?_
 obtain⟨v1,v1h⟩:=mQ [⟨i.imm,2,3,12⟩,⟨i.rd,0,4,8⟩,⟨i.imm,0,2,6⟩,⟨0,0,2,4⟩,⟨i.rm,0,4,0⟩] 0 rfl
 obtain⟨v2,v2h⟩:=mQ [⟨i.rn,0,4,0⟩] 59936 rfl
 simp [t121,hop,hw,t140,v1h,v2h,oE,oF,oG]
theorem ay7 {i:lL}(hop:i.op=12) (hw:i.wide=false):Ez i:=by
 refine sW (L:=true) hop hw rfl (by decide) rfl rfl ?_
 obtain⟨v1,v1h⟩:=mQ [⟨i.imm,2,3,12⟩,⟨i.rd,0,4,8⟩,⟨i.imm,0,2,6⟩,⟨0,0,2,4⟩,⟨i.rm,0,4,0⟩] 0 rfl
 obtain⟨v2,v2h⟩:=mQ [⟨i.rn,0,4,0⟩] 59968 rfl
 simp [t121,hop,hw,t140,v1h,v2h,oE,oF,oG]
theorem ay8 {i:lL}(hop:i.op=13) (hw:i.wide=false):Ez i:=by
 refine sW (L:=true) hop hw rfl (by decide) rfl rfl ?_
 obtain⟨v1,v1h⟩:=mQ [⟨i.imm,2,3,12⟩,⟨i.rd,0,4,8⟩,⟨i.imm,0,2,6⟩,⟨0,0,2,4⟩,⟨i.rm,0,4,0⟩] 0 rfl
 obtain⟨v2,v2h⟩:=mQ [⟨i.rn,0,4,0⟩] 60032 rfl
 simp [t121,hop,hw,t140,v1h,v2h,oE,oF,oG]
theorem ay9 {i:lL}(hop:i.op=14) (hw:i.wide=false):Ez i:=by
 refine sW (L:=true) hop hw rfl (by decide) rfl rfl ?_
 obtain⟨v1,v1h⟩:=mQ [⟨i.imm,2,3,12⟩,⟨i.rd,0,4,8⟩,⟨i.imm,0,2,6⟩,⟨0,0,2,4⟩,⟨i.rm,0,4,0⟩] 0 rfl
 obtain⟨v2,v2h⟩:=mQ [⟨i.rn,0,4,0⟩] 60160 rfl
 simp [t121,hop,hw,t140,v1h,v2h,oE,oF,oG]
theorem azA {i:lL}(hop:i.op=15) (hw:i.wide=false):Ez i:=by
 refine sW (L:=true) hop hw rfl (by decide) rfl rfl ?_
 obtain⟨v1,v1h⟩:=mQ [⟨i.imm,2,3,12⟩,⟨i.rd,0,4,8⟩,⟨i.imm,0,2,6⟩,⟨0,0,2,4⟩,⟨i.rm,0,4,0⟩] 0 rfl
 obtain⟨v2,v2h⟩:=mQ [⟨i.rn,0,4,0⟩] 60320 rfl
 simp [t121,hop,hw,t140,v1h,v2h,oE,oF,oG]
theorem azB {i:lL}(hop:i.op=16) (hw:i.wide=false):Ez i:=by
 refine sW (L:=true) hop hw rfl (by decide) rfl rfl ?_
 obtain⟨v1,v1h⟩:=mQ [⟨i.imm,2,3,12⟩,⟨i.rd,0,4,8⟩,⟨i.imm,0,2,6⟩,⟨0,0,2,4⟩,⟨i.rm,0,4,0⟩] 0 rfl
 obtain⟨v2,v2h⟩:=mQ [⟨i.rn,0,4,0⟩] 64256 rfl
 simp [t121,hop,hw,t140,t141,v1h,v2h,oE,oF,oG]
theorem azC {i:lL}(hop:i.op=17) (hw:i.wide=false):Ez i:=by
 refine sW (L:=true) hop hw rfl (by decide) rfl rfl ?_
 simp [t121,hop,hw,t141,oE,oF,oG,apJ,az9]
theorem azD {i:lL}(hop:i.op=18) (hw:i.wide=false):Ez i:=by
 refine sW (L:=true) hop hw rfl (by decide) rfl rfl ?_
 obtain⟨v1,v1h⟩:=mQ [⟨i.imm,2,3,12⟩,⟨i.rd,0,4,8⟩,⟨i.imm,0,2,6⟩] (IntKind.wrap .i64 ((IntKind.wrap .i64 (i.imm+i.ra))-1)) rfl
 simp [t121,hop,hw,t141,oE,oF,oG,v1h]
theorem azE {i:lL}(hop:i.op=19) (hw:i.wide=false):Ez i:=by
 refine sW (L:=false) hop hw rfl (by decide) rfl rfl ?_
 obtain⟨v1,v1h⟩:=mQ [⟨i.rd,0,3,0⟩,⟨i.rn,0,3,3⟩] 26624 rfl
 simp [t121,hop,hw,t141,t156,oE,oF,oG,v1h]
theorem azF {i:lL}(hop:i.op=20) (hw:i.wide=false):Ez i:=by
 refine sW (L:=false) hop hw rfl (by decide) rfl rfl ?_
 obtain⟨v1,v1h⟩:=mQ [⟨i.rd,0,3,0⟩,⟨i.rn,0,3,3⟩] 24576 rfl
 simp [t121,hop,hw,t141,t156,oE,oF,oG,v1h]
theorem azG {i:lL}(hop:i.op=21) (hw:i.wide=false):Ez i:=by
 refine sW (L:=false) hop hw rfl (by decide) rfl rfl ?_
 obtain⟨v1,v1h⟩:=mQ [⟨i.rd,0,3,0⟩,⟨i.rn,0,3,3⟩] 30720 rfl
 simp [t121,hop,hw,t141,t156,oE,oF,oG,v1h]
theorem azH {i:lL}(hop:i.op=22) (hw:i.wide=false):Ez i:=by
 refine sW (L:=false) hop hw rfl (by decide) rfl rfl ?_
 obtain⟨v1,v1h⟩:=mQ [⟨i.rd,0,3,0⟩,⟨i.rn,0,3,3⟩] 28672 rfl
 simp [t121,hop,hw,t141,t156,oE,oF,oG,v1h]
theorem azI {i:lL}(hop:i.op=23) (hw:i.wide=false):Ez i:=by
 refine sW (L:=false) hop hw rfl (by decide) rfl rfl ?_
 obtain⟨v1,v1h⟩:=mQ [⟨i.rn,0,3,0⟩,⟨i.rm,0,3,3⟩] 17024 rfl
 simp [t121,hop,hw,t141,t156,oE,oF,oG,v1h]
theorem azJ {i:lL}(hop:i.op=24) (hw:i.wide=false):Ez i:=by
 refine sW (L:=false) hop hw rfl (by decide) rfl rfl ?_
 obtain⟨v1,v1h⟩:=mQ [⟨i.imm,1,11,0⟩] 57344 rfl
 simp [t121,hop,hw,t141,oE,oF,oG,v1h]
theorem ao6 {i:lL}(hop:i.op=24) (hw:i.wide=true):Ez i:=by
 refine sW (L:=true) hop hw rfl (by decide) rfl rfl ?_
 obtain⟨n1,n1h⟩:=Ob i.imm 24 (by decide) (by decide)
 obtain⟨v1,v1h⟩:=mQ [⟨i.imm,1,11,0⟩] 0 rfl
 obtain⟨n2,n2h⟩:=Ob i.imm 23 (by decide) (by decide)
 obtain⟨n3,n3h⟩:=Ob i.imm 22 (by decide) (by decide)
 obtain⟨v2,v2h⟩:=mQ [⟨(rC .i64 n1 1),0,1,10⟩,⟨i.imm,12,10,0⟩] 61440 rfl
 obtain⟨v3,v3h⟩:=mQ [⟨(C5 .i64 (Pu .i64 n2) (rC .i64 n1 1)),0,1,13⟩,⟨(C5 .i64 (Pu .i64 n3) (rC .i64 n1 1)),0,1,11⟩] (sD .i64 v1 36864) rfl
 simp [t121,hop,hw,t141,t157,oE,oF,oG,v1h,v2h,v3h,n1h,n2h,n3h]
theorem azK {i:lL}(hop:i.op=25) (hw:i.wide=false):Ez i:=by
 refine sW (L:=false) hop hw rfl (by decide) rfl rfl ?_
 obtain⟨v1,v1h⟩:=mQ [⟨i.cond,0,4,8⟩,⟨i.imm,1,8,0⟩] 53248 rfl
 simp [t121,hop,hw,t141,oE,oF,oG,v1h]
theorem ao7 {i:lL}(hop:i.op=25) (hw:i.wide=true):Ez i:=by
 refine sW (L:=true) hop hw rfl (by decide) rfl rfl ?_
 obtain⟨n1,n1h⟩:=Ob i.imm 24 (by decide) (by decide)
 obtain⟨v1,v1h⟩:=mQ [⟨i.imm,1,11,0⟩] 0 rfl
 obtain⟨v2,v2h⟩:=mQ [⟨(rC .i64 n1 1),0,1,10⟩,⟨i.cond,0,4,6⟩,⟨i.imm,12,6,0⟩] 61440 rfl
 obtain⟨v3,v3h⟩:=mQ [⟨i.imm,18,1,13⟩,⟨i.imm,19,1,11⟩] (sD .i64 v1 32768) rfl
 simp [t121,hop,hw,t141,t157,oE,oF,oG,v1h,v2h,v3h,n1h]
theorem EI {i:lL}{P:Prop}(h:t66 i=some 0) (p6:∃e,t66 i=some e∧(e=0↔P)) (p8:∃e,t80 i=some e∧(e=0↔P)) (hs:t80 i=some 0→t71 i=some (Gr i)∧t85 i=some (Gr i)) (hg:P→GB i):t80 i=some 0∧GB i∧t71 i=some (Gr i)∧t85 i=some (Gr i):=by
 obtain⟨e,a,b⟩:=p6
 rw [h] at a;cases a
 obtain⟨e2,a2,b2⟩:=p8
 have q:=b2.2 (b.1 rfl);subst q
 exact⟨a2,hg (b.1 rfl),hs a2⟩
theorem Kj (i:lL) (h:t66 i=some 0):t80 i=some 0∧GB i∧t71 i=some (Gr i)∧t85 i=some (Gr i):=by
 cases hw:i.wide
 ·skip
  by_cases h1:i.op=1
  ·exact EI h ((mH i).1 h1 hw) ((sQ i).1 h1 hw) (aEt h1 hw h) fun c=>by unfold Yw at c;unfold GB;omega
  by_cases h2:i.op=2
  ·exact EI h ((mH i).2.1 h2 hw) ((sQ i).2.1 h2 hw) (aEu h2 hw h) fun c=>by unfold Yx at c;unfold GB;omega
  by_cases h3:i.op=3
  ·exact EI h ((mH i).2.2.1 h3 hw) ((sQ i).2.2.1 h3 hw) (aEv h3 hw h) fun c=>by unfold Vq at c;unfold GB;omega
  by_cases h4:i.op=4
  ·exact EI h ((mH i).2.2.2.1 h4 hw) ((sQ i).2.2.2.1 h4 hw) (aEw h4 hw h) fun c=>by unfold Vr at c;unfold GB;omega
  by_cases h5:i.op=5
  ·exact EI h ((mH i).2.2.2.2.1 h5 hw) ((sQ i).2.2.2.2.1 h5 hw) (aEx h5 hw h) fun c=>by unfold Vt at c;unfold GB;omega
  by_cases h6:i.op=6
  ·exact EI h ((mH i).2.2.2.2.2.1 h6 hw) ((sQ i).2.2.2.2.2.1 h6 hw) (aEy h6 hw h) fun c=>by unfold Vu at c;unfold GB;omega
  by_cases h7:i.op=7
  ·exact EI h ((mH i).2.2.2.2.2.2.1 h7 hw) ((sQ i).2.2.2.2.2.2.1 h7 hw) (aEz h7 hw h) fun c=>by unfold Vv at c;unfold GB;omega
  by_cases h8:i.op=8
  ·exact EI h ((mH i).2.2.2.2.2.2.2.1 h8 hw) ((sQ i).2.2.2.2.2.2.2.1 h8 hw) (aEA h8 hw h) fun c=>by unfold Vw at c;unfold GB;omega
  by_cases h9:i.op=9
  ·exact EI h ((mH i).2.2.2.2.2.2.2.2.1 h9 hw) ((sQ i).2.2.2.2.2.2.2.2.1 h9 hw) (aEB h9 hw h) fun c=>by unfold Vx at c;unfold GB;omega
  by_cases h10:i.op=10
  ·exact EI h ((mH i).2.2.2.2.2.2.2.2.2.1 h10 hw) ((sQ i).2.2.2.2.2.2.2.2.2.1 h10 hw) (ay5 h10 hw h) fun c=>by unfold Ha at c;unfold GB;omega
  by_cases h11:i.op=11
  ·exact EI h ((mH i).2.2.2.2.2.2.2.2.2.2.1 h11 hw) ((sQ i).2.2.2.2.2.2.2.2.2.2.1 h11 hw) (ay6 h11 hw h) fun c=>by unfold Hb at c;unfold GB;omega
  by_cases h12:i.op=12
  ·exact EI h ((mH i).2.2.2.2.2.2.2.2.2.2.2.1 h12 hw) ((sQ i).2.2.2.2.2.2.2.2.2.2.2.1 h12 hw) (ay7 h12 hw h) fun c=>by unfold Hc at c;unfold GB;omega
  by_cases h13:i.op=13
  ·exact EI h ((mH i).2.2.2.2.2.2.2.2.2.2.2.2.1 h13 hw) ((sQ i).2.2.2.2.2.2.2.2.2.2.2.2.1 h13 hw) (ay8 h13 hw h) fun c=>by unfold He at c;unfold GB;omega
  by_cases h14:i.op=14
  ·exact EI h ((mH i).2.2.2.2.2.2.2.2.2.2.2.2.2.1 h14 hw) ((sQ i).2.2.2.2.2.2.2.2.2.2.2.2.2.1 h14 hw) (ay9 h14 hw h) fun c=>by unfold Hf at c;unfold GB;omega
  by_cases h15:i.op=15
  ·exact EI h ((mH i).2.2.2.2.2.2.2.2.2.2.2.2.2.2.1 h15 hw) ((sQ i).2.2.2.2.2.2.2.2.2.2.2.2.2.2.1 h15 hw) (azA h15 hw h) fun c=>by unfold Hg at c;unfold GB;omega
  by_cases h16:i.op=16
  ·exact EI h ((mH i).2.2.2.2.2.2.2.2.2.2.2.2.2.2.2.1 h16 hw) ((sQ i).2.2.2.2.2.2.2.2.2.2.2.2.2.2.2.1 h16 hw) (azB h16 hw h) fun c=>by unfold Hi at c;unfold GB;omega
  by_cases h17:i.op=17
  ·exact EI h ((mH i).2.2.2.2.2.2.2.2.2.2.2.2.2.2.2.2.1 h17 hw) ((sQ i).2.2.2.2.2.2.2.2.2.2.2.2.2.2.2.2.1 h17 hw) (azC h17 hw h) fun c=>by unfold Hj at c;unfold GB;omega
  by_cases h18:i.op=18
  ·exact EI h ((mH i).2.2.2.2.2.2.2.2.2.2.2.2.2.2.2.2.2.1 h18 hw) ((sQ i).2.2.2.2.2.2.2.2.2.2.2.2.2.2.2.2.2.1 h18 hw) (azD h18 hw h) fun c=>by unfold Hl at c;unfold GB;omega
  by_cases h19:i.op=19
  ·exact EI h ((mH i).2.2.2.2.2.2.2.2.2.2.2.2.2.2.2.2.2.2.1 h19 hw) ((sQ i).2.2.2.2.2.2.2.2.2.2.2.2.2.2.2.2.2.2.1 h19 hw) (azE h19 hw h) fun c=>by unfold KL at c;unfold GB;omega
  by_cases h20:i.op=20
  ·exact EI h ((mH i).2.2.2.2.2.2.2.2.2.2.2.2.2.2.2.2.2.2.2.1 h20 hw) ((sQ i).2.2.2.2.2.2.2.2.2.2.2.2.2.2.2.2.2.2.2.1 h20 hw) (azF h20 hw h) fun c=>by unfold KM at c;unfold GB;omega
  by_cases h21:i.op=21
  ·exact EI h ((mH i).2.2.2.2.2.2.2.2.2.2.2.2.2.2.2.2.2.2.2.2.1 h21 hw) ((sQ i).2.2.2.2.2.2.2.2.2.2.2.2.2.2.2.2.2.2.2.2.1 h21 hw) (azG h21 hw h) fun c=>by unfold KN at c;unfold GB;omega
  by_cases h22:i.op=22
  ·exact EI h ((mH i).2.2.2.2.2.2.2.2.2.2.2.2.2.2.2.2.2.2.2.2.2.1 h22 hw) ((sQ i).2.2.2.2.2.2.2.2.2.2.2.2.2.2.2.2.2.2.2.2.2.1 h22 hw) (azH h22 hw h) fun c=>by unfold KO at c;unfold GB;omega
  by_cases h23:i.op=23
  ·exact EI h ((mH i).2.2.2.2.2.2.2.2.2.2.2.2.2.2.2.2.2.2.2.2.2.2.1 h23 hw) ((sQ i).2.2.2.2.2.2.2.2.2.2.2.2.2.2.2.2.2.2.2.2.2.2.1 h23 hw) (azI h23 hw h) fun c=>by unfold KP at c;unfold GB;omega
  by_cases h24:i.op=24
  ·exact EI h ((mH i).2.2.2.2.2.2.2.2.2.2.2.2.2.2.2.2.2.2.2.2.2.2.2.1 h24 hw) ((sQ i).2.2.2.2.2.2.2.2.2.2.2.2.2.2.2.2.2.2.2.2.2.2.2.1 h24 hw) (azJ h24 hw h) fun c=>by unfold KQ at c;unfold GB;omega
  by_cases h25:i.op=25
  ·exact EI h ((mH i).2.2.2.2.2.2.2.2.2.2.2.2.2.2.2.2.2.2.2.2.2.2.2.2.1 h25 hw) ((sQ i).2.2.2.2.2.2.2.2.2.2.2.2.2.2.2.2.2.2.2.2.2.2.2.2.1 h25 hw) (azK h25 hw h) fun c=>by unfold KR at c;unfold GB;omega
  have hb:t90 i.op i.wide=some []:=by rw [hw];unfold t90 t128;simp [h1,h2,h3,h4,h5,h6,h7,h8,h9,h10,h11,h12,h13,h14,h15,h16,h17,h18,h19,h20,h21,h22,h23,h24,h25]
  rw [ad3 i hb] at h;cases h
 ·skip
  by_cases h24:i.op=24
  ·exact EI h ((mH i).2.2.2.2.2.2.2.2.2.2.2.2.2.2.2.2.2.2.2.2.2.2.2.2.2.1 h24 hw) ((sQ i).2.2.2.2.2.2.2.2.2.2.2.2.2.2.2.2.2.2.2.2.2.2.2.2.2.1 h24 hw) (ao6 h24 hw h) fun c=>by unfold A1 at c;unfold GB;omega
  by_cases h25:i.op=25
  ·exact EI h ((mH i).2.2.2.2.2.2.2.2.2.2.2.2.2.2.2.2.2.2.2.2.2.2.2.2.2.2 h25 hw) ((sQ i).2.2.2.2.2.2.2.2.2.2.2.2.2.2.2.2.2.2.2.2.2.2.2.2.2.2 h25 hw) (ao7 h25 hw h) fun c=>by unfold A2 at c;unfold GB;omega
  have hb:t90 i.op i.wide=some []:=by rw [hw];unfold t90 t128;simp [h24,h25]
  rw [ad3 i hb] at h;cases h
end
noncomputable section
open Go Hk
section
set_option maxHeartbeats 8000000
def Ru (K:kT) (m:Nat) (t89:kN) (a1:kN) (a2:kN) (a3:kN) (a4:kN) (aC:kN) (aA:kN) (aB:kO):Option R :=
 kV t89 (kZ m .normal [a1,a2,a3,a4,aC,zO,aA,t89] aB) (bo .eql aA (17:Int) fun t104=>kZ m .normal [a1,a2,a3,a4,aC,zO,aA,t104] aB)
def pX (aA:Bool) (p0:lL):Option (Bool) :=
 tc aA (some aA) (some (decide (p0.op=17)))
theorem anH (w103:Bool) (p1:Int) (p2:Int) (p3:Int) (p4:Int) (p0:lL):(Ru KK 1 w103 p1 p2 p3 p4 (.ptr 0 0) p0.op ([.cells [p0.op,p0.rd,p0.rn,p0.rm,p0.ra,p0.imm,p0.cond,p0.wide]]:kO))=tm (β:=R) (pX w103 p0) fun r=>(.normal,[p1,p2,p3,p4,(.ptr 0 0),zO,p0.op,r],([.cells [p0.op,p0.rd,p0.rn,p0.rm,p0.ra,p0.imm,p0.cond,p0.wide]]:kO)):=by
 cases w103 <;> simp +contextual -implicitDefEqProofs [-rZ,-oZ,-oJ,-p5,-pV,-qX,-qY,Ru,pX]
def m75 (K:kT) (a0 a1 a2 a3 a4:kN) (h0:kO):Option (mR×kO) :=
 (kW (lR 8 h0 a0) fun aJ aA=>fa 0 aJ fun bH=>ld false 1 aA bH fun aD=>bo .eql aD (3:Int) fun t24=>kV t24 (fa 5 aJ fun bI=>ld false 1 aA bI fun bJ=>some (.ret,[bJ],aA)) (bo .eql aD (4:Int) fun t27=>kV t27 (bo .rem a1 (65536:Int) fun bK=>fa 5 aJ fun bL=>ld false 1 aA bL fun t31=>bo .mul (65536:Int) t31 fun t32=>bo .add bK t32 fun t33=>some (.ret,[t33],aA)) (bo .eql aD (5:Int) fun bM=>kV bM (fa 5 aJ fun t35=>ld false 1 aA t35 fun t36=>ca (K 100 [(kN.kP a3),(kN.kP t36)] aA) fun bN aV=>some (.ret,[bN],aV)) (bo .eql aD (6:Int) fun bO=>kV bO (fa 5 aJ fun bP=>ld false 1 aA bP fun t42=>ca (K 101 [(kN.kP a3),(kN.kP t42)] aA) fun bQ aW=>some (.ret,[bQ],aW)) (bo .eql aD (7:Int) fun t46=>kV t46 (fa 5 aJ fun bR=>ld false 1 aA bR fun t48=>ca (K 102 [(kN.kP a3),(kN.kP t48)] aA) fun t49 aX=>some (.ret,[t49],aX)) (bo .eql aD (8:Int) fun t52=>kV t52 (fa 5 aJ fun t53=>ld false 1 aA t53 fun t54=>ca (K 103 [(kN.kP a3),(kN.kP t54)] aA) fun t55 aY=>some (.ret,[t55],aY)) (bo .eql aD (9:Int) fun bS=>kV bS (ca (K 104 [(kN.kP a3)] aA) fun bT aZ=>some (.ret,[bT],aZ)) (bo .eql aD (10:Int) fun t62=>kV t62 (ca (K 105 [(kN.kP a2),(kN.kP a3)] aA) fun t63 a_=>some (.ret,[t63],a_)) (bo .eql aD (11:Int) fun t66=>kV t66 (ca (K 104 [(kN.kP a3)] aA) fun t67 bA=>ca (K 105 [(kN.kP a2),(kN.kP t67)] bA) fun bU bB=>some (.ret,[bU],bB)) (bo .eql aD (12:Int) fun t73=>kV t73 (ca (K 106 [(kN.kP a2),(kN.kP a3)] aA) fun t74 bD=>some (.ret,[t74],bD)) (bo .eql aD (13:Int) fun t77=>kV t77 (ca (K 107 [(kN.kP a2),(kN.kP a3)] aA) fun t78 bE=>some (.ret,[t78],bE)) (bo .eql aD (14:Int) fun bV=>kV bV (ca (K 46 [(kN.kP a2),(kN.kP a3)] aA) fun bW bF=>some (.ret,[bW],bF)) (bo .eql aD (15:Int) fun t85=>kV t85 (ca (K 74 [(kN.kP a2),(kN.kP a3)] aA) fun bX bG=>some (.ret,[bX],bG)) (bo .eql aD (16:Int) fun t89=>(Ru K (aa5 aA) t89 a1 a2 a3 a4 aJ aD aA).bind fun wT=>(fun aE aF aK aG aH aL aB aI aC=>Ex.pR wT.1 (kV aI (ca (K 108 [(kN.kP aF),(kN.kP aK)] aC) fun t115 aM=>some (.ret,[t115],aM)) (bo .eql aB (18:Int) fun aQ=>kV aQ (fa 5 aH fun aR=>ld false 1 aC aR fun aS=>fa 4 aH fun t121=>ld false 1 aC t121 fun t122=>ca (K 109 [(kN.kP aE),(kN.kP aF),(kN.kP aS),(kN.kP t122)] aC) fun t123 aN=>some (.ret,[t123],aN)) (bo .eql aB (19:Int) fun t126=>kV t126 (ca (K 31 [(kN.kP aG)] aC) fun aT aO=>some (.ret,[aT],aO)) (bo .eql aB (21:Int) fun t130=>kV t130 (ca (K 31 [(kN.kP aG)] aC) fun t131 aP=>bo .rem t131 (256:Int) fun aU=>some (.ret,[aU],aP)) (some (.ret,[aE],aC))))))) (gd wT.2.1 0) (gd wT.2.1 1) (gd wT.2.1 2) (gd wT.2.1 3) (gd wT.2.1 4) (gd wT.2.1 5) (gd wT.2.1 6) (gd wT.2.1 7) wT.2.2)))))))))))))).bind (mA (aa5 h0))
theorem ak2 K a0 a1 a2 a3 a4 h0:nN K 75 [a0,a1,a2,a3,a4] h0=m75 (lG mJ K) a0 a1 a2 a3 a4 h0:=by kernel_rfl
def t75 (p0:lL) (p1:Int) (p2:Int) (p3:Int) (p4:Int):Option (Int) :=
 tc (decide (p0.op=3)) (some p0.imm) (tc (decide (p0.op=4)) (tb ((qA p1 65536)) fun aC=>some (IntKind.wrap .i64 (aC+(IntKind.wrap .i64 (65536*p0.imm))))) (tc (decide (p0.op=5)) (tb ((t100 p3 p0.imm)) fun aD=>some aD) (tc (decide (p0.op=6)) (tb ((t101 p3 p0.imm)) fun U7=>some U7) (tc (decide (p0.op=7)) (tb ((t102 p3 p0.imm)) fun aE=>some aE) (tc (decide (p0.op=8)) (tb ((t103 p3 p0.imm)) fun r57=>some r57) (tc (decide (p0.op=9)) (tb ((t104 p3)) fun aF=>some aF) (tc (decide (p0.op=10)) (tb ((t105 p2 p3)) fun r65=>some r65) (tc (decide (p0.op=11)) (tb ((t104 p3)) fun aG=>tb ((t105 p2 aG)) fun PE=>some PE) (tc (decide (p0.op=12)) (tb ((t106 p2 p3)) fun PF=>some PF) (tc (decide (p0.op=13)) (tb ((t107 p2 p3)) fun r80=>some r80) (tc (decide (p0.op=14)) (tb ((t46 p2 p3)) fun aH=>some aH) (tc (decide (p0.op=15)) (tb ((t74 p2 p3)) fun Ij=>some Ij) (tb (pX (decide (p0.op=16)) p0) fun wT=>tc wT (tb ((t108 p2 p3)) fun Gn=>some Gn) (tc (decide (p0.op=18)) (tb ((t109 p1 p2 p0.imm p0.ra)) fun ab1=>some ab1) (tc (decide (p0.op=19)) (tb ((t31 p4)) fun US=>some US) (tc (decide (p0.op=21)) (tb ((t31 p4)) fun aB=>tb ((qA aB 256)) fun aA=>some aA) (some p1)))))))))))))))))
theorem r75 (p0:lL) (p1:Int) (p2:Int) (p3:Int) (p4:Int) (h:kO):KK 75 [(.agg [p0.op,p0.rd,p0.rn,p0.rm,p0.ra,p0.imm,p0.cond,p0.wide]),p1,p2,p3,p4] h=tm (t75 p0 p1 p2 p3 p4) fun r=>(.ret r,h):=lJ rfl rfl (ak2 ..) (by
 simp -implicitDefEqProofs [-rZ,-oZ,-oJ,-p5,-pV,-qX,-qY,m75,t75,xN,DW,al7,UR,aD0,wT,Gm,AV,AY,r74,anH,aw9,aD1,yP,mA])
end
end
noncomputable section
open Go Hk
def nL (i:lL) (d n m l:Int):Int:=(t75 i d n m l).getD 0
def qI (s:St) (k:Int) (x:Int):St:={ s with r:=Fz s.r k.toNat x }
def mE (s:St) (i:lL) (l:Int):St :=
 if i.op=1∨i.op=20∨i.op=22 then s
 else if i.op=23 then Uv s (s.r i.rn.toNat) (s.r i.rm.toNat)
 else if i.op=17 then qI (qI s i.rd ((s.r i.rn.toNat*s.r i.rm.toNat)%4294967296)) i.ra ((s.r i.rn.toNat*s.r i.rm.toNat)/4294967296)
 else qI s i.rd (nL i (s.r i.rd.toNat) (s.r i.rn.toNat) (s.r i.rm.toNat) l)
def Wd (s:St):Prop:=∀k,∃x:Nat,x<4294967296∧s.r k=x
theorem KS (s:St):Wd (Af s):=fun k=>⟨(wr (s.r k)).toNat,by have:=tW (s.r k);omega,by have:=tW (s.r k);show wr (s.r k)=_;omega⟩
theorem qV {i:lL}{d n m l v:Int}(h:t75 i d n m l=some v):nL i d n m l=v:=by unfold nL;rw [h];rfl
theorem OV {f:Nat}{args:List kN}{x:Option Int}{v:Int}{h:kO}(hr:∀h,KK f args h=tm x fun r=>(.ret (.int .i64 r),h)) (hx:x=some v):KK f args h=some (.ret (.int .i64 v),h):=by rw [hr,hx];rfl
theorem T_ {d:Nat}:qA (d:Int) 65536=some ((d%65536:Nat):Int):=by rw [pE (by omega) (by decide)];rfl
set_option maxHeartbeats 4000000 in
theorem e1 (s:St) (i:lL) (l:Int) (hs:Wd s) (g:GB i) (hop:i.op=1):yH KK (.agg (Sc s)) (.agg i.cells) (.int .i64 l) []=some (.ret (.agg (Sc (mE s i l))),[]):=by
 obtain⟨n,hn,en⟩:=hs i.rn.toNat
 obtain⟨m,hm,em⟩:=hs i.rm.toNat
 obtain⟨d,hd,ed⟩:=hs i.rd.toNat
 obtain⟨g1,g2,d0,d1,n0,n1,m0,m1,a0,a1,g17,g18,gi0,gi1,gi2,gi3,gi4⟩:=g
 have dk:i.rd.toNat<15:=by omega
 have nk:i.rn.toNat<15:=by omega
 have mk:i.rm.toNat<15:=by omega
 have d19:i.rd.toNat≤19:=by omega
 have ms:mE s i l=s:=by simp [mE,hop]
 rw [ms]
 simp -implicitDefEqProofs [-kU,yH,hop,mK d0 (show i.rd<15 by omega),mK n0 (show i.rn<15 by omega),mK m0 (show i.rm<15 by omega),lK dk,lK nk,lK mk,nV dk,d19,qI,en,em,ed]
set_option maxHeartbeats 4000000 in
theorem e3 (s:St) (i:lL) (l:Int) (hs:Wd s) (g:GB i) (hop:i.op=3):yH KK (.agg (Sc s)) (.agg i.cells) (.int .i64 l) []=some (.ret (.agg (Sc (mE s i l))),[]):=by
 obtain⟨n,hn,en⟩:=hs i.rn.toNat
 obtain⟨m,hm,em⟩:=hs i.rm.toNat
 obtain⟨d,hd,ed⟩:=hs i.rd.toNat
 obtain⟨g1,g2,d0,d1,n0,n1,m0,m1,a0,a1,g17,g18,gi0,gi1,gi2,gi3,gi4⟩:=g
 have dk:i.rd.toNat<15:=by omega
 have nk:i.rn.toNat<15:=by omega
 have mk:i.rm.toNat<15:=by omega
 have d19:i.rd.toNat≤19:=by omega
 have ms:mE s i l=qI s i.rd i.imm:=by simp [mE,nL,t75,hop]
 rw [ms]
 simp -implicitDefEqProofs [-kU,yH,hop,mK d0 (show i.rd<15 by omega),mK n0 (show i.rn<15 by omega),mK m0 (show i.rm<15 by omega),lK dk,lK nk,lK mk,nV dk,d19,qI,en,em,ed]
set_option maxHeartbeats 4000000 in
theorem e4 (s:St) (i:lL) (l:Int) (hs:Wd s) (g:GB i) (hop:i.op=4):yH KK (.agg (Sc s)) (.agg i.cells) (.int .i64 l) []=some (.ret (.agg (Sc (mE s i l))),[]):=by
 obtain⟨n,hn,en⟩:=hs i.rn.toNat
 obtain⟨m,hm,em⟩:=hs i.rm.toNat
 obtain⟨d,hd,ed⟩:=hs i.rd.toNat
 obtain⟨g1,g2,d0,d1,n0,n1,m0,m1,a0,a1,g17,g18,gi0,gi1,gi2,gi3,gi4⟩:=g
 have dk:i.rd.toNat<15:=by omega
 have nk:i.rn.toNat<15:=by omega
 have mk:i.rm.toNat<15:=by omega
 have d19:i.rd.toNat≤19:=by omega
 obtain⟨q,hq,eq⟩:∃q:Nat,q<65536∧i.imm=(q:Int):=⟨i.imm.toNat,by omega,by omega⟩
 have hv:nL i d n m l=((d%65536+65536*q:Nat):Int):=qV (by
  simp only [t75,hop,ae2,decide_false,decide_true,kX,lD,eq,T_,kS,aa9]
  rw [lP (65536*_) (by omega) (by omega),lP _ (by omega) (by omega)];omega)
 have hk:∀h,KK 122 [.int .i64 (d:Int),.int .i64 i.imm,.int .i64 16,.int .i64 16] h=some (.ret (.int .i64 (nL i d n m l)),h):=fun h=>OV (Pe _ _ _ _) (by
  obtain⟨V,h1,h2⟩:=S5 hd (show q<4294967296 by omega) 16 16 (by decide) (by decide)
  rw [hv,←Wf hq h2,eq];exact h1)
 have ms:mE s i l=qI s i.rd (nL i d n m l):=by simp [mE,hop,en,em,ed]
 rw [ms]
 generalize nL i (d:Int) (n:Int) (m:Int) l=v at hk ⊢
 simp -implicitDefEqProofs [-kU,yH,hop,mK d0 (show i.rd<15 by omega),mK n0 (show i.rn<15 by omega),mK m0 (show i.rm<15 by omega),lK dk,lK nk,lK mk,nV dk,d19,qI,en,em,ed,hk]
set_option maxHeartbeats 4000000 in
theorem e5 (s:St) (i:lL) (l:Int) (hs:Wd s) (g:GB i) (hop:i.op=5):yH KK (.agg (Sc s)) (.agg i.cells) (.int .i64 l) []=some (.ret (.agg (Sc (mE s i l))),[]):=by
 obtain⟨n,hn,en⟩:=hs i.rn.toNat
 obtain⟨m,hm,em⟩:=hs i.rm.toNat
 obtain⟨d,hd,ed⟩:=hs i.rd.toNat
 obtain⟨g1,g2,d0,d1,n0,n1,m0,m1,a0,a1,g17,g18,gi0,gi1,gi2,gi3,gi4⟩:=g
 have dk:i.rd.toNat<15:=by omega
 have nk:i.rn.toNat<15:=by omega
 have mk:i.rm.toNat<15:=by omega
 have d19:i.rd.toNat≤19:=by omega
 obtain⟨q,hq,eq⟩:∃q:Nat,q<32∧i.imm=(q:Int):=⟨i.imm.toNat,by omega,by omega⟩
 have hv:nL i d n m l=_:=qV (by simp only [t75,hop,ae2,decide_false,decide_true,kX,lD,eq,Xy hm hq,kS];rfl)
 have hk:∀h,KK 123 [.int .i64 5,.int .i64 (m:Int),.int .i64 i.imm] h=some (.ret (.int .i64 (nL i d n m l)),h):=fun h=>OV (zI _ _ _) (by rw [hv];simp only [t123,ae2,decide_false,decide_true,kX,lD,eq,XL hm hq,kS])
 have ms:mE s i l=qI s i.rd (nL i d n m l):=by simp [mE,hop,en,em,ed]
 rw [ms]
 generalize nL i (d:Int) (n:Int) (m:Int) l=v at hk ⊢
 simp -implicitDefEqProofs [-kU,yH,hop,mK d0 (show i.rd<15 by omega),mK n0 (show i.rn<15 by omega),mK m0 (show i.rm<15 by omega),lK dk,lK nk,lK mk,nV dk,d19,qI,en,em,ed,hk]
set_option maxHeartbeats 4000000 in
theorem e6 (s:St) (i:lL) (l:Int) (hs:Wd s) (g:GB i) (hop:i.op=6):yH KK (.agg (Sc s)) (.agg i.cells) (.int .i64 l) []=some (.ret (.agg (Sc (mE s i l))),[]):=by
 obtain⟨n,hn,en⟩:=hs i.rn.toNat
 obtain⟨m,hm,em⟩:=hs i.rm.toNat
 obtain⟨d,hd,ed⟩:=hs i.rd.toNat
 obtain⟨g1,g2,d0,d1,n0,n1,m0,m1,a0,a1,g17,g18,gi0,gi1,gi2,gi3,gi4⟩:=g
 have dk:i.rd.toNat<15:=by omega
 have nk:i.rn.toNat<15:=by omega
 have mk:i.rm.toNat<15:=by omega
 have d19:i.rd.toNat≤19:=by omega
 obtain⟨q,hq,eq⟩:∃q:Nat,q<32∧i.imm=(q:Int):=⟨i.imm.toNat,by omega,by omega⟩
 have hv:nL i d n m l=_:=qV (by simp only [t75,hop,ae2,decide_false,decide_true,kX,lD,eq,Xz hm hq,kS];rfl)
 have hk:∀h,KK 123 [.int .i64 6,.int .i64 (m:Int),.int .i64 i.imm] h=some (.ret (.int .i64 (nL i d n m l)),h):=fun h=>OV (zI _ _ _) (by rw [hv];simp only [t123,ae2,decide_false,decide_true,kX,lD,eq,S7 hm hq,kS])
 have ms:mE s i l=qI s i.rd (nL i d n m l):=by simp [mE,hop,en,em,ed]
 rw [ms]
 generalize nL i (d:Int) (n:Int) (m:Int) l=v at hk ⊢
 simp -implicitDefEqProofs [-kU,yH,hop,mK d0 (show i.rd<15 by omega),mK n0 (show i.rn<15 by omega),mK m0 (show i.rm<15 by omega),lK dk,lK nk,lK mk,nV dk,d19,qI,en,em,ed,hk]
set_option maxHeartbeats 4000000 in
theorem e7 (s:St) (i:lL) (l:Int) (hs:Wd s) (g:GB i) (hop:i.op=7):yH KK (.agg (Sc s)) (.agg i.cells) (.int .i64 l) []=some (.ret (.agg (Sc (mE s i l))),[]):=by
 obtain⟨n,hn,en⟩:=hs i.rn.toNat
 obtain⟨m,hm,em⟩:=hs i.rm.toNat
 obtain⟨d,hd,ed⟩:=hs i.rd.toNat
 obtain⟨g1,g2,d0,d1,n0,n1,m0,m1,a0,a1,g17,g18,gi0,gi1,gi2,gi3,gi4⟩:=g
 have dk:i.rd.toNat<15:=by omega
 have nk:i.rn.toNat<15:=by omega
 have mk:i.rm.toNat<15:=by omega
 have d19:i.rd.toNat≤19:=by omega
 obtain⟨q,hq,eq⟩:∃q:Nat,q<32∧i.imm=(q:Int):=⟨i.imm.toNat,by omega,by omega⟩
 have hv:nL i d n m l=_:=qV (by simp only [t75,hop,ae2,decide_false,decide_true,kX,lD,eq,XA hm hq,kS];rfl)
 have hk:∀h,KK 123 [.int .i64 7,.int .i64 (m:Int),.int .i64 i.imm] h=some (.ret (.int .i64 (nL i d n m l)),h):=fun h=>OV (zI _ _ _) (by rw [hv];simp only [t123,ae2,decide_false,decide_true,kX,lD,eq,apB hm hq,kS])
 have ms:mE s i l=qI s i.rd (nL i d n m l):=by simp [mE,hop,en,em,ed]
 rw [ms]
 generalize nL i (d:Int) (n:Int) (m:Int) l=v at hk ⊢
 simp -implicitDefEqProofs [-kU,yH,hop,mK d0 (show i.rd<15 by omega),mK n0 (show i.rn<15 by omega),mK m0 (show i.rm<15 by omega),lK dk,lK nk,lK mk,nV dk,d19,qI,en,em,ed,hk]
set_option maxHeartbeats 4000000 in
theorem e8 (s:St) (i:lL) (l:Int) (hs:Wd s) (g:GB i) (hop:i.op=8):yH KK (.agg (Sc s)) (.agg i.cells) (.int .i64 l) []=some (.ret (.agg (Sc (mE s i l))),[]):=by
 obtain⟨n,hn,en⟩:=hs i.rn.toNat
 obtain⟨m,hm,em⟩:=hs i.rm.toNat
 obtain⟨d,hd,ed⟩:=hs i.rd.toNat
 obtain⟨g1,g2,d0,d1,n0,n1,m0,m1,a0,a1,g17,g18,gi0,gi1,gi2,gi3,gi4⟩:=g
 have dk:i.rd.toNat<15:=by omega
 have nk:i.rn.toNat<15:=by omega
 have mk:i.rm.toNat<15:=by omega
 have d19:i.rd.toNat≤19:=by omega
 obtain⟨q,hq,eq⟩:∃q:Nat,q<32∧i.imm=(q:Int):=⟨i.imm.toNat,by omega,by omega⟩
 have hv:nL i d n m l=_:=qV (by simp only [t75,hop,ae2,decide_false,decide_true,kX,lD,eq,XB hm hq,kS];rfl)
 have hk:∀h,KK 123 [.int .i64 8,.int .i64 (m:Int),.int .i64 i.imm] h=some (.ret (.int .i64 (nL i d n m l)),h):=fun h=>OV (zI _ _ _) (by rw [hv];simp only [t123,ae2,decide_false,decide_true,kX,lD,eq,apC hm hq,kS])
 have ms:mE s i l=qI s i.rd (nL i d n m l):=by simp [mE,hop,en,em,ed]
 rw [ms]
 generalize nL i (d:Int) (n:Int) (m:Int) l=v at hk ⊢
 simp -implicitDefEqProofs [-kU,yH,hop,mK d0 (show i.rd<15 by omega),mK n0 (show i.rn<15 by omega),mK m0 (show i.rm<15 by omega),lK dk,lK nk,lK mk,nV dk,d19,qI,en,em,ed,hk]
set_option maxHeartbeats 4000000 in
theorem e9 (s:St) (i:lL) (l:Int) (hs:Wd s) (g:GB i) (hop:i.op=9):yH KK (.agg (Sc s)) (.agg i.cells) (.int .i64 l) []=some (.ret (.agg (Sc (mE s i l))),[]):=by
 obtain⟨n,hn,en⟩:=hs i.rn.toNat
 obtain⟨m,hm,em⟩:=hs i.rm.toNat
 obtain⟨d,hd,ed⟩:=hs i.rd.toNat
 obtain⟨g1,g2,d0,d1,n0,n1,m0,m1,a0,a1,g17,g18,gi0,gi1,gi2,gi3,gi4⟩:=g
 have dk:i.rd.toNat<15:=by omega
 have nk:i.rn.toNat<15:=by omega
 have mk:i.rm.toNat<15:=by omega
 have d19:i.rd.toNat≤19:=by omega
 have hv:nL i d n m l=_:=qV (by simp only [t75,hop,ae2,decide_false,decide_true,kX,lD,Ni hm,kS];rfl)
 have hk:∀h,KK 27 [.int .i64 (m:Int)] h=some (.ret (.int .i64 (nL i d n m l)),h):=fun h=>OV (Ce _) (by rw [hv];exact afS hm)
 have ms:mE s i l=qI s i.rd (nL i d n m l):=by simp [mE,hop,en,em,ed]
 rw [ms]
 generalize nL i (d:Int) (n:Int) (m:Int) l=v at hk ⊢
 simp -implicitDefEqProofs [-kU,yH,hop,mK d0 (show i.rd<15 by omega),mK n0 (show i.rn<15 by omega),mK m0 (show i.rm<15 by omega),lK dk,lK nk,lK mk,nV dk,d19,qI,en,em,ed,hk]
set_option maxHeartbeats 4000000 in
theorem e10 (s:St) (i:lL) (l:Int) (hs:Wd s) (g:GB i) (hop:i.op=10):yH KK (.agg (Sc s)) (.agg i.cells) (.int .i64 l) []=some (.ret (.agg (Sc (mE s i l))),[]):=by
 obtain⟨n,hn,en⟩:=hs i.rn.toNat
 obtain⟨m,hm,em⟩:=hs i.rm.toNat
 obtain⟨d,hd,ed⟩:=hs i.rd.toNat
 obtain⟨g1,g2,d0,d1,n0,n1,m0,m1,a0,a1,g17,g18,gi0,gi1,gi2,gi3,gi4⟩:=g
 have dk:i.rd.toNat<15:=by omega
 have nk:i.rn.toNat<15:=by omega
 have mk:i.rm.toNat<15:=by omega
 have d19:i.rd.toNat≤19:=by omega
 have hv:nL i d n m l=_:=qV (by simp only [t75,pX,hop,ae2,decide_false,decide_true,kX,lD,Nj hn hm,kS];rfl)
 have hk:∀h,KK 124 [.int .i64 10,.int .i64 (n:Int),.int .i64 (m:Int)] h=some (.ret (.int .i64 (nL i d n m l)),h):=fun h=>OV (Ab _ _ _) (by rw [hv];simp only [t124,ae2,decide_false,decide_true,kX,lD,S8 hn hm,kS])
 have ms:mE s i l=qI s i.rd (nL i d n m l):=by simp [mE,hop,en,em,ed]
 rw [ms]
 generalize nL i (d:Int) (n:Int) (m:Int) l=v at hk ⊢
 simp -implicitDefEqProofs [-kU,yH,hop,mK d0 (show i.rd<15 by omega),mK n0 (show i.rn<15 by omega),mK m0 (show i.rm<15 by omega),lK dk,lK nk,lK mk,nV dk,d19,qI,en,em,ed,hk]
set_option maxHeartbeats 4000000 in
theorem e11 (s:St) (i:lL) (l:Int) (hs:Wd s) (g:GB i) (hop:i.op=11):yH KK (.agg (Sc s)) (.agg i.cells) (.int .i64 l) []=some (.ret (.agg (Sc (mE s i l))),[]):=by
 obtain⟨n,hn,en⟩:=hs i.rn.toNat
 obtain⟨m,hm,em⟩:=hs i.rm.toNat
 obtain⟨d,hd,ed⟩:=hs i.rd.toNat
 obtain⟨g1,g2,d0,d1,n0,n1,m0,m1,a0,a1,g17,g18,gi0,gi1,gi2,gi3,gi4⟩:=g
 have dk:i.rd.toNat<15:=by omega
 have nk:i.rn.toNat<15:=by omega
 have mk:i.rm.toNat<15:=by omega
 have d19:i.rd.toNat≤19:=by omega
 have hm2:4294967295-m<4294967296:=by omega
 have hv:nL i d n m l=_:=qV (by simp only [t75,hop,ae2,decide_false,decide_true,kX,lD,Ni hm,Nj hn hm2,kS];rfl)
 have hk:∀h,KK 124 [.int .i64 11,.int .i64 (n:Int),.int .i64 (m:Int)] h=some (.ret (.int .i64 (nL i d n m l)),h):=fun h=>OV (Ab _ _ _) (by rw [hv];simp only [t124,ae2,decide_false,decide_true,kX,lD,afS hm,S8 hn hm2,kS])
 have ms:mE s i l=qI s i.rd (nL i d n m l):=by simp [mE,hop,en,em,ed]
 rw [ms]
 generalize nL i (d:Int) (n:Int) (m:Int) l=v at hk ⊢
 simp -implicitDefEqProofs [-kU,yH,hop,mK d0 (show i.rd<15 by omega),mK n0 (show i.rn<15 by omega),mK m0 (show i.rm<15 by omega),lK dk,lK nk,lK mk,nV dk,d19,qI,en,em,ed,hk]
set_option maxHeartbeats 4000000 in
theorem e12 (s:St) (i:lL) (l:Int) (hs:Wd s) (g:GB i) (hop:i.op=12):yH KK (.agg (Sc s)) (.agg i.cells) (.int .i64 l) []=some (.ret (.agg (Sc (mE s i l))),[]):=by
 obtain⟨n,hn,en⟩:=hs i.rn.toNat
 obtain⟨m,hm,em⟩:=hs i.rm.toNat
 obtain⟨d,hd,ed⟩:=hs i.rd.toNat
 obtain⟨g1,g2,d0,d1,n0,n1,m0,m1,a0,a1,g17,g18,gi0,gi1,gi2,gi3,gi4⟩:=g
 have dk:i.rd.toNat<15:=by omega
 have nk:i.rn.toNat<15:=by omega
 have mk:i.rm.toNat<15:=by omega
 have d19:i.rd.toNat≤19:=by omega
 have hv:nL i d n m l=_:=qV (by simp only [t75,pX,hop,ae2,decide_false,decide_true,kX,lD,XC hn hm,kS];rfl)
 have hk:∀h,KK 124 [.int .i64 12,.int .i64 (n:Int),.int .i64 (m:Int)] h=some (.ret (.int .i64 (nL i d n m l)),h):=fun h=>OV (Ab _ _ _) (by rw [hv];simp only [t124,ae2,decide_false,decide_true,kX,lD,S9 hn hm,kS])
 have ms:mE s i l=qI s i.rd (nL i d n m l):=by simp [mE,hop,en,em,ed]
 rw [ms]
 generalize nL i (d:Int) (n:Int) (m:Int) l=v at hk ⊢
 simp -implicitDefEqProofs [-kU,yH,hop,mK d0 (show i.rd<15 by omega),mK n0 (show i.rn<15 by omega),mK m0 (show i.rm<15 by omega),lK dk,lK nk,lK mk,nV dk,d19,qI,en,em,ed,hk]
set_option maxHeartbeats 4000000 in
theorem e13 (s:St) (i:lL) (l:Int) (hs:Wd s) (g:GB i) (hop:i.op=13):yH KK (.agg (Sc s)) (.agg i.cells) (.int .i64 l) []=some (.ret (.agg (Sc (mE s i l))),[]):=by
 obtain⟨n,hn,en⟩:=hs i.rn.toNat
 obtain⟨m,hm,em⟩:=hs i.rm.toNat
 obtain⟨d,hd,ed⟩:=hs i.rd.toNat
 obtain⟨g1,g2,d0,d1,n0,n1,m0,m1,a0,a1,g17,g18,gi0,gi1,gi2,gi3,gi4⟩:=g
 have dk:i.rd.toNat<15:=by omega
 have nk:i.rn.toNat<15:=by omega
 have mk:i.rm.toNat<15:=by omega
 have d19:i.rd.toNat≤19:=by omega
 have hv:nL i d n m l=_:=qV (by simp only [t75,pX,hop,ae2,decide_false,decide_true,kX,lD,XE hn hm,kS];rfl)
 have hk:∀h,KK 124 [.int .i64 13,.int .i64 (n:Int),.int .i64 (m:Int)] h=some (.ret (.int .i64 (nL i d n m l)),h):=fun h=>OV (Ab _ _ _) (by rw [hv];simp only [t124,ae2,decide_false,decide_true,kX,lD,afX hn hm,kS])
 have ms:mE s i l=qI s i.rd (nL i d n m l):=by simp [mE,hop,en,em,ed]
 rw [ms]
 generalize nL i (d:Int) (n:Int) (m:Int) l=v at hk ⊢
 simp -implicitDefEqProofs [-kU,yH,hop,mK d0 (show i.rd<15 by omega),mK n0 (show i.rn<15 by omega),mK m0 (show i.rm<15 by omega),lK dk,lK nk,lK mk,nV dk,d19,qI,en,em,ed,hk]
set_option maxHeartbeats 4000000 in
theorem e14 (s:St) (i:lL) (l:Int) (hs:Wd s) (g:GB i) (hop:i.op=14):yH KK (.agg (Sc s)) (.agg i.cells) (.int .i64 l) []=some (.ret (.agg (Sc (mE s i l))),[]):=by
 obtain⟨n,hn,en⟩:=hs i.rn.toNat
 obtain⟨m,hm,em⟩:=hs i.rm.toNat
 obtain⟨d,hd,ed⟩:=hs i.rd.toNat
 obtain⟨g1,g2,d0,d1,n0,n1,m0,m1,a0,a1,g17,g18,gi0,gi1,gi2,gi3,gi4⟩:=g
 have dk:i.rd.toNat<15:=by omega
 have nk:i.rn.toNat<15:=by omega
 have mk:i.rm.toNat<15:=by omega
 have d19:i.rd.toNat≤19:=by omega
 have hv:nL i d n m l=_:=qV (by simp only [t75,pX,hop,ae2,decide_false,decide_true,kX,lD,afU,kS];rfl)
 have hk:∀h,KK 124 [.int .i64 14,.int .i64 (n:Int),.int .i64 (m:Int)] h=some (.ret (.int .i64 (nL i d n m l)),h):=fun h=>OV (Ab _ _ _) (by rw [hv];simp only [t124,ae2,decide_false,decide_true,kX,lD,azV,kS])
 have ms:mE s i l=qI s i.rd (nL i d n m l):=by simp [mE,hop,en,em,ed]
 rw [ms]
 generalize nL i (d:Int) (n:Int) (m:Int) l=v at hk ⊢
 simp -implicitDefEqProofs [-kU,yH,hop,mK d0 (show i.rd<15 by omega),mK n0 (show i.rn<15 by omega),mK m0 (show i.rm<15 by omega),lK dk,lK nk,lK mk,nV dk,d19,qI,en,em,ed,hk]
set_option maxHeartbeats 4000000 in
theorem e15 (s:St) (i:lL) (l:Int) (hs:Wd s) (g:GB i) (hop:i.op=15):yH KK (.agg (Sc s)) (.agg i.cells) (.int .i64 l) []=some (.ret (.agg (Sc (mE s i l))),[]):=by
 obtain⟨n,hn,en⟩:=hs i.rn.toNat
 obtain⟨m,hm,em⟩:=hs i.rm.toNat
 obtain⟨d,hd,ed⟩:=hs i.rd.toNat
 obtain⟨g1,g2,d0,d1,n0,n1,m0,m1,a0,a1,g17,g18,gi0,gi1,gi2,gi3,gi4⟩:=g
 have dk:i.rd.toNat<15:=by omega
 have nk:i.rn.toNat<15:=by omega
 have mk:i.rm.toNat<15:=by omega
 have d19:i.rd.toNat≤19:=by omega
 have hv:nL i d n m l=_:=qV (by simp only [t75,pX,hop,ae2,decide_false,decide_true,kX,lD,XR,kS];rfl)
 have hk:∀h,KK 124 [.int .i64 15,.int .i64 (n:Int),.int .i64 (m:Int)] h=some (.ret (.int .i64 (nL i d n m l)),h):=fun h=>OV (Ab _ _ _) (by rw [hv];simp only [t124,ae2,decide_false,decide_true,kX,lD,XM,kS])
 have ms:mE s i l=qI s i.rd (nL i d n m l):=by simp [mE,hop,en,em,ed]
 rw [ms]
 generalize nL i (d:Int) (n:Int) (m:Int) l=v at hk ⊢
 simp -implicitDefEqProofs [-kU,yH,hop,mK d0 (show i.rd<15 by omega),mK n0 (show i.rn<15 by omega),mK m0 (show i.rm<15 by omega),lK dk,lK nk,lK mk,nV dk,d19,qI,en,em,ed,hk]
set_option maxHeartbeats 4000000 in
theorem e16 (s:St) (i:lL) (l:Int) (hs:Wd s) (g:GB i) (hop:i.op=16):yH KK (.agg (Sc s)) (.agg i.cells) (.int .i64 l) []=some (.ret (.agg (Sc (mE s i l))),[]):=by
 obtain⟨n,hn,en⟩:=hs i.rn.toNat
 obtain⟨m,hm,em⟩:=hs i.rm.toNat
 obtain⟨d,hd,ed⟩:=hs i.rd.toNat
 obtain⟨g1,g2,d0,d1,n0,n1,m0,m1,a0,a1,g17,g18,gi0,gi1,gi2,gi3,gi4⟩:=g
 have dk:i.rd.toNat<15:=by omega
 have nk:i.rn.toNat<15:=by omega
 have mk:i.rm.toNat<15:=by omega
 have d19:i.rd.toNat≤19:=by omega
 have hv:nL i d n m l=_:=qV (by simp only [t75,pX,hop,ae2,decide_false,decide_true,kX,lD,Ip hn hm,kS];rfl)
 have hk:∀h,KK 124 [.int .i64 16,.int .i64 (n:Int),.int .i64 (m:Int)] h=some (.ret (.int .i64 (nL i d n m l)),h):=fun h=>OV (Ab _ _ _) (by rw [hv];simp only [t124,ae2,decide_false,decide_true,kX,lD,XI hn hm,kS])
 have ms:mE s i l=qI s i.rd (nL i d n m l):=by simp [mE,hop,en,em,ed]
 rw [ms]
 generalize nL i (d:Int) (n:Int) (m:Int) l=v at hk ⊢
 simp -implicitDefEqProofs [-kU,yH,hop,mK d0 (show i.rd<15 by omega),mK n0 (show i.rn<15 by omega),mK m0 (show i.rm<15 by omega),lK dk,lK nk,lK mk,nV dk,d19,qI,en,em,ed,hk]
set_option maxHeartbeats 4000000 in
theorem e17 (s:St) (i:lL) (l:Int) (hs:Wd s) (g:GB i) (hop:i.op=17):yH KK (.agg (Sc s)) (.agg i.cells) (.int .i64 l) []=some (.ret (.agg (Sc (mE s i l))),[]):=by
 obtain⟨n,hn,en⟩:=hs i.rn.toNat
 obtain⟨m,hm,em⟩:=hs i.rm.toNat
 obtain⟨d,hd,ed⟩:=hs i.rd.toNat
 obtain⟨g1,g2,d0,d1,n0,n1,m0,m1,a0,a1,g17,g18,gi0,gi1,gi2,gi3,gi4⟩:=g
 have dk:i.rd.toNat<15:=by omega
 have nk:i.rn.toNat<15:=by omega
 have mk:i.rm.toNat<15:=by omega
 have d19:i.rd.toNat≤19:=by omega
 obtain⟨ga1,ga2⟩:=g17 hop
 have ak:i.ra.toNat<15:=by omega
 have a19:i.ra.toNat≤19:=by omega
 have ms:mE s i l=qI (qI s i.rd ((n*m%4294967296:Nat):Int)) i.ra ((n*m/4294967296:Nat):Int):=by
  simp only [mE,hop,en,em,ae2,or_self,if_false,if_true];rfl
 rw [ms]
 have h1:∀h,KK 125 [.int .i64 (n:Int),.int .i64 (m:Int)] h=some (.ret (.int .i64 ((n*m%4294967296:Nat):Int)),h):=fun h=>OV (ab1 _ _) (XI hn hm)
 have h2:∀h,KK 126 [.int .i64 (n:Int),.int .i64 (m:Int)] h=some (.ret (.int .i64 ((n*m/4294967296:Nat):Int)),h):=fun h=>OV (aD2 _ _) (ao8 hn hm)
 generalize ((n*m%4294967296:Nat):Int)=v1 at h1 ⊢
 generalize ((n*m/4294967296:Nat):Int)=v2 at h2 ⊢
 simp -implicitDefEqProofs [-kU,yH,hop,mK d0 (show i.rd<15 by omega),mK n0 (show i.rn<15 by omega),mK m0 (show i.rm<15 by omega),lK dk,lK nk,lK mk,nV dk,d19,qI,en,em,ed,h1,h2,mK a0 (show i.ra<15 by omega),nV ak,a19]
set_option maxHeartbeats 4000000 in
theorem e18 (s:St) (i:lL) (l:Int) (hs:Wd s) (g:GB i) (hop:i.op=18):yH KK (.agg (Sc s)) (.agg i.cells) (.int .i64 l) []=some (.ret (.agg (Sc (mE s i l))),[]):=by
 obtain⟨n,hn,en⟩:=hs i.rn.toNat
 obtain⟨m,hm,em⟩:=hs i.rm.toNat
 obtain⟨d,hd,ed⟩:=hs i.rd.toNat
 obtain⟨g1,g2,d0,d1,n0,n1,m0,m1,a0,a1,g17,g18,gi0,gi1,gi2,gi3,gi4⟩:=g
 have dk:i.rd.toNat<15:=by omega
 have nk:i.rn.toNat<15:=by omega
 have mk:i.rm.toNat<15:=by omega
 have d19:i.rd.toNat≤19:=by omega
 obtain⟨q,hq,eq⟩:∃q:Nat,q<32∧i.imm=(q:Int):=⟨i.imm.toNat,by omega,by omega⟩
 obtain⟨p,hp,ep⟩:∃p:Nat,q+p≤32∧i.ra=(p:Int):=⟨i.ra.toNat,by omega,by omega⟩
 obtain⟨V,h1,h2⟩:=S5 hd hn q p hp (by omega)
 obtain⟨W,h3,h4⟩:=XF hd hn q p hp
 have hv:nL i d n m l=(V:Int):=qV (by simp only [t75,pX,hop,ae2,decide_false,decide_true,kX,lD,eq,ep,h3,kS,h2.uniq h4])
 have hk:∀h,KK 122 [.int .i64 (d:Int),.int .i64 (n:Int),.int .i64 i.imm,.int .i64 i.ra] h=some (.ret (.int .i64 (nL i d n m l)),h):=fun h=>OV (Pe _ _ _ _) (by rw [hv,eq,ep];exact h1)
 have ms:mE s i l=qI s i.rd (nL i d n m l):=by simp [mE,hop,en,em,ed]
 rw [ms]
 generalize nL i (d:Int) (n:Int) (m:Int) l=v at hk ⊢
 simp -implicitDefEqProofs [-kU,yH,hop,mK d0 (show i.rd<15 by omega),mK n0 (show i.rn<15 by omega),mK m0 (show i.rm<15 by omega),lK dk,lK nk,lK mk,nV dk,d19,qI,en,em,ed,hk]
set_option maxHeartbeats 4000000 in
theorem e19 (s:St) (i:lL) (l:Int) (hs:Wd s) (g:GB i) (hop:i.op=19):yH KK (.agg (Sc s)) (.agg i.cells) (.int .i64 l) []=some (.ret (.agg (Sc (mE s i l))),[]):=by
 obtain⟨n,hn,en⟩:=hs i.rn.toNat
 obtain⟨m,hm,em⟩:=hs i.rm.toNat
 obtain⟨d,hd,ed⟩:=hs i.rd.toNat
 obtain⟨g1,g2,d0,d1,n0,n1,m0,m1,a0,a1,g17,g18,gi0,gi1,gi2,gi3,gi4⟩:=g
 have dk:i.rd.toNat<15:=by omega
 have nk:i.rn.toNat<15:=by omega
 have mk:i.rm.toNat<15:=by omega
 have d19:i.rd.toNat≤19:=by omega
 have hv:nL i d n m l=wr l:=qV (by simp only [t75,pX,hop,ae2,decide_false,decide_true,kX,lD,yC,kS])
 have hk:∀h,KK 36 [.int .i64 l] h=some (.ret (.int .i64 (nL i d n m l)),h):=fun h=>by rw [hv];exact Zw l h
 have ms:mE s i l=qI s i.rd (nL i d n m l):=by simp [mE,hop,en,em,ed]
 rw [ms]
 generalize nL i (d:Int) (n:Int) (m:Int) l=v at hk ⊢
 simp -implicitDefEqProofs [-kU,yH,hop,mK d0 (show i.rd<15 by omega),mK n0 (show i.rn<15 by omega),mK m0 (show i.rm<15 by omega),lK dk,lK nk,lK mk,nV dk,d19,qI,en,em,ed,hk]
set_option maxHeartbeats 4000000 in
theorem e20 (s:St) (i:lL) (l:Int) (hs:Wd s) (g:GB i) (hop:i.op=20):yH KK (.agg (Sc s)) (.agg i.cells) (.int .i64 l) []=some (.ret (.agg (Sc (mE s i l))),[]):=by
 obtain⟨n,hn,en⟩:=hs i.rn.toNat
 obtain⟨m,hm,em⟩:=hs i.rm.toNat
 obtain⟨d,hd,ed⟩:=hs i.rd.toNat
 obtain⟨g1,g2,d0,d1,n0,n1,m0,m1,a0,a1,g17,g18,gi0,gi1,gi2,gi3,gi4⟩:=g
 have dk:i.rd.toNat<15:=by omega
 have nk:i.rn.toNat<15:=by omega
 have mk:i.rm.toNat<15:=by omega
 have d19:i.rd.toNat≤19:=by omega
 have ms:mE s i l=s:=by simp [mE,hop]
 rw [ms]
 simp -implicitDefEqProofs [-kU,yH,hop,mK d0 (show i.rd<15 by omega),mK n0 (show i.rn<15 by omega),mK m0 (show i.rm<15 by omega),lK dk,lK nk,lK mk,nV dk,d19,qI,en,em,ed]
set_option maxHeartbeats 4000000 in
theorem e21 (s:St) (i:lL) (l:Int) (hs:Wd s) (g:GB i) (hop:i.op=21):yH KK (.agg (Sc s)) (.agg i.cells) (.int .i64 l) []=some (.ret (.agg (Sc (mE s i l))),[]):=by
 obtain⟨n,hn,en⟩:=hs i.rn.toNat
 obtain⟨m,hm,em⟩:=hs i.rm.toNat
 obtain⟨d,hd,ed⟩:=hs i.rd.toNat
 obtain⟨g1,g2,d0,d1,n0,n1,m0,m1,a0,a1,g17,g18,gi0,gi1,gi2,gi3,gi4⟩:=g
 have dk:i.rd.toNat<15:=by omega
 have nk:i.rn.toNat<15:=by omega
 have mk:i.rm.toNat<15:=by omega
 have d19:i.rd.toNat≤19:=by omega
 have hv:nL i d n m l=wr l%256:=qV (by simp only [t75,pX,hop,ae2,decide_false,decide_true,kX,lD,yC,kS];rw [pE (tW l).1 (by decide)];rfl)
 have hk:∀h,KK 36 [.int .i64 (rC .i64 l 255)] h=some (.ret (.int .i64 (nL i d n m l)),h):=fun h=>by
  rw [hv,Zw,show(255:Int)=((2^8-1:Nat):Int) from rfl,uC l 8 (by decide)]
  congr 5;simp only [wr];omega
 have ms:mE s i l=qI s i.rd (nL i d n m l):=by simp [mE,hop,en,em,ed]
 rw [ms]
 generalize nL i (d:Int) (n:Int) (m:Int) l=v at hk ⊢
 simp -implicitDefEqProofs [-kU,yH,hop,mK d0 (show i.rd<15 by omega),mK n0 (show i.rn<15 by omega),mK m0 (show i.rm<15 by omega),lK dk,lK nk,lK mk,nV dk,d19,qI,en,em,ed,hk]
set_option maxHeartbeats 4000000 in
theorem e22 (s:St) (i:lL) (l:Int) (hs:Wd s) (g:GB i) (hop:i.op=22):yH KK (.agg (Sc s)) (.agg i.cells) (.int .i64 l) []=some (.ret (.agg (Sc (mE s i l))),[]):=by
 obtain⟨n,hn,en⟩:=hs i.rn.toNat
 obtain⟨m,hm,em⟩:=hs i.rm.toNat
 obtain⟨d,hd,ed⟩:=hs i.rd.toNat
 obtain⟨g1,g2,d0,d1,n0,n1,m0,m1,a0,a1,g17,g18,gi0,gi1,gi2,gi3,gi4⟩:=g
 have dk:i.rd.toNat<15:=by omega
 have nk:i.rn.toNat<15:=by omega
 have mk:i.rm.toNat<15:=by omega
 have d19:i.rd.toNat≤19:=by omega
 have ms:mE s i l=s:=by simp [mE,hop]
 rw [ms]
 simp -implicitDefEqProofs [-kU,yH,hop,mK d0 (show i.rd<15 by omega),mK n0 (show i.rn<15 by omega),mK m0 (show i.rm<15 by omega),lK dk,lK nk,lK mk,nV dk,d19,qI,en,em,ed]
set_option maxHeartbeats 4000000 in
theorem e23 (s:St) (i:lL) (l:Int) (hs:Wd s) (g:GB i) (hop:i.op=23):yH KK (.agg (Sc s)) (.agg i.cells) (.int .i64 l) []=some (.ret (.agg (Sc (mE s i l))),[]):=by
 obtain⟨n,hn,en⟩:=hs i.rn.toNat
 obtain⟨m,hm,em⟩:=hs i.rm.toNat
 obtain⟨d,hd,ed⟩:=hs i.rd.toNat
 obtain⟨g1,g2,d0,d1,n0,n1,m0,m1,a0,a1,g17,g18,gi0,gi1,gi2,gi3,gi4⟩:=g
 have dk:i.rd.toNat<15:=by omega
 have nk:i.rn.toNat<15:=by omega
 have mk:i.rm.toNat<15:=by omega
 have d19:i.rd.toNat≤19:=by omega
 have ms:mE s i l=Uv s n m:=by simp [mE,hop,en,em]
 rw [ms]
 simp -implicitDefEqProofs [-kU,yH,hop,mK d0 (show i.rd<15 by omega),mK n0 (show i.rn<15 by omega),mK m0 (show i.rm<15 by omega),lK dk,lK nk,lK mk,nV dk,d19,qI,en,em,ed,aB4 s hn hm]
theorem c86 (s:St) (i:lL) (l:Int) (hs:Wd s) (g:GB i) (h2:i.op≠2) (h24:i.op<24) (h:kO):KK 86 [.agg (Sc s),.agg i.cells,.int .i64 l] h=some (.ret (.agg (Sc (mE s i l))),h):=by
 refine qC rfl rfl (alD ..) ?_
 have g1:=g.1
 by_cases h101:i.op=1
 ·exact e1 s i l hs g h101
 by_cases h103:i.op=3
 ·exact e3 s i l hs g h103
 by_cases h104:i.op=4
 ·exact e4 s i l hs g h104
 by_cases h105:i.op=5
 ·exact e5 s i l hs g h105
 by_cases h106:i.op=6
 ·exact e6 s i l hs g h106
 by_cases h107:i.op=7
 ·exact e7 s i l hs g h107
 by_cases h108:i.op=8
 ·exact e8 s i l hs g h108
 by_cases h109:i.op=9
 ·exact e9 s i l hs g h109
 by_cases h110:i.op=10
 ·exact e10 s i l hs g h110
 by_cases h111:i.op=11
 ·exact e11 s i l hs g h111
 by_cases h112:i.op=12
 ·exact e12 s i l hs g h112
 by_cases h113:i.op=13
 ·exact e13 s i l hs g h113
 by_cases h114:i.op=14
 ·exact e14 s i l hs g h114
 by_cases h115:i.op=15
 ·exact e15 s i l hs g h115
 by_cases h116:i.op=16
 ·exact e16 s i l hs g h116
 by_cases h117:i.op=17
 ·exact e17 s i l hs g h117
 by_cases h118:i.op=18
 ·exact e18 s i l hs g h118
 by_cases h119:i.op=19
 ·exact e19 s i l hs g h119
 by_cases h120:i.op=20
 ·exact e20 s i l hs g h120
 by_cases h121:i.op=21
 ·exact e21 s i l hs g h121
 by_cases h122:i.op=22
 ·exact e22 s i l hs g h122
 by_cases h123:i.op=23
 ·exact e23 s i l hs g h123
 omega
end
noncomputable section
open Go Hk
def rB (s:St) (i:lL) (l:Int):St×Bool :=
 if i.op=2 then(Af s,false) else({ (if i.op<24 then mE (Af s) i l else Af s) with pc:=wr (wr s.pc+if uD s i then 4+i.imm else Gr i) },true)
theorem k80 {i:lL}(hk:t66 i=some 0) (h:kO):KK 80 [.agg i.cells] h=some (.ret (.int .i64 0),h):=by
 rw [show i.cells=_ from lL.lX i,r80,(Kj i hk).1];rfl
theorem k66 {i:lL}(hk:t66 i=some 0) (h:kO):KK 66 [.agg i.cells] h=some (.ret (.int .i64 0),h):=by
 rw [show i.cells=_ from lL.lX i,Xd,hk];rfl
theorem k85 {i:lL}(hk:t66 i=some 0) (h:kO):KK 85 [.agg i.cells] h=some (.ret (.int .i64 (Gr i)),h):=by
 rw [show i.cells=_ from lL.lX i,U9,(Kj i hk).2.2.2];rfl
theorem k71 {i:lL}(hk:t66 i=some 0) (h:kO):KK 71 [.agg i.cells] h=some (.ret (.int .i64 (Gr i)),h):=by
 rw [show i.cells=_ from lL.lX i,r71,(Kj i hk).2.2.1];rfl
theorem OR (s:St) (i:lL):uD (Af s) i=uD s i:=rfl
theorem WG (s:St) (i:lL) (l:Int):(mE s i l).pc=s.pc:=by
 unfold mE
 split
 ·rfl
 ·split
  ·rfl
  ·split <;> rfl
theorem wF (n:Int):wr (IntKind.i64.wrap n)=wr n:=by rw [Et];simp only [wr];omega
theorem nD {s:St}:(∀(x:kN),x∈Sc s→x.lS=true)=True:=eq_true (List.all_eq_true.1 ar8)
set_option maxHeartbeats 4000000 in
theorem c61 (s:St) (i:lL) (l:Int) (hk:t66 i=some 0) (h:kO):KK 61 [.agg (Sc s),.agg i.cells,.int .i64 l] h=some (.ret (.tuple [.agg (Sc (rB s i l).1),.bool (rB s i l).2]),h):=by
 refine qC rfl rfl (akO ..) ?_
 have a80:=fun h=>k80 hk h
 have a85:=fun h=>k85 hk h
 have g:=(Kj i hk).2.1
 have gi3:-16777216≤i.imm:=by unfold GB at g;omega
 have gi4:i.imm≤16777214:=by unfold GB at g;omega
 have g2:i.op≤25:=by unfold GB at g;omega
 have w4:IntKind.i64.wrap (4+i.imm)=4+i.imm:=lP _ (by omega) (by omega)
 have k84:=c84 (Af s) i
 rw [OR] at k84
 have k81:=c81 s
 simp only [lL.lX] at a80 a85 k84
 by_cases h2:i.op=2
 ·have e:rB s i l=(Af s,false):=by unfold rB;rw [if_pos h2]
  rw [e]
  simp -implicitDefEqProofs [-kU,m61,eq_true h2,a80,k81,nD]
 ·have e:rB s i l=({ (if i.op<24 then mE (Af s) i l else Af s) with pc:=wr (wr s.pc+if uD s i then 4+i.imm else Gr i) },true):=by unfold rB;rw [if_neg h2]
  rw [e]
  by_cases h24:i.op<24
  ·have k86:=c86 (Af s) i l (KS s) g h2 h24
   simp only [lL.lX] at k86
   have n24:i.op≠24:=by omega
   have n25:i.op≠25:=by omega
   have hg:uD s i=false:=by simp [uD,n24,n25]
   rw [hg] at k84 ⊢
   have hp:(mE (Af s) i l).pc=wr s.pc:=WG _ _ _
   simp -implicitDefEqProofs [-kU,m61,eq_false h2,eq_false n24,eq_false n25,nD,a80,a85,k81,k84,k86,Zw,hp,wF,h24]
  ·have hor:i.op=24∨i.op=25:=by omega
   rcases hor with h | h
   ·have hg:uD s i=true:=by simp [uD,h]
    rw [hg] at k84 ⊢
    simp -implicitDefEqProofs [-kU,m61,eq_false h24,eq_false h2,eq_true h,nD,a80,a85,k81,k84,Zw,wF,w4]
    rfl
   ·have n24:i.op≠24:=by omega
    cases hg:uD s i <;> rw [hg] at k84
    ·simp -implicitDefEqProofs [-kU,m61,eq_false h24,eq_false n24,eq_false h2,eq_true h,nD,a80,a85,k81,k84,Zw,wF,w4]
     rfl
    ·simp -implicitDefEqProofs [-kU,m61,eq_false h24,eq_false n24,eq_false h2,eq_true h,nD,a80,a85,k81,k84,Zw,wF,w4]
     rfl
end
section
open Go Hk
theorem XS (i:lL) {d n m:Nat}(l:Int) (g:GB i) (hd:d<4294967296) (hn:n<4294967296) (hm:m<4294967296) (h3:3≤i.op) (h22:i.op≤22):t75 i d n m l=some (nL i d n m l):=by
 obtain⟨g1,g2,d0,d1,n0,n1,m0,m1,a0,a1,g17,g18,gi0,gi1,gi2,gi3,gi4⟩:=g
 have key:∀v,t75 i d n m l=some v→t75 i d n m l=some (nL i d n m l):=fun v h=>by rw [qV h];exact h
 by_cases hop:i.op=3
 ·exact key _ (by(simp only [t75,pX,hop,ae2,decide_false,decide_true,kX,lD,kS]) <;> rfl)
 by_cases hop:i.op=4
 ·obtain⟨q,hq,eq⟩:∃q:Nat,q<65536∧i.imm=(q:Int):=⟨i.imm.toNat,by omega,by omega⟩
  exact key _ (by
  simp only [t75,hop,ae2,decide_false,decide_true,kX,lD,eq,T_,kS,aa9]
  rw [lP (65536*_) (by omega) (by omega),lP _ (by omega) (by omega)])
 by_cases hop:i.op=5
 ·obtain⟨q,hq,eq⟩:∃q:Nat,q<32∧i.imm=(q:Int):=⟨i.imm.toNat,by omega,by omega⟩
  exact key _ (by(simp only [t75,hop,ae2,decide_false,decide_true,kX,lD,eq,Xy hm hq,kS]) <;> rfl)
 by_cases hop:i.op=6
 ·obtain⟨q,hq,eq⟩:∃q:Nat,q<32∧i.imm=(q:Int):=⟨i.imm.toNat,by omega,by omega⟩
  exact key _ (by(simp only [t75,hop,ae2,decide_false,decide_true,kX,lD,eq,Xz hm hq,kS]) <;> rfl)
 by_cases hop:i.op=7
 ·obtain⟨q,hq,eq⟩:∃q:Nat,q<32∧i.imm=(q:Int):=⟨i.imm.toNat,by omega,by omega⟩
  exact key _ (by(simp only [t75,hop,ae2,decide_false,decide_true,kX,lD,eq,XA hm hq,kS]) <;> rfl)
 by_cases hop:i.op=8
 ·obtain⟨q,hq,eq⟩:∃q:Nat,q<32∧i.imm=(q:Int):=⟨i.imm.toNat,by omega,by omega⟩
  exact key _ (by(simp only [t75,hop,ae2,decide_false,decide_true,kX,lD,eq,XB hm hq,kS]) <;> rfl)
 by_cases hop:i.op=9
 ·exact key _ (by(simp only [t75,hop,ae2,decide_false,decide_true,kX,lD,Ni hm,kS]) <;> rfl)
 by_cases hop:i.op=10
 ·exact key _ (by(simp only [t75,pX,hop,ae2,decide_false,decide_true,kX,lD,Nj hn hm,kS]) <;> rfl)
 by_cases hop:i.op=11
 ·have hm2:4294967295-m<4294967296:=by omega
  exact key _ (by(simp only [t75,hop,ae2,decide_false,decide_true,kX,lD,Ni hm,Nj hn hm2,kS]) <;> rfl)
 by_cases hop:i.op=12
 ·exact key _ (by(simp only [t75,pX,hop,ae2,decide_false,decide_true,kX,lD,XC hn hm,kS]) <;> rfl)
 by_cases hop:i.op=13
 ·exact key _ (by(simp only [t75,pX,hop,ae2,decide_false,decide_true,kX,lD,XE hn hm,kS]) <;> rfl)
 by_cases hop:i.op=14
 ·exact key _ (by(simp only [t75,pX,hop,ae2,decide_false,decide_true,kX,lD,afU,kS]) <;> rfl)
 by_cases hop:i.op=15
 ·exact key _ (by(simp only [t75,pX,hop,ae2,decide_false,decide_true,kX,lD,XR,kS]) <;> rfl)
 by_cases hop:i.op=16
 ·exact key _ (by(simp only [t75,pX,hop,ae2,decide_false,decide_true,kX,lD,Ip hn hm,kS]) <;> rfl)
 by_cases hop:i.op=17
 ·exact key _ (by(simp only [t75,pX,hop,ae2,decide_false,decide_true,kX,lD,Ip hn hm,kS]) <;> rfl)
 by_cases hop:i.op=18
 ·obtain⟨q,hq,eq⟩:∃q:Nat,q<32∧i.imm=(q:Int):=⟨i.imm.toNat,by omega,by omega⟩
  obtain⟨p,hp,ep⟩:∃p:Nat,q+p≤32∧i.ra=(p:Int):=⟨i.ra.toNat,by omega,by omega⟩
  obtain⟨V,h1,h2⟩:=S5 hd hn q p hp (by omega)
  obtain⟨W,h3,h4⟩:=XF hd hn q p hp
  exact key _ (by(simp only [t75,pX,hop,ae2,decide_false,decide_true,kX,lD,eq,ep,h3,kS,h2.uniq h4]) <;> rfl)
 by_cases hop:i.op=19
 ·exact key _ (by(simp only [t75,pX,hop,ae2,decide_false,decide_true,kX,lD,yC,kS]) <;> rfl)
 by_cases hop:i.op=20
 ·exact key _ (by(simp only [t75,pX,hop,ae2,decide_false,decide_true,kX,lD,kS]) <;> rfl)
 by_cases hop:i.op=21
 ·exact key _ (by(simp only [t75,pX,hop,ae2,decide_false,decide_true,kX,lD,yC,kS];rw [pE (tW l).1 (by decide)]) <;> rfl)
 by_cases hop:i.op=22
 ·exact key _ (by(simp only [t75,pX,hop,ae2,decide_false,decide_true,kX,lD,kS]) <;> rfl)
 omega
theorem k75 (i:lL) {d n m:Nat}(l:Int) (g:GB i) (hd:d<4294967296) (hn:n<4294967296) (hm:m<4294967296) (h3:3≤i.op) (h22:i.op≤22) (h:kO) :
  KK 75 [.agg i.cells,.int .i64 (d:Int),.int .i64 (n:Int),.int .i64 (m:Int),.int .i64 l] h=some (.ret (.int .i64 (nL i d n m l)),h):=by
 rw [show i.cells=_ from lL.lX i,r75,XS i l g hd hn hm h3 h22];rfl
theorem k72 {x:Nat}(hx:x<4294967296) (h:kO):KK 72 [.int .i64 (x:Int)] h=some (.ret (.int .i64 (sg x)),h):=by
 rw [PE];unfold t72 sg
 by_cases h:(x:Int)<2147483648
 ·have h2:¬(2147483648:Int)≤x:=by omega
  rw [if_pos h,decide_eq_false h2];rfl
 ·have h2:(2147483648:Int)≤x:=by omega
  rw [if_neg h,decide_eq_true h2,lD,lP _ (by omega) (by omega)];rfl
theorem Ea {x:Nat}(hx:x<4294967296):-2147483648≤sg x∧sg x≤2147483647:=by unfold sg;split <;> omega
theorem acX {x y:Nat}(hx:x<4294967296) (hy:y<4294967296):IntKind.i64.wrap (sg x-sg y)=sg x-sg y:=by
 have h1:=Ea hx
 have h2:=Ea hy
 generalize sg (x:Int)=a at h1 ⊢
 generalize sg (y:Int)=b at h2 ⊢
 exact lP _ (by omega) (by omega)
theorem as6 {x y:Nat}(hx:x<4294967296) (hy:y<4294967296):decide ((if 2147483648≤(x+(4294967296-y))%4294967296 then(1:Int) else 0)=1)=decide (2147483648≤((x:Int)-(y:Int))%4294967296):=by
 have:2147483648≤(x+(4294967296-y))%4294967296↔2147483648≤((x:Int)-(y:Int))%4294967296:=by omega
 by_cases h:2147483648≤(x+(4294967296-y))%4294967296
 ·rw [if_pos h,decide_eq_true (this.1 h)];rfl
 ·rw [if_neg h,decide_eq_false fun q=>h (this.2 q)];rfl
set_option maxHeartbeats 8000000 in
theorem c51 (s:St) (i:lL) (l:Int) (hk:t66 i=some 0) (h:kO):KK 51 [.agg (Sc s),.agg i.cells,.int .i64 l] h=some (.ret (.tuple [.agg (Sc (rB s i l).1),.bool (rB s i l).2]),h):=by
 refine qC rfl rfl (akE ..) ?_
 have a66:=fun h=>k66 hk h
 have a71:=fun h=>k71 hk h
 have g:=(Kj i hk).2.1
 have g':=g
 obtain⟨g1,g2,d0,d1,n0,n1,m0,m1,a0,a1,g17,g18,gi0,gi1,gi2,gi3,gi4⟩:=g'
 have k69:=c69 (Af s) i
 rw [OR] at k69
 have k70:=c70 s
 obtain⟨n,hn,en⟩:=KS s i.rn.toNat
 obtain⟨m,hm,em⟩:=KS s i.rm.toNat
 obtain⟨d,hd,ed⟩:=KS s i.rd.toNat
 have dk:i.rd.toNat<15:=by omega
 have nk:i.rn.toNat<15:=by omega
 have mk:i.rm.toNat<15:=by omega
 have d19:i.rd.toNat≤19:=by omega
 have i1:=fun p=>mK (p:=p) d0 (show i.rd<15 by omega)
 have i2:=fun p=>mK (p:=p) n0 (show i.rn<15 by omega)
 have i3:=fun p=>mK (p:=p) m0 (show i.rm<15 by omega)
 simp only [lL.lX] at a66 a71 k69
 by_cases h2:i.op=2
 ·have e:rB s i l=(Af s,false):=by unfold rB;rw [if_pos h2]
  rw [e]
  simp -implicitDefEqProofs [-kU,Yn,eq_true h2,a66,k70,nD]
 have e:rB s i l=({ (if i.op<24 then mE (Af s) i l else Af s) with pc:=wr (wr s.pc+if uD s i then 4+i.imm else Gr i) },true):=by unfold rB;rw [if_neg h2]
 rw [e]
 by_cases h24:i.op<24
 ·have n24:i.op≠24:=by omega
  have n25:i.op≠25:=by omega
  have hg:uD s i=false:=by simp [uD,n24,n25]
  rw [hg] at k69 ⊢
  have hp:(Af s).pc=wr s.pc:=rfl
  by_cases h23:i.op=23
  ·have ms:mE (Af s) i l=Uv (Af s) n m:=by simp [mE,h23,en,em]
   have hD:(n+(4294967296-m))%4294967296<4294967296:=Nat.mod_lt _ (by decide)
   have a74:=k74 hn hm
   have a73:=k73 hD
   have c1:=as6 hn hm
   have rn:=Ea hn
   have rm:=Ea hm
   have ws:=acX hn hm
   rw [ms]
   generalize (n+(4294967296-m))%4294967296=D at a74 a73 c1 hD
   generalize (if 2147483648≤D then(1:Int) else 0)=C1 at a73 c1
   unfold Uv
   simp only [←c1]
   by_cases hv:sg (n:Int)-sg (m:Int) < -2147483648
   ·simp -implicitDefEqProofs [-kU,Yn,eq_false h2,eq_false n24,eq_false n25,eq_true h23,nD,a66,a71,k70,k69,Qf,i2,i3,lK nk,lK mk,en,em,k72 hn,k72 hm,a74,a73,ws,eq_true hv,hp,wF,eq_true h24]
   ·simp -implicitDefEqProofs [-kU,Yn,eq_false h2,eq_false n24,eq_false n25,eq_true h23,nD,a66,a71,k70,k69,Qf,i2,i3,lK nk,lK mk,en,em,k72 hn,k72 hm,a74,a73,ws,eq_false hv,hp,wF,eq_true h24]
  ·by_cases h1:i.op=1
   ·have ms:mE (Af s) i l=Af s:=by simp [mE,h1]
    rw [ms]
    simp -implicitDefEqProofs [-kU,Yn,eq_false h2,eq_false n24,eq_false n25,eq_false h23,eq_true h1,nD,a66,a71,k70,k69,Qf,i2,i3,lK nk,lK mk,en,em,hp,wF,eq_true h24]
   ·have h3:3≤i.op:=by omega
    have h22:i.op≤22:=by omega
    have kv:=k75 i l g hd hn hm h3 h22
    simp only [lL.lX] at kv
    by_cases h17:i.op=17
    ·have e17:mE (Af s) i l=qI (qI (Af s) i.rd ((n*m%4294967296:Nat):Int)) i.ra ((n*m/4294967296:Nat):Int):=by
      simp only [mE,h17,en,em,ae2,or_self,if_false,if_true];rfl
     have ev:nL i d n m l=((n*m%4294967296:Nat):Int):=qV (by simp only [t75,pX,h17,ae2,decide_false,decide_true,kX,lD,Ip hn hm,kS])
     have k76:∀h,KK 76 [.int .i64 (n:Int),.int .i64 (m:Int)] h=some (.ret (.int .i64 ((n*m/4294967296:Nat):Int)),h):=fun h=>OV (PF _ _) (azY hn hm)
     rw [e17]
     rw [ev] at kv
     obtain⟨ga1,ga2⟩:=g17 h17
     have ak:i.ra.toNat<15:=by omega
     have a19:i.ra.toNat≤19:=by omega
     have i4:=fun p=>mK (p:=p) a0 (show i.ra<15 by omega)
     generalize ((n*m%4294967296:Nat):Int)=v1 at kv ⊢
     generalize ((n*m/4294967296:Nat):Int)=v2 at k76 ⊢
     simp -implicitDefEqProofs [-kU,Yn,eq_false h2,eq_false n24,eq_false n25,eq_false h23,eq_false h1,eq_true h17,nD,a66,a71,k70,k69,Qf,i1,i2,i3,i4,lK dk,lK nk,lK mk,en,em,ed,hp,wF,eq_true h24,kv,k76,nV dk,nV ak,d19,a19,qI]
    ·have ms:{ mE (Af s) i l with pc:=wr (wr s.pc+Gr i) }={ qI { Af s with pc:=wr (wr s.pc+Gr i) } i.rd (nL i d n m l) with pc:=wr (wr s.pc+Gr i) }:=by
      by_cases h20:i.op=20∨i.op=22
      ·have e1:mE (Af s) i l=Af s:=by unfold mE;rw [if_pos (by omega)]
       have e2:nL i d n m l=d:=qV (by rcases h20 with h | h <;> simp [t75,pX,h])
       rw [e1,e2,←ed]
       have:Fz (Af s).r i.rd.toNat ((Af s).r i.rd.toNat)=(Af s).r:=by funext j;unfold Fz;split <;> simp_all
       exact congrArg (fun r=>(⟨r,wr (wr s.pc+Gr i),s.n,s.z,s.c,s.v⟩:St)) this.symm
      ·have e1:mE (Af s) i l=qI (Af s) i.rd (nL i d n m l):=by simp only [mE,en,em,ed];rw [if_neg (by omega),if_neg h23,if_neg h17]
       rw [e1];rfl
     have ms':{ (if i.op<24 then mE (Af s) i l else Af s) with pc:=wr (wr s.pc+if false=true then 4+i.imm else Gr i) }={ qI { Af s with pc:=wr (wr s.pc+Gr i) } i.rd (nL i d n m l) with pc:=wr (wr s.pc+Gr i) }:=by
      rw [if_pos h24];exact ms
     rw [ms']
     generalize nL i (d:Int) (n:Int) (m:Int) l=v at kv ⊢
     simp -implicitDefEqProofs [-kU,Yn,eq_false h2,eq_false n24,eq_false n25,eq_false h23,eq_false h1,eq_false h17,nD,a66,a71,k70,k69,Qf,i1,i2,i3,lK dk,lK nk,lK mk,en,em,ed,hp,wF,eq_true h24,kv,nV dk,d19,qI]
 ·have hor:i.op=24∨i.op=25:=by omega
  have hp:(Af s).pc=wr s.pc:=rfl
  have h23:i.op≠23:=by omega
  have wa:wr (IntKind.i64.wrap (IntKind.i64.wrap (wr s.pc+4)+i.imm))=wr (wr s.pc+(4+i.imm)):=by
   rw [wF,Et];simp only [wr];omega
  have n1:i.op≠1:=by omega
  rcases hor with h | h
  ·have hg:uD s i=true:=by simp [uD,h]
   rw [hg] at k69 ⊢
   simp -implicitDefEqProofs [-kU,Yn,eq_false h2,eq_true h,eq_false h23,nD,a66,a71,k70,k69,Qf,i2,i3,lK nk,lK mk,en,em,hp,wF,wa,eq_false h24]
  ·have n24:i.op≠24:=by omega
   cases hg:uD s i <;> rw [hg] at k69
   ·simp -implicitDefEqProofs [-kU,Yn,eq_false h2,eq_true h,eq_false n24,eq_false h23,nD,a66,a71,k70,k69,Qf,i2,i3,lK nk,lK mk,en,em,hp,wF,wa,eq_false h24]
   ·simp -implicitDefEqProofs [-kU,Yn,eq_false h2,eq_true h,eq_false n24,eq_false h23,nD,a66,a71,k70,k69,Qf,i2,i3,lK nk,lK mk,en,em,hp,wF,wa,eq_false h24]
end
section
open Go Hk
def rY (s:St) (i:lL):Acc×Bool :=
 if i.op=19 then(⟨wr (s.r i.rn.toNat),4,0,false⟩,true) else if i.op=21 then(⟨wr (s.r i.rn.toNat),1,0,false⟩,true)
 else if i.op=20 then(⟨wr (s.r i.rn.toNat),4,wr (s.r i.rd.toNat),true⟩,true) else if i.op=22 then(⟨wr (s.r i.rn.toNat),1,wr (s.r i.rd.toNat)%256,true⟩,true) else(⟨0,0,0,false⟩,false)
theorem ac6 (l:Int):rC .i64 l 255=l%256:=by
 rw [show(255:Int)=((2^8-1:Nat):Int) from rfl,uC l 8 (by decide)];rfl
theorem qQ {s:St}:(Sc s).drop 20=[]:=(rfl)
set_option maxHeartbeats 8000000 in
theorem c58 (s:St) (i:lL) (hk:t66 i=some 0) (h:kO):KK 58 [.agg (Sc s),.agg i.cells] h=some (.ret (.tuple [.agg (rY s i).1.cells,.bool (rY s i).2]),h):=by
 refine qC rfl rfl (akL ..) ?_
 have a80:=fun h=>k80 hk h
 have g:=(Kj i hk).2.1
 obtain⟨g1,g2,d0,d1,n0,n1,m0,m1,a0,a1,g17,g18,gi0,gi1,gi2,gi3,gi4⟩:=g
 have k81:=c81 s
 have dk:i.rd.toNat<15:=by omega
 have nk:i.rn.toNat<15:=by omega
 have i1:=fun p=>mK (p:=p) d0 (show i.rd<15 by omega)
 have i2:=fun p=>mK (p:=p) n0 (show i.rn<15 by omega)
 have ed:(Af s).r i.rd.toNat=wr (s.r i.rd.toNat):=rfl
 have en:(Af s).r i.rn.toNat=wr (s.r i.rn.toNat):=rfl
 simp only [lL.lX] at a80
 unfold rY
 by_cases h1:i.op=19
 ·simp -implicitDefEqProofs [-kU,lU,lV,qQ,m58,eq_true h1,nD,a80,k81,i1,i2,lK dk,lK nk,ed,en]
 by_cases h2:i.op=21
 ·simp -implicitDefEqProofs [-kU,lU,lV,qQ,m58,eq_false h1,eq_true h2,nD,a80,k81,i1,i2,lK dk,lK nk,ed,en]
 by_cases h3:i.op=20
 ·simp -implicitDefEqProofs [-kU,lU,lV,qQ,m58,eq_false h1,eq_false h2,eq_true h3,nD,a80,k81,i1,i2,lK dk,lK nk,ed,en]
 by_cases h4:i.op=22
 ·simp -implicitDefEqProofs [-kU,lU,lV,qQ,m58,eq_false h1,eq_false h2,eq_false h3,eq_true h4,nD,a80,k81,i1,i2,lK dk,lK nk,ed,en,ac6]
 simp -implicitDefEqProofs [-kU,lU,lV,qQ,m58,eq_false h1,eq_false h2,eq_false h3,eq_false h4,nD,a80,k81,i1,i2,lK dk,lK nk,ed,en]
theorem ac9 {l:Int}(h:0≤l):qA l 256=some (l%256):=pE h (by decide)
theorem BF (l:Int):qA (wr l) 256=some (wr l%256):=ac9 (tW l).1
set_option maxHeartbeats 8000000 in
theorem c47 (s:St) (i:lL) (hk:t66 i=some 0) (h:kO):KK 47 [.agg (Sc s),.agg i.cells] h=some (.ret (.tuple [.agg (rY s i).1.cells,.bool (rY s i).2]),h):=by
 refine qC rfl rfl (akA ..) ?_
 have a66:=fun h=>k66 hk h
 have g:=(Kj i hk).2.1
 obtain⟨g1,g2,d0,d1,n0,n1,m0,m1,a0,a1,g17,g18,gi0,gi1,gi2,gi3,gi4⟩:=g
 have dk:i.rd.toNat<15:=by omega
 have nk:i.rn.toNat<15:=by omega
 have i1:=fun p=>mK (p:=p) d0 (show i.rd<15 by omega)
 have i2:=fun p=>mK (p:=p) n0 (show i.rn<15 by omega)
 have z256:qA 0 256=some 0:=rfl
 simp only [lL.lX] at a66
 unfold rY
 by_cases h1:i.op=19
 ·have n2:i.op≠21:=by omega
  have n3:i.op≠20:=by omega
  have n4:i.op≠22:=by omega
  simp -implicitDefEqProofs [-kU,lU,lV,qQ,m47,nD,a66,Qf,i1,i2,lK dk,lK nk,z256,BF,eq_true h1,eq_false n2,eq_false n3,eq_false n4]
 by_cases h2:i.op=21
 ·have n3:i.op≠20:=by omega
  have n4:i.op≠22:=by omega
  simp -implicitDefEqProofs [-kU,lU,lV,qQ,m47,nD,a66,Qf,i1,i2,lK dk,lK nk,z256,BF,eq_false h1,eq_true h2,eq_false n3,eq_false n4]
 by_cases h3:i.op=20
 ·have n4:i.op≠22:=by omega
  simp -implicitDefEqProofs [-kU,lU,lV,qQ,m47,nD,a66,Qf,i1,i2,lK dk,lK nk,z256,BF,eq_false h1,eq_false h2,eq_true h3,eq_false n4]
 by_cases h4:i.op=22
 ·simp -implicitDefEqProofs [-kU,lU,lV,qQ,m47,nD,a66,Qf,i1,i2,lK dk,lK nk,z256,BF,eq_false h1,eq_false h2,eq_false h3,eq_true h4]
 simp -implicitDefEqProofs [-kU,lU,lV,qQ,m47,nD,a66,Qf,i1,i2,lK dk,lK nk,z256,BF,eq_false h1,eq_false h2,eq_false h3,eq_false h4]
theorem k58 (s:St) (i:lL) (hk:t66 i=some 0) (h:kO):KK 58 [.agg (Sc s),.agg [.int .i64 i.op,.int .i64 i.rd,.int .i64 i.rn,.int .i64 i.rm,.int .i64 i.ra,.int .i64 i.imm,.int .i64 i.cond,.bool i.wide]] h=some (.ret (.tuple [.agg [.int .i64 (rY s i).1.addr,.int .i64 (rY s i).1.size,.int .i64 (rY s i).1.value,.bool (rY s i).1.write],.bool (rY s i).2]),h):=c58 s i hk h
def EJ (s:St) (i:lL):Int:=if (rY s i).2 then 2 else if i.op=17 then 4 else if uD s i then 3 else 1
set_option maxHeartbeats 8000000 in
theorem c60 (s:St) (i:lL) (hk:t66 i=some 0) (h:kO):KK 60 [.agg (Sc s),.agg i.cells] h=some (.ret (.int .i64 (EJ s i)),h):=by
 refine qC rfl rfl (akN ..) ?_
 have a80:=fun h=>k80 hk h
 have a58:=fun h=>k58 s i hk h
 have a84:=c84 s i
 simp only [lL.lX] at a80 a84
 unfold EJ
 cases ha:(rY s i).2 <;> simp only [ha] at a58
 ·by_cases h17:i.op=17
  ·simp -implicitDefEqProofs [-kU,lU,lV,m60,eq_true h17,nD,a80,a58]
  ·cases hg:uD s i <;> simp only [hg] at a84 <;> simp -implicitDefEqProofs [-kU,lU,lV,m60,eq_false h17,nD,a80,a58,a84]
 ·simp -implicitDefEqProofs [-kU,lU,lV,m60,nD,a80,a58]
theorem Zy (s:St) (i:lL) (hk:t66 i=some 0) (h:kO):KK 47 [.agg (Sc s),.agg [.int .i64 i.op,.int .i64 i.rd,.int .i64 i.rn,.int .i64 i.rm,.int .i64 i.ra,.int .i64 i.imm,.int .i64 i.cond,.bool i.wide]] h=some (.ret (.tuple [.agg [.int .i64 (rY s i).1.addr,.int .i64 (rY s i).1.size,.int .i64 (rY s i).1.value,.bool (rY s i).1.write],.bool (rY s i).2]),h):=c47 s i hk h
set_option maxHeartbeats 8000000 in
theorem c50 (s:St) (i:lL) (hk:t66 i=some 0) (h:kO):KK 50 [.agg (Sc s),.agg i.cells] h=some (.ret (.int .i64 (EJ s i)),h):=by
 refine qC rfl rfl (akD ..) ?_
 have a66:=fun h=>k66 hk h
 have a47:=fun h=>Zy s i hk h
 have a69:=c69 s i
 simp only [lL.lX] at a66 a69
 unfold EJ
 cases ha:(rY s i).2 <;> simp only [ha] at a47
 ·by_cases h17:i.op=17
  ·simp -implicitDefEqProofs [-kU,lU,lV,m50,eq_true h17,nD,a66,a47]
  ·cases hg:uD s i <;> simp only [hg] at a69 <;> simp -implicitDefEqProofs [-kU,lU,lV,m50,eq_false h17,nD,a66,a47,a69]
 ·simp -implicitDefEqProofs [-kU,lU,lV,m50,nD,a66,a47]
end
noncomputable section
open Go Hk
def Gj (K:kT) (a0:kN) (h0:kO):OH :=
 (kW (lR 8 h0 (.agg [zO,zO,zO,zO,zO,zO,zO,false])) fun t0 h1=>AP K 131 a0 zO (3:Int) h1 fun t2 h3=>AP K 131 a0 (3:Int) (3:Int) h3 fun t4 h5=>aq .eql a0 (48896:Int) ((lB [zO,zO,zO,zO,zO,zO,zO,false] [(0,1),(1,1),(2,1),(3,1),(4,1),(5,1),(6,1),(7,1)] [(0,(1:Int))]).bind fun t7=>(kR 8 h5 t0 t7).bind fun h8=>some (.ret,[t0,true],h8)) ((lF .shr a0 (.int .u64 8)).bind fun t9=>aq .eql t9 (190:Int) (AP K 131 a0 zO (8:Int) h5 fun aW aF=>(lB [zO,zO,zO,zO,zO,zO,zO,false] [(0,1),(1,1),(2,1),(3,1),(4,1),(5,1),(6,1),(7,1)] [(0,(2:Int)),(5,aW)]).bind fun t13=>(kR 8 aF t0 t13).bind fun aG=>some (.ret,[t0,true],aG)) ((lF .shr a0 (.int .u64 6)).bind fun t15=>aq .eql t15 (416:Int) ((lB [zO,zO,zO,zO,zO,zO,zO,false] [(0,1),(1,1),(2,1),(3,1),(4,1),(5,1),(6,1),(7,1)] [(0,(19:Int)),(1,t2),(2,t4)]).bind fun t17=>(kR 8 h5 t0 t17).bind fun aH=>some (.ret,[t0,true],aH)) ((lF .shr a0 (.int .u64 6)).bind fun aX=>aq .eql aX (384:Int) ((lB [zO,zO,zO,zO,zO,zO,zO,false] [(0,1),(1,1),(2,1),(3,1),(4,1),(5,1),(6,1),(7,1)] [(0,(20:Int)),(1,t2),(2,t4)]).bind fun aY=>(kR 8 h5 t0 aY).bind fun aI=>some (.ret,[t0,true],aI)) ((lF .shr a0 (.int .u64 6)).bind fun aZ=>aq .eql aZ (480:Int) ((lB [zO,zO,zO,zO,zO,zO,zO,false] [(0,1),(1,1),(2,1),(3,1),(4,1),(5,1),(6,1),(7,1)] [(0,(21:Int)),(1,t2),(2,t4)]).bind fun a_=>(kR 8 h5 t0 a_).bind fun aJ=>some (.ret,[t0,true],aJ)) ((lF .shr a0 (.int .u64 6)).bind fun t27=>aq .eql t27 (448:Int) ((lB [zO,zO,zO,zO,zO,zO,zO,false] [(0,1),(1,1),(2,1),(3,1),(4,1),(5,1),(6,1),(7,1)] [(0,(22:Int)),(1,t2),(2,t4)]).bind fun t29=>(kR 8 h5 t0 t29).bind fun aK=>some (.ret,[t0,true],aK)) ((lF .shr a0 (.int .u64 6)).bind fun t31=>aq .eql t31 (266:Int) ((lB [zO,zO,zO,zO,zO,zO,zO,false] [(0,1),(1,1),(2,1),(3,1),(4,1),(5,1),(6,1),(7,1)] [(0,(23:Int)),(2,t2),(3,t4)]).bind fun t33=>(kR 8 h5 t0 t33).bind fun aL=>some (.ret,[t0,true],aL)) ((lF .shr a0 (.int .u64 11)).bind fun t35=>aq .eql t35 (28:Int) (AP K 131 a0 zO (11:Int) h5 fun bA aM=>yG K 132 bA (11:Int) aM fun bB aN=>(lF .mul (2:Int) bB).bind fun bD=>(lB [zO,zO,zO,zO,zO,zO,zO,false] [(0,1),(1,1),(2,1),(3,1),(4,1),(5,1),(6,1),(7,1)] [(0,(24:Int)),(5,bD)]).bind fun t42=>(kR 8 aN t0 t42).bind fun aO=>some (.ret,[t0,true],aO)) ((lF .shr a0 (.int .u64 12)).bind fun bE=>(lF .eql bE (13:Int)).bind fun t45=>nI true t45 (some a0) h5 fun t46 aC=>gq true t45 (lW (uk3 K 131 t46 (8:Int) (4:Int) aC) (fun t48 aP=>lI t48 aP) Gg) aC fun bF aQ=>nI true t45 (lF .leq bF (13:Int)) aQ fun t53 aD=>(lH t45 t53 false).bind fun t55=>kV t55 (AP K 131 a0 (8:Int) (4:Int) aD fun bG aR=>AP K 131 a0 zO (8:Int) aR fun bH aS=>yG K 132 bH (8:Int) aS fun bI aT=>(lF .mul (2:Int) bI).bind fun t62=>(lB [zO,zO,zO,zO,zO,zO,zO,false] [(0,1),(1,1),(2,1),(3,1),(4,1),(5,1),(6,1),(7,1)] [(0,(25:Int)),(6,bG),(5,t62)]).bind fun t63=>(kR 8 aT t0 t63).bind fun aU=>some (.ret,[t0,true],aU)) ((lB [zO,zO,zO,zO,zO,zO,zO,false] [(0,1),(1,1),(2,1),(3,1),(4,1),(5,1),(6,1),(7,1)] []).bind fun t65=>(kR 8 aD t0 t65).bind fun aV=>some (.ret,[t0,false],aV))))))))))).bind fun U8=>F3 U8.2 fun aA aB aE=>Ex.oH U8.1 ((kY true 8 aE aA).bind fun t71=>oM (aa5 h0) (.tuple [t71,aB]) aE)
theorem ZO K a0 h0:nN K 111 [a0] h0=Gj (lG mJ K) a0 h0:=by kernel_rfl
def Qj (K:kT) (a0 a1:kN) (h0:kO):OH :=
 (kW (lR 8 h0 (.agg [zO,zO,zO,zO,zO,zO,zO,false])) fun t0 h1=>AP K 131 a0 zO (4:Int) h1 fun t2 h3=>AP K 131 a1 zO (4:Int) h3 fun t4 h5=>(lB [zO,zO,zO,zO,zO,zO,zO,false] [(0,1),(1,1),(2,1),(3,1),(4,1),(5,1),(6,1),(7,1)] [(2,t2),(3,t4)]).bind fun t6=>kW (lR 8 h5 (.agg [zO,zO,zO,zO,zO,zO,zO,false])) fun t7 h8=>(kR 8 h8 t7 t6).bind fun h9=>AP K 131 a1 (12:Int) (4:Int) h9 fun t10 aU=>AP K 131 a1 (8:Int) (4:Int) aU fun aJ aV=>AP K 131 a1 (4:Int) (4:Int) aV fun t14 aE=>aq .neq t14 zO ((lB [zO,zO,zO,zO,zO,zO,zO,false] [(0,1),(1,1),(2,1),(3,1),(4,1),(5,1),(6,1),(7,1)] []).bind fun t17=>(kR 8 aE t0 t17).bind fun aW=>some (.ret,[t0,false],aW)) ((lF .andNot a0 (15:Int)).bind fun aT=>aq .eql aT (64256:Int) ((kQ 0 t7).bind fun bO=>(kR 1 aE bO (16:Int)).bind fun aX=>(kQ 1 t7).bind fun bP=>(kR 1 aX bP aJ).bind fun aK=>(kY true 8 aK t7).bind fun bQ=>(lF .eql t10 (15:Int)).bind fun aA=>nI true aA (kQ 1 t7) aK fun bR aL=>nI true aA (kY false 1 aL bR) aL fun t31 aY=>nI true aA (kQ 2 t7) aY fun bS aM=>nI true aA (kY false 1 aM bS) aM fun bT aZ=>nI true aA (kQ 3 t7) aZ fun bU aN=>nI true aA (kY false 1 aN bU) aN fun bV aH=>gq true aA (kW (lE 3 1 [zO] [(0,t31),(1,bT),(2,bV)] (oR (lA [0] [t7]) aH)) fun t45 a_=>lI t45 (lO (lA [0] [t7]) aH a_)) aH fun bW aF=>gq true aA (lW (uk1 K 152 bW (oR (lA [0] [t7]) aF)) (fun t49 bA=>lI t49 (lO (lA [0] [t7]) aF bA)) (fun v h'=>Gg v (lO (lA [0] [t7]) aF h'))) aF fun bX bB=>(lH aA bX false).bind fun t53=>(kR 8 bB t0 bQ).bind fun bD=>some (.ret,[t0,t53],bD)) (aq .eql aT (64416:Int) ((kQ 0 t7).bind fun bY=>(kR 1 aE bY (17:Int)).bind fun bE=>(kQ 1 t7).bind fun bZ=>(kR 1 bE bZ t10).bind fun bF=>(kQ 4 t7).bind fun b_=>(kR 1 bF b_ aJ).bind fun aO=>(kY true 8 aO t7).bind fun t62=>(lF .neq t10 aJ).bind fun t63=>nI true t63 (kQ 1 t7) aO fun t65 aP=>nI true t63 (kY false 1 aP t65) aP fun t68 bG=>nI true t63 (kQ 4 t7) bG fun t71 aQ=>nI true t63 (kY false 1 aQ t71) aQ fun t74 bH=>nI true t63 (kQ 2 t7) bH fun t77 aR=>nI true t63 (kY false 1 aR t77) aR fun t80 bI=>nI true t63 (kQ 3 t7) bI fun cA aS=>nI true t63 (kY false 1 aS cA) aS fun cB aI=>gq true t63 (kW (lE 4 1 [zO] [(0,t68),(1,t74),(2,t80),(3,cB)] (oR (lA [0] [t7]) aI)) fun t88 bJ=>lI t88 (lO (lA [0] [t7]) aI bJ)) aI fun t90 aG=>gq true t63 (lW (uk1 K 152 t90 (oR (lA [0] [t7]) aG)) (fun t92 bK=>lI t92 (lO (lA [0] [t7]) aG bK)) (fun v h'=>Gg v (lO (lA [0] [t7]) aG h'))) aG fun t94 bL=>(lH t63 t94 false).bind fun t96=>(kR 8 bL t0 t62).bind fun bM=>some (.ret,[t0,t96],bM)) ((lB [zO,zO,zO,zO,zO,zO,zO,false] [(0,1),(1,1),(2,1),(3,1),(4,1),(5,1),(6,1),(7,1)] []).bind fun t98=>(kR 8 aE t0 t98).bind fun bN=>some (.ret,[t0,false],bN))))).bind fun xN=>F3 xN.2 fun aB aC aD=>Ex.oH xN.1 ((kY true 8 aD aB).bind fun t104=>oM (aa5 h0) (.tuple [t104,aC]) aD)
theorem aaA K a0 a1 h0:nN K 134 [a0,a1] h0=Qj (lG mJ K) a0 a1 h0:=by kernel_rfl
def OZ (K:kT) (a0 a1:kN) (h0:kO):OH :=
 (kW (lR 8 h0 (.agg [zO,zO,zO,zO,zO,zO,zO,false])) fun t0 h1=>AP K 131 a1 (8:Int) (4:Int) h1 fun t2 h3=>(lB [zO,zO,zO,zO,zO,zO,zO,false] [(0,1),(1,1),(2,1),(3,1),(4,1),(5,1),(6,1),(7,1)] [(1,t2)]).bind fun t4=>kW (lR 8 h3 (.agg [zO,zO,zO,zO,zO,zO,zO,false])) fun t5 h6=>(kR 8 h6 t5 t4).bind fun h7=>((lF .shr a1 (.int .u64 15)).bind fun t8=>aq .eql t8 (1:Int) ((lB [zO,zO,zO,zO,zO,zO,zO,false] [(0,1),(1,1),(2,1),(3,1),(4,1),(5,1),(6,1),(7,1)] []).bind fun t10=>(kR 8 h7 t0 t10).bind fun bL=>kZ (aa5 h7) .ret [a0,a1,t0,false,t5] bL) ((lF .andNot a0 (15:Int)).bind fun cC=>aq .eql cC (62304:Int) (AP K 131 a0 zO (4:Int) h7 fun t14 bM=>(kQ 0 t5).bind fun t16=>(kR 1 bM t16 (18:Int)).bind fun bN=>(kQ 2 t5).bind fun t18=>(kR 1 bN t18 t14).bind fun bO=>AP K 131 a1 (12:Int) (3:Int) bO fun cD bP=>(lF .shl cD (.int .u64 2)).bind fun cE=>AP K 131 a1 (6:Int) (2:Int) bP fun cF bQ=>(lF .or cE cF).bind fun cG=>(kQ 5 t5).bind fun cH=>(kR 1 bQ cH cG).bind fun aX=>(kQ 5 t5).bind fun bA=>(kY false 1 aX bA).bind fun t29=>AP K 131 a1 zO (5:Int) (oR (lA [0] [bA]) aX) fun cI bR=>(lF .add cI (1:Int)).bind fun t32=>(lF .sub t32 t29).bind fun t33=>(kQ 4 t5).bind fun cJ=>(kR 1 (lO (lA [0] [bA]) aX bR) cJ t33).bind fun aP=>(kY true 8 aP t5).bind fun t36=>AP K 131 a1 (5:Int) (1:Int) (oR (lA [0] [t5]) aP) fun cK bB=>(lF .eql cK zO).bind fun aR=>gq true aR ((kQ 4 t5).bind fun cL=>lI cL (lO (lA [0] [t5]) aP bB)) (lO (lA [0] [t5]) aP bB) fun cM bD=>nI true aR (kY false 1 bD cM) bD fun cN bS=>nI true aR (lF .geq cN (1:Int)) bS fun cO bT=>(lH aR cO false).bind fun t49=>nI true t49 (kQ 1 t5) bT fun cP bE=>nI true t49 (kY false 1 bE cP) bE fun t54 bU=>nI true t49 (kQ 2 t5) bU fun t57 bF=>nI true t49 (kY false 1 bF t57) bF fun cQ aY=>gq true t49 (kW (lE 2 1 [zO] [(0,t54),(1,cQ)] (oR (lA [0] [t5]) aY)) fun t62 bV=>lI t62 (lO (lA [0] [t5]) aY bV)) aY fun t64 aQ=>gq true t49 (lW (uk1 K 152 t64 (oR (lA [0] [t5]) aQ)) (fun t66 bW=>lI t66 (lO (lA [0] [t5]) aQ bW)) (fun v h'=>Gg v (lO (lA [0] [t5]) aQ h'))) aQ fun t68 bX=>(lH t49 t68 false).bind fun cR=>(kR 8 bX t0 t36).bind fun bY=>kZ (aa5 h7) .ret [a0,a1,t0,cR,t5] bY) ((lF .andNot a0 (1039:Int)).bind fun t72=>(lF .eql t72 (62016:Int)).bind fun t73=>(kV t73 ((kQ 0 t5).bind fun t74=>(kR 1 h7 t74 (3:Int)).bind fun bZ=>kZ (aa5 h7) .normal [a0,a1,t0,false,t5] bZ) ((lF .andNot a0 (1039:Int)).bind fun t76=>aq .eql t76 (62144:Int) ((kQ 0 t5).bind fun t78=>(kR 1 h7 t78 (4:Int)).bind fun b_=>kZ (aa5 h7) .normal [a0,a1,t0,false,t5] b_) ((lB [zO,zO,zO,zO,zO,zO,zO,false] [(0,1),(1,1),(2,1),(3,1),(4,1),(5,1),(6,1),(7,1)] []).bind fun t80=>(kR 8 h7 t0 t80).bind fun cA=>kZ (aa5 h7) .ret [a0,a1,t0,false,t5] cA))).bind fun bI=>uq5 bI.2 fun aD aF aH aI aJ bG=>Ex.l_ bI.1 (kZ (aa5 h7) .normal [aD,aF,aH,aI,aJ] bG) (fun bJ=>kZ (aa5 h7) bJ [aD,aF,aH,aI,aJ] bG)))).bind fun Eu=>uq5 Eu.2 fun aE aG aC aO aA bH=>Ex.inBlock 0 Eu.1 (AP K 131 aE zO (4:Int) bH fun t98 cB=>(lF .shl t98 (.int .u64 12)).bind fun t100=>AP K 131 aE (10:Int) (1:Int) cB fun t101 aS=>(lF .shl t101 (.int .u64 11)).bind fun t103=>(lF .or t100 t103).bind fun t104=>AP K 131 aG (12:Int) (3:Int) aS fun t105 aT=>(lF .shl t105 (.int .u64 8)).bind fun t107=>(lF .or t104 t107).bind fun t108=>AP K 131 aG zO (8:Int) aT fun t109 aU=>(lF .or t108 t109).bind fun aZ=>(kQ 5 aA).bind fun t112=>(kR 1 aU t112 aZ).bind fun aB=>(kY true 8 aB aA).bind fun t114=>fq 1 aA aB fun t116=>kW (lE 1 1 [zO] [(0,t116)] (oR (lA [0] [aA]) aB)) fun t117 aM=>zE K 152 t117 (oR (lA [0] [aA]) (lO (lA [0] [aA]) aB aM)) fun a_ aV=>(kR 8 (lO (lA [0] [aA]) (lO (lA [0] [aA]) aB aM) aV) aC t114).bind fun aW=>some (.ret,[aC,a_],aW)) (fun bK=>some (bK,[aC,aO],bH))).bind fun Pe=>F3 Pe.2 fun aK aL aN=>Ex.oH Pe.1 ((kY true 8 aN aK).bind fun t126=>oM (aa5 h0) (.tuple [t126,aL]) aN)
theorem aaB K a0 a1 h0:nN K 135 [a0,a1] h0=OZ (lG mJ K) a0 a1 h0:=by kernel_rfl
def t_ (K:kT) (m:Nat) (s:List kN×kO):Option R :=
 PH s fun aE aF aJ aA aG aH aC aB aW=>aq .lss aB (6:Int) ((oI true 6 2 aC aB).bind fun t97=>kW (lR 2 aW (.agg [zO,zO])) fun t98 aX=>(kR 2 aX t98 t97).bind fun aI=>(lF .andNot aE (15:Int)).bind fun t101=>fq 0 t98 aI fun t103=>aq .eql t101 t103 (fq 1 t98 aI fun t106=>(kQ 0 aA).bind fun t107=>(kR 1 aI t107 t106).bind fun aD=>(kY true 8 aD aA).bind fun t109=>fq 1 aA aD fun aS=>fq 2 aA aD fun aT=>fq 3 aA aD fun t115=>kW (lE 3 1 [zO] [(0,aS),(1,aT),(2,t115)] (oR (lA [0] [aA]) aD)) fun t116 aK=>zE K 152 t116 (oR (lA [0] [aA]) (lO (lA [0] [aA]) aD aK)) fun aL aM=>gq true aL (lI aH (lO (lA [0] [aA]) (lO (lA [0] [aA]) aD aK) aM)) (lO (lA [0] [aA]) (lO (lA [0] [aA]) aD aK) aM) fun aU aN=>nI true aL (lF .eql aU zO) aN fun t123 aO=>(lH aL t123 false).bind fun t125=>nI true t125 (some aG) aO fun t126 aP=>nI true t125 (lF .eql t126 zO) aP fun t129 aQ=>(lH t125 t129 false).bind fun t131=>(kR 8 aQ aF t109).bind fun aR=>kZ m .ret [aE,aF,t131,aA,aG,aH,aC,aB] aR) ((lF .add aB (1:Int)).bind fun aV=>kZ m .normal [aE,aF,aJ,aA,aG,aH,aC,aV] aI)) (kZ m (.exit 1) [aE,aF,aJ,aA,aG,aH,aC,aB] aW)
def H3 (K:kT) (a0 a1:kN) (h0:kO):OH :=
 (kW (lR 8 h0 (.agg [zO,zO,zO,zO,zO,zO,zO,false])) fun t0 h1=>AP K 131 a1 (8:Int) (4:Int) h1 fun t2 h3=>AP K 131 a0 zO (4:Int) h3 fun t4 h5=>AP K 131 a1 zO (4:Int) h5 fun t6 h7=>(lB [zO,zO,zO,zO,zO,zO,zO,false] [(0,1),(1,1),(2,1),(3,1),(4,1),(5,1),(6,1),(7,1)] [(1,t2),(2,t4),(3,t6)]).bind fun t8=>kW (lR 8 h7 (.agg [zO,zO,zO,zO,zO,zO,zO,false])) fun t9 a_=>(kR 8 a_ t9 t8).bind fun bA=>AP K 131 a1 (12:Int) (3:Int) bA fun bU bB=>(lF .shl bU (.int .u64 2)).bind fun t14=>AP K 131 a1 (6:Int) (2:Int) bB fun t15 bD=>(lF .or t14 t15).bind fun t17=>AP K 131 a1 (4:Int) (2:Int) bD fun t18 aK=>(lF .shr a1 (.int .u64 15)).bind fun bV=>aq .eql bV (1:Int) ((lB [zO,zO,zO,zO,zO,zO,zO,false] [(0,1),(1,1),(2,1),(3,1),(4,1),(5,1),(6,1),(7,1)] []).bind fun bW=>(kR 8 aK t0 bW).bind fun bE=>some (.ret,[t0,false],bE)) (aq .eql a0 (59983:Int) ((lF .add (5:Int) t18).bind fun bX=>(kQ 0 t9).bind fun bY=>(kR 1 aK bY bX).bind fun bF=>(kQ 2 t9).bind fun bZ=>(kR 1 bF bZ zO).bind fun bG=>(kQ 5 t9).bind fun b_=>(kR 1 bG b_ t17).bind fun aB=>(kY true 8 aB t9).bind fun t32=>fq 1 t9 aB fun cA=>fq 3 t9 aB fun t36=>kW (lE 2 1 [zO] [(0,cA),(1,t36)] (oR (lA [0] [t9]) aB)) fun cB aQ=>zE K 152 cB (oR (lA [0] [t9]) (lO (lA [0] [t9]) aB aQ)) fun aJ aX=>gq true aJ (lI t18 (lO (lA [0] [t9]) (lO (lA [0] [t9]) aB aQ) aX)) (lO (lA [0] [t9]) (lO (lA [0] [t9]) aB aQ) aX) fun cC bH=>nI true aJ (lF .eql cC zO) bH fun cD bI=>nI true aJ (some cD) bI fun t46 bJ=>nI false t46 (some t17) bJ fun t48 bK=>nI false t46 (lF .gtr t48 zO) bK fun cE bL=>nI true aJ (lH t46 true cE) bL fun t54 bM=>(lH aJ t54 false).bind fun cF=>(kR 8 bM t0 t32).bind fun bN=>some (.ret,[t0,cF],bN)) (aq .eql a0 (60015:Int) ((kQ 0 t9).bind fun cG=>(kR 1 aK cG (9:Int)).bind fun bO=>(kQ 2 t9).bind fun cH=>(kR 1 bO cH zO).bind fun aC=>(kY true 8 aC t9).bind fun t63=>fq 1 t9 aC fun t65=>fq 3 t9 aC fun t67=>kW (lE 2 1 [zO] [(0,t65),(1,t67)] (oR (lA [0] [t9]) aC)) fun t68 aR=>zE K 152 t68 (oR (lA [0] [t9]) (lO (lA [0] [t9]) aC aR)) fun aS aY=>gq true aS (lI t18 (lO (lA [0] [t9]) (lO (lA [0] [t9]) aC aR) aY)) (lO (lA [0] [t9]) (lO (lA [0] [t9]) aC aR) aY) fun t72 bP=>nI true aS (lF .eql t72 zO) bP fun t75 bQ=>(lH aS t75 false).bind fun t77=>nI true t77 (some t17) bQ fun t78 bR=>nI true t77 (lF .eql t78 zO) bR fun cI bS=>(lH t77 cI false).bind fun cJ=>(kR 8 bS t0 t63).bind fun bT=>some (.ret,[t0,cJ],bT)) (kq0 K 153 aK fun t85 aZ=>(nP (t_ K (aa5 aZ)) ([a0,t0,false,t9,t17,t18,t85,zO],aZ)).bind fun aI=>PH aI.2 fun aT aA aE aU aV aW aL aM aG=>Ex.l_ aI.1 none (fun aN=>Ex.inBlock 1 aN ((lB [zO,zO,zO,zO,zO,zO,zO,false] [(0,1),(1,1),(2,1),(3,1),(4,1),(5,1),(6,1),(7,1)] []).bind fun t146=>(kR 8 aG aA t146).bind fun aP=>some (.ret,[aA,false],aP)) (fun aO=>some (aO,[aA,aE],aG))))))).bind fun UT=>F3 UT.2 fun aD aF aH=>Ex.oH UT.1 ((kY true 8 aH aD).bind fun t152=>oM (aa5 h0) (.tuple [t152,aF]) aH)
theorem Z_ K a0 a1 h0:nN K 133 [a0,a1] h0=H3 (lG mJ K) a0 a1 h0:=by kernel_rfl
def avZ (K:kT) (h0:kO):OH :=
 (kW (lR 12 h0 (.agg [zO,zO,zO,zO,zO,zO,zO,zO,zO,zO,zO,zO])) fun t0 h1=>(lB [zO,zO] [(0,1),(1,1)] [(0,(59904:Int)),(1,(10:Int))]).bind fun t2=>(lB [zO,zO] [(0,1),(1,1)] [(0,(59936:Int)),(1,(11:Int))]).bind fun t3=>(lB [zO,zO] [(0,1),(1,1)] [(0,(59968:Int)),(1,(12:Int))]).bind fun t4=>(lB [zO,zO] [(0,1),(1,1)] [(0,(60032:Int)),(1,(13:Int))]).bind fun t5=>(lB [zO,zO] [(0,1),(1,1)] [(0,(60160:Int)),(1,(14:Int))]).bind fun t6=>(lB [zO,zO] [(0,1),(1,1)] [(0,(60320:Int)),(1,(15:Int))]).bind fun t7=>(lB [zO,zO,zO,zO,zO,zO,zO,zO,zO,zO,zO,zO] [(0,2),(2,2),(4,2),(6,2),(8,2),(10,2)] [(0,t2),(1,t3),(2,t4),(3,t5),(4,t6),(5,t7)]).bind fun t8=>(kR 12 h1 t0 t8).bind fun h9=>some (.ret,[t0],h9)).bind fun r10=>Jr r10.2 fun aA aB=>Ex.oH r10.1 ((kY true 12 aB aA).bind fun t13=>oM (aa5 h0) t13 aB)
theorem aaT K h0:nN K 153 [] h0=avZ (lG mJ K) h0:=by kernel_rfl
def vH (K:kT) (m:Nat) (s:List kN×kO):Option R :=
 uq7 s fun aD aE aF aG aC aB aA aI=>aq .lss aA aB ((mD 1 aC aA).bind fun t14=>(kY false 1 aI t14).bind fun t15=>(uO t15).bind fun aH=>lW (wR mJ K aH.1 (tY mJ aH.1 (aH.2.1++[aD,aE]++aH.2.2)) aI) (fun t16 aL=>(lC 0 t16).bind fun aO=>(lC 1 t16).bind fun aP=>kW (lR 8 aL (.agg [zO,zO,zO,zO,zO,zO,zO,false])) fun aK aM=>(kR 8 aM aK aO).bind fun aJ=>kV aP ((kY true 8 aJ aK).bind fun t24=>(kR 8 aJ aF t24).bind fun aN=>kZ m .ret [aD,aE,aF,true,aC,aB,aA] aN) ((lF .add aA (1:Int)).bind fun aQ=>kZ m .normal [aD,aE,aF,aG,aC,aB,aQ] aJ)) (fun _ _=>none)) (kZ m (.exit 0) [aD,aE,aF,aG,aC,aB,aA] aI)
def Wo (K:kT) (a0 a1:kN) (h0:kO):OH :=
 (kW (lR 8 h0 (.agg [zO,zO,zO,zO,zO,zO,zO,false])) fun t0 h1=>kW (lE 4 1 [.nilfunc] [(0,(.func 133 [] [])),(1,(.func 134 [] [])),(2,(.func 135 [] [])),(3,(.func 136 [] []))] h1) fun t2 h3=>(s5 t2).bind fun t4=>(nP (vH K (aa5 h3)) ([a0,a1,t0,false,t2,t4,zO],h3)).bind fun Ce=>uq7 Ce.2 fun aK aL aA aC aE aF aG aH=>Ex.l_ Ce.1 none (fun aM=>Ex.inBlock 0 aM ((lB [zO,zO,zO,zO,zO,zO,zO,false] [(0,1),(1,1),(2,1),(3,1),(4,1),(5,1),(6,1),(7,1)] []).bind fun t38=>(kR 8 aH aA t38).bind fun aO=>some (.ret,[aA,false],aO)) (fun aN=>some (aN,[aA,aC],aH)))).bind fun aJ=>F3 aJ.2 fun aB aD aI=>Ex.oH aJ.1 ((kY true 8 aI aB).bind fun aP=>oM (aa5 h0) (.tuple [aP,aD]) aI)
theorem ZQ K a0 a1 h0:nN K 113 [a0,a1] h0=Wo (lG mJ K) a0 a1 h0:=by kernel_rfl
def vI (K:kT) (m:Nat) (s:List kN×kO):Option R :=
 X1 s fun aB aD aC aA h6=>aq .lss aA (4:Int) (zE K 36 aB h6 fun t8 h9=>(lF .mul (8:Int) aA).bind fun t10=>(lF .shr t8 t10).bind fun aF=>(mC .u8 aF).bind fun aG=>(lQ 4 1 aC aA).bind fun t13=>(kR 1 h9 t13 aG).bind fun aE=>(lF .add aA (1:Int)).bind fun t15=>kZ m .normal [aB,aD,aC,t15] aE) (kZ m (.exit 0) [aB,aD,aC,aA] h6)
def au5 (K:kT) (a0:kN) (h0:kO):OH :=
 (kW (lR 4 h0 (.agg [(.int .u8 0),(.int .u8 0),(.int .u8 0),(.int .u8 0)])) fun t0 h1=>(nP (vI K (aa5 h1)) ([a0,(.str []),t0,zO],h1)).bind fun r16=>X1 r16.2 fun aF aA aC aG aD=>Ex.l_ r16.1 none (fun e17=>Ex.inBlock 0 e17 ((zR 4 1 aC none none).bind fun t24=>(yJ aD t24).bind fun aI=>some (.ret,[aI],aD)) (fun e23=>some (e23,[aA],aD)))).bind fun aE=>Jr aE.2 fun aB aH=>Ex.oH aE.1 (oM (aa5 h0) aB aH)
theorem ZV K a0 h0:nN K 119 [a0] h0=au5 (lG mJ K) a0 h0:=by kernel_rfl
def Mc (K:kT) (m:Nat) (s:List kN×kO):Option R :=
 X1 s fun aB aD aC aA aE=>aq .lss aA (16:Int) (fq 1 aB aE fun t13=>(lF .or t13 (1:Int)).bind fun t14=>(lQ 16 1 aC aA).bind fun t15=>(kR 1 aE t15 t14).bind fun aF=>(lF .add aA (1:Int)).bind fun t17=>kZ m .normal [aB,aD,aC,t17] aF) (kZ m (.exit 0) [aB,aD,aC,aA] aE)
def m34 (K:kT) (a0:kN) (h0:kO):OH :=
 (kW (lR 6 h0 a0) fun t0 h1=>kW (lR 16 h1 (.agg [zO,zO,zO,zO,zO,zO,zO,zO,zO,zO,zO,zO,zO,zO,zO,zO])) fun t2 h3=>kW (lR 16 h3 (.agg [zO,zO,zO,zO,zO,zO,zO,zO,zO,zO,zO,zO,zO,zO,zO,zO])) fun t4 h5=>(nP (Mc K (aa5 h5)) ([t0,t2,t4,zO],h5)).bind fun r18=>X1 r18.2 fun aB aC aA aN aH=>Ex.l_ r18.1 none (fun e19=>Ex.inBlock 0 e19 ((kQ 0 aB).bind fun aJ=>(kY false 1 aH aJ).bind fun t27=>(lF .or t27 (1:Int)).bind fun aS=>(lQ 16 1 aA zO).bind fun t29=>(kR 1 (oR (lA [0] [aJ]) aH) t29 (537133056:Int)).bind fun aP=>(lQ 16 1 aA (1:Int)).bind fun t31=>(kR 1 (lO (lA [0] [aJ]) aH aP) t31 aS).bind fun aD=>(kQ 2 aB).bind fun t33=>fq 0 t33 aD fun t35=>(kQ 2 aB).bind fun t36=>(kQ 1 t36).bind fun aF=>(kY false 1 aD aF).bind fun t38=>(kQ 2 aB).bind fun aT=>(kQ 2 aT).bind fun aE=>(kY false 1 aD aE).bind fun aU=>(kQ 5 aB).bind fun t42=>(kY false 1 aD t42).bind fun aV=>(lQ 16 1 aA (7:Int)).bind fun aW=>(kR 1 (oR (lA [0,1,2] [aF,aE,t42]) aD) aW t35).bind fun aI=>(lQ 16 1 aA (8:Int)).bind fun t46=>(kR 1 (oR (lA [0,1] [aE,t42]) (lO (lA [0,1,2] [aF,aE,t42]) aD aI)) t46 t38).bind fun aK=>(lQ 16 1 aA (9:Int)).bind fun t48=>(kR 1 (oR (lA [0] [t42]) (lO (lA [0,1] [aE,t42]) (lO (lA [0,1,2] [aF,aE,t42]) aD aI) aK)) t48 aU).bind fun aQ=>(lQ 16 1 aA (10:Int)).bind fun aX=>(kR 1 (lO (lA [0] [t42]) (lO (lA [0,1] [aE,t42]) (lO (lA [0,1,2] [aF,aE,t42]) aD aI) aK) aQ) aX aV).bind fun aL=>(kY true 16 aL aA).bind fun t52=>(kR 16 aL aC t52).bind fun aR=>some (.ret,[aC],aR)) (fun aO=>some (aO,[aC],aH)))).bind fun Ku=>Jr Ku.2 fun aG aM=>Ex.oH Ku.1 ((kY true 16 aM aG).bind fun t57=>oM (aa5 h0) t57 aM)
theorem ajZ K a0 h0:nN K 34 [a0] h0=m34 (lG mJ K) a0 h0:=by kernel_rfl
def Bn (K:kT) (m:Nat) (s:List kN×kO):Option R :=
 Vd s fun aC aD aF aE aB aA aG=>aq .lss aA (16:Int) ((oI false 16 1 aB aA).bind fun aJ=>yG K 32 aC aA aG fun aK aH=>aq .neq aK aJ ((lB [zO,zO,zO,zO,zO,zO] [(0,1),(1,1),(2,3),(5,1)] []).bind fun aL=>(kR 6 aH aD aL).bind fun aI=>kZ m .ret [aC,aD,(4:Int),aE,aB,aA] aI) ((lF .add aA (1:Int)).bind fun t49=>kZ m .normal [aC,aD,aF,aE,aB,t49] aH)) (kZ m (.exit 0) [aC,aD,aF,aE,aB,aA] aG)
def m25 (K:kT) (a0:kN) (h0:kO):OH :=
 (kW (lR 6 h0 (.agg [zO,zO,zO,zO,zO,zO])) fun t0 h1=>(nG a0).bind fun t2=>aq .lss t2 (64:Int) ((lB [zO,zO,zO,zO,zO,zO] [(0,1),(1,1),(2,3),(5,1)] []).bind fun t4=>(kR 6 h1 t0 t4).bind fun h5=>some (.ret,[t0,(3:Int)],h5)) (yG K 32 a0 (1:Int) h1 fun t6 h7=>(lF .sub t6 (1:Int)).bind fun t8=>yG K 32 a0 (3:Int) h7 fun t9 aR=>(lF .sub t9 (1:Int)).bind fun aZ=>yG K 32 a0 (10:Int) aR fun a_ aS=>yG K 32 a0 (7:Int) aS fun t14 aT=>yG K 32 a0 (8:Int) aT fun t16 aU=>yG K 32 a0 (9:Int) aU fun t18 aV=>(lB [zO,zO,zO] [(0,1),(1,1),(2,1)] [(0,t14),(1,t16),(2,t18)]).bind fun bA=>(lB [zO,zO,zO,zO,zO,zO] [(0,1),(1,1),(2,3),(5,1)] [(0,t8),(1,aZ),(3,a_),(2,bA)]).bind fun bB=>kW (lR 6 aV (.agg [zO,zO,zO,zO,zO,zO])) fun aF aW=>(kR 6 aW aF bB).bind fun aK=>(kY true 6 aK aF).bind fun bD=>(nG a0).bind fun bE=>yG K 33 bD bE aK fun t27 aG=>aq .neq t27 zO ((lB [zO,zO,zO,zO,zO,zO] [(0,1),(1,1),(2,3),(5,1)] []).bind fun bF=>(kR 6 aG t0 bF).bind fun aX=>some (.ret,[t0,(4:Int)],aX)) ((kY true 6 aG aF).bind fun t32=>zE K 34 t32 aG fun t33 aL=>(nP (Bn K (aa5 aL)) ([a0,t0,zO,aF,t33,zO],aL)).bind fun aN=>Vd aN.2 fun aO aA aC aE aI aJ aH=>Ex.l_ aN.1 none (fun aP=>Ex.inBlock 0 aP ((kY true 6 aH aE).bind fun bG=>(kR 6 aH aA bG).bind fun aY=>some (.ret,[aA,zO],aY)) (fun aQ=>some (aQ,[aA,aC],aH)))))).bind fun F0=>F3 F0.2 fun aB aD aM=>Ex.oH F0.1 ((kY true 6 aM aB).bind fun t66=>oM (aa5 h0) (.tuple [t66,aD]) aM)
theorem ajS K a0 h0:nN K 25 [a0] h0=m25 (lG mJ K) a0 h0:=by kernel_rfl
end
noncomputable section
open Go Hk
section
set_option maxHeartbeats 8000000
def avG (K:kT) (a0 a1 a2:kN) (h0:kO):Option (mR×kO) :=
 (bo .shr a0 a1 fun aA=>bo .shl (1:Int) a2 fun aB=>bo .sub aB (1:Int) fun t24=>bo .and aA t24 fun aC=>some (.ret,[aC],h0)).bind (mA (aa5 h0))
theorem Z8 K a0 a1 a2 h0:nN K 131 [a0,a1,a2] h0=avG (lG mJ K) a0 a1 a2 h0:=by kernel_rfl
def t131 (p0:Int) (p1:Int) (p2:Int):Option (Int) :=
 tb ((sX .i64 p0 p1)) fun aA=>tb ((qP .i64 1 p2)) fun aB=>some (rC .i64 aA (IntKind.wrap .i64 (aB-1)))
theorem xA (p0:Int) (p1:Int) (p2:Int) (h:kO):KK 131 [p0,p1,p2] h=tm (t131 p0 p1 p2) fun r=>(.ret r,h):=lJ rfl rfl (Z8 ..) (by
 simp [-rZ,-oZ,-oJ,-p5,-pV,-qX,-qY,avG,t131,mA])
def avH (K:kT) (a0 a1:kN) (h0:kO):Option (mR×kO) :=
 (bo .sub a1 (1:Int) fun aA=>bo .shr a0 aA fun aB=>bo .eql aB (1:Int) fun aC=>kV aC (bo .shl (1:Int) a1 fun t24=>bo .sub a0 t24 fun aD=>some (.ret,[aD],h0)) (some (.ret,[a0],h0))).bind (mA (aa5 h0))
theorem Z9 K a0 a1 h0:nN K 132 [a0,a1] h0=avH (lG mJ K) a0 a1 h0:=by kernel_rfl
def t132 (p0:Int) (p1:Int):Option (Int) :=
 tb ((sX .i64 p0 (IntKind.wrap .i64 (p1-1)))) fun aA=>tc (decide (aA=1)) (tb ((qP .i64 1 p1)) fun aB=>some (IntKind.wrap .i64 (p0-aB))) (some p0)
theorem al9 (p0:Int) (p1:Int) (h:kO):KK 132 [p0,p1] h=tm (t132 p0 p1) fun r=>(.ret r,h):=lJ rfl rfl (Z9 ..) (by
 simp [-rZ,-oZ,-oJ,-p5,-pV,-qX,-qY,avH,t132,mA])
def au0 (K:kT) (a0 a1:kN) (h0:kO):Option (mR×kO) :=
 (bo .mul (2:Int) a1 fun aA=>(mS a0 aA).bind fun aB=>(mC .i64 aB).bind fun aC=>bo .mul (2:Int) a1 fun t24=>bo .add t24 (1:Int) fun aD=>(mS a0 aD).bind fun aE=>(mC .i64 aE).bind fun aF=>bo .shl aF (.int .u64 8) fun t29=>bo .or aC t29 fun t31=>some (.ret,[t31],h0)).bind (mA (aa5 h0))
theorem ZP K a0 a1 h0:nN K 112 [a0,a1] h0=au0 (lG mJ K) a0 a1 h0:=by kernel_rfl
def t112 (p0:(List UInt8)) (p1:Int):Option (Int) :=
 tb ((uU p0 (IntKind.wrap .i64 (2*p1)))) fun aA=>tb ((uU p0 (IntKind.wrap .i64 ((IntKind.wrap .i64 (2*p1))+1)))) fun aB=>tb ((qP .i64 (IntKind.wrap .i64 aB) 8)) fun aC=>some (sD .i64 (IntKind.wrap .i64 aA) aC)
theorem SB (p0:(List UInt8)) (p1:Int) (h:kO):KK 112 [p0,p1] h=tm (t112 p0 p1) fun r=>(.ret r,h):=lJ rfl rfl (ZP ..) (by
 simp [-rZ,-oZ,-oJ,-p5,-pV,-qX,-qY,au0,t112,mA])
def auZ (K:kT) (a0:kN) (h0:kO):Option (mR×kO) :=
 ((nG a0).bind fun aB=>bo .lss aB (2:Int) fun aC=>kV aC (some (.ret,[zO],h0)) (ca (K 112 [(kN.kP a0),(kN.kP zO)] h0) fun aD aA=>bo .shr aD (.int .u64 11) fun aE=>bo .geq aE (29:Int) fun t27=>kV t27 (some (.ret,[(4:Int)],aA)) (some (.ret,[(2:Int)],aA)))).bind (mA (aa5 h0))
theorem ZN K a0 h0:nN K 110 [a0] h0=auZ (lG mJ K) a0 h0:=by kernel_rfl
def t110 (p0:(List UInt8)):Option (Int) :=
 tc (decide (((p0.length:Nat):Int)<2)) (some 0) (tb ((t112 p0 0)) fun pY=>tb ((sX .i64 pY 11)) fun aA=>tc (decide (29≤aA)) (some 4) (some 2))
theorem Fc (p0:(List UInt8)) (h:kO):KK 110 [p0] h=tm (t110 p0) fun r=>(.ret r,h):=lJ rfl rfl (ZN ..) (by
 simp [-rZ,-oZ,-oJ,-p5,-pV,-qX,-qY,auZ,t110,SB,mA])
def GF (K:kT) (m:Nat) (s:List kN×kO):Option R :=
 (fun aD aB aC aA aE=>bo .lss aA aC fun aF=>kV aF (ix 1 aB aA fun t29=>ld false 1 aE t29 fun t31=>bo .gtr t31 (12:Int) fun t32=>kV t32 (kZ m .ret [false,aB,aC,aA] aE) (bo .add aA (1:Int) fun t33=>kZ m .normal [aD,aB,aC,t33] aE)) (kZ m (.exit 0) [aD,aB,aC,aA] aE)) (gd s.1 0) (gd s.1 1) (gd s.1 2) (gd s.1 3) s.2
def yX (p0:(List Int)) (aC:Int) (aA:Int):Option (Ey×Int) :=
 tc (decide (aA<aC)) (tb ((sF p0 aA)) fun aB=>tc (decide (12<aB)) (some (.r,aA)) (some (.n,(IntKind.wrap .i64 (aA+1))))) (some ((.x 0),aA))
theorem YV (p0:(List Int)) (w21:Int) (s22:Int):GF KK 0 ([false,(.slice (Rw (ci .i64) p0) .no),w21,s22],([]:kO))=tm (β:=R) (yX p0 w21 s22) fun r=>(r.1.ex,[false,(.slice (Rw (ci .i64) p0) .no),w21,r.2],([]:kO)):=by
 simp [-rZ,-oZ,-oJ,-p5,-pV,-qX,-qY,GF,yX]
theorem acI (p0:(List Int)) (w21:Int) (i3:Int):nP (GF KK 0) ([false,(.slice (Rw (ci .i64) p0) .no),w21,i3],([]:kO))=tm (β:=R) (rX (yX p0 w21) i3) fun r=>(r.1.ex,[false,(.slice (Rw (ci .i64) p0) .no),w21,r.2],([]:kO)):=by
 exact uE (enc:=fun s22=>([(.bool false),(.slice (Rw (ci .i64) p0) .no),(.int .i64 w21),(.int .i64 s22)],([]:kO))) (fun s22=>YV p0 w21 s22) i3
def avY (K:kT) (a0:kN) (h0:kO):Option (mR×kO) :=
 (ln a0 fun aI=>(nP (GF K (aa5 h0)) ([false,a0,aI,zO],h0)).bind fun aA=>(fun aB aD aE aF aC=>Ex.l_ aA.1 none (fun aG=>Ex.inBlock 0 aG (some (.ret,[true],aC)) (fun aH=>some (aH,[aB],aC)))) (gd aA.2.1 0) (gd aA.2.1 1) (gd aA.2.1 2) (gd aA.2.1 3) aA.2.2).bind (mA (aa5 h0))
theorem aaS K a0 h0:nN K 152 [a0] h0=avY (lG mJ K) a0 h0:=by kernel_rfl
def t152 (p0:(List Int)):Option (Bool) :=
 tb (rX (yX p0 ((aa5 p0:Nat):Int)) 0) fun aC=>uL aC.1 none fun aA=>vO 0 aA (some true) fun aB=>Ao aB (some false)
theorem acH (p0:(List Int)) (h:kO):KK 152 [(.slice (Rw (ci .i64) p0) .no)] h=tm (t152 p0) fun r=>(.ret r,h):=lJ rfl rfl (aaS ..) (by
 simp [-rZ,-oZ,-oJ,-p5,-pV,-qX,-qY,avY,t152,acI,mA])
def LS (mm:Nat) (Gm:R):Option (mR×kO) :=
 (fun aA aB aC=>Ex.oH Gm.1 ((kY true 8 aC aA).bind fun t110=>oM mm (.tuple [t110,aB]) aC)) (gd Gm.2.1 0) (gd Gm.2.1 1) Gm.2.2
def LU (K:kT) (t46:kN) (aE:kO) (aA:kN) (a1:kN) (aB:kN) (aG:kN) (aH:kN) (a0:kN) (t31:kN):Option R :=
 kV t46 ((lB [zO,zO,zO,zO,zO,zO,zO,false] [(0,1),(1,1),(2,1),(3,1),(4,1),(5,1),(6,1),(7,1)] []).bind fun aP=>(kR 8 aE aA aP).bind fun aJ=>some (.ret,[aA,false],aJ)) (ca (K 131 [(kN.kP a1),(kN.kP (12:Int)),(kN.kP (1:Int))] aE) fun t52 aF=>bo .eql t52 (1:Int) fun t55=>kV t55 (bo .shl aB (.int .u64 23) fun aQ=>bo .xor (1:Int) aG fun aR=>bo .xor aR aB fun aS=>bo .shl aS (.int .u64 22) fun aT=>bo .or aQ aT fun t62=>bo .xor (1:Int) aH fun t63=>bo .xor t63 aB fun t64=>bo .shl t64 (.int .u64 21) fun t65=>bo .or t62 t65 fun t67=>ca (K 131 [(kN.kP a0),(kN.kP zO),(kN.kP (10:Int))] aF) fun t68 aK=>bo .shl t68 (.int .u64 11) fun t71=>bo .or t67 t71 fun t73=>bo .or t73 t31 fun t74=>ca (K 132 [(kN.kP t74),(kN.kP (24:Int))] aK) fun t75 aL=>bo .mul (2:Int) t75 fun t78=>(lB [zO,zO,zO,zO,zO,zO,zO,false] [(0,1),(1,1),(2,1),(3,1),(4,1),(5,1),(6,1),(7,1)] [(0,(24:Int)),(5,t78),(7,true)]).bind fun aU=>(kR 8 aL aA aU).bind fun aM=>some (.ret,[aA,true],aM)) (ca (K 131 [(kN.kP a0),(kN.kP (6:Int)),(kN.kP (4:Int))] aF) fun aI aN=>bo .shl aB (.int .u64 19) fun aV=>bo .shl aH (.int .u64 18) fun aW=>bo .or aV aW fun t88=>bo .shl aG (.int .u64 17) fun t89=>bo .or t88 t89 fun t91=>ca (K 131 [(kN.kP a0),(kN.kP zO),(kN.kP (6:Int))] aN) fun t92 aO=>bo .shl t92 (.int .u64 11) fun t95=>bo .or t91 t95 fun t97=>bo .or t97 t31 fun t98=>ca (K 132 [(kN.kP t98),(kN.kP (20:Int))] aO) fun aX aC=>bo .mul (2:Int) aX fun t102=>(lB [zO,zO,zO,zO,zO,zO,zO,false] [(0,1),(1,1),(2,1),(3,1),(4,1),(5,1),(6,1),(7,1)] [(0,(25:Int)),(6,aI),(5,t102),(7,true)]).bind fun t103=>bo .leq aI (13:Int) fun t104=>(kR 8 aC aA t103).bind fun aD=>some (.ret,[aA,t104],aD)))
def AG (aL:Bool) (p1:Int) (pY:Int) (Ce:Int) (aA:Int) (p0:Int) (CF:Int):Option (lL×Bool) :=
 tc aL (some ((⟨0,0,0,0,0,0,0,false⟩:lL),false)) (tb ((t131 p1 12 1)) fun Ku=>tc (decide (Ku=1)) (tb ((qP .i64 pY 23)) fun aC=>tb ((qP .i64 (C5 .i64 (C5 .i64 1 Ce) pY) 22)) fun aD=>tb ((qP .i64 (C5 .i64 (C5 .i64 1 aA) pY) 21)) fun aE=>tb ((t131 p0 0 10)) fun aK=>tb ((qP .i64 aK 11)) fun aF=>tb ((t132 (sD .i64 (sD .i64 (sD .i64 (sD .i64 aC aD) aE) aF) CF) 24)) fun AZ=>some ((⟨24,0,0,0,0,(IntKind.wrap .i64 (2*AZ)),0,true⟩:lL),true)) (tb ((t131 p0 6 4)) fun aB=>tb ((qP .i64 pY 19)) fun aG=>tb ((qP .i64 aA 18)) fun aH=>tb ((qP .i64 Ce 17)) fun aI=>tb ((t131 p0 0 6)) fun Jq=>tb ((qP .i64 Jq 11)) fun aJ=>tb ((t132 (sD .i64 (sD .i64 (sD .i64 (sD .i64 aG aH) aI) aJ) CF) 20)) fun DW=>some ((⟨25,0,0,0,0,(IntKind.wrap .i64 (2*DW)),aB,true⟩:lL),(decide (aB≤13)))))
theorem acA (w49:Bool) (p1:Int) (pY:Int) (Ce:Int) (r30:Int) (p0:Int) (CF:Int):((LU KK w49 ([.cells [zO,zO,zO,zO,zO,zO,zO,false]]:kO) (.ptr 0 0) p1 pY Ce r30 p0 CF)).bind (LS 0)=tm (AG w49 p1 pY Ce r30 p0 CF) fun r=>(.ret (.tuple [(.agg [r.1.op,r.1.rd,r.1.rn,r.1.rm,r.1.ra,r.1.imm,r.1.cond,r.1.wide]),r.2]),[]):=by
 cases w49 <;> simp +contextual -implicitDefEqProofs (maxSteps:=2000000) [-rZ,-oZ,-oJ,-p5,-pV,-qX,-qY,LU,AG,xA,al9,LS]
def avI (K:kT) (a0 a1:kN) (h0:kO):Option (mR×kO) :=
 (kW (lR 8 h0 (.agg [zO,zO,zO,zO,zO,zO,zO,false])) fun aI aD=>ca (K 131 [(kN.kP a0),(kN.kP (10:Int)),(kN.kP (1:Int))] aD) fun aJ aE=>ca (K 131 [(kN.kP a1),(kN.kP (13:Int)),(kN.kP (1:Int))] aE) fun aK aF=>ca (K 131 [(kN.kP a1),(kN.kP (11:Int)),(kN.kP (1:Int))] aF) fun aL aG=>ca (K 131 [(kN.kP a1),(kN.kP zO),(kN.kP (11:Int))] aG) fun t31 aA=>bo .shr a0 (.int .u64 11) fun aM=>bo .neq aM (30:Int) fun t36=>gS false t36 (lI a1 aA) aA fun aN aB=>gS false t36 (bo .shr aN (.int .u64 14) fun aO=>lI aO aB) aB fun aP aC=>gS false t36 (bo .neq aP (2:Int) fun aQ=>lI aQ aC) aC fun aR aH=>(lH t36 true aR).bind fun t46=>LU K t46 aH aI a1 aJ aK aL a0 t31).bind (LS (aa5 h0))
theorem aaC K a0 a1 h0:nN K 136 [a0,a1] h0=avI (lG mJ K) a0 a1 h0:=by kernel_rfl
def t136 (p0:Int) (p1:Int):Option (lL×Bool) :=
 tb ((t131 p0 10 1)) fun pY=>tb ((t131 p1 13 1)) fun Ce=>tb ((t131 p1 11 1)) fun aA=>tb ((t131 p1 0 11)) fun CF=>tb ((sX .i64 p0 11)) fun aB=>tc (!decide (aB=30)) (AG true p1 pY Ce aA p0 CF) (tb ((sX .i64 p1 14)) fun aC=>AG (!decide (aC=2)) p1 pY Ce aA p0 CF)
theorem Ax (p0:Int) (p1:Int) (h:kO):KK 136 [p0,p1] h=tm (t136 p0 p1) fun r=>(.ret (.tuple [(.agg [r.1.op,r.1.rd,r.1.rn,r.1.rm,r.1.ra,r.1.imm,r.1.cond,r.1.wide]),r.2]),h):=lJ rfl rfl (aaC ..) (by
 simp +contextual [-rZ,-oZ,-oJ,-p5,-pV,-qX,-qY,avI,t136,xA,al9,LS,acA])
def Mw (K:kT) (m:Nat) (s:List kN×kO):Option R :=
 (fun aA aC aD aB aE=>bo .lss aB aA fun aF=>kV aF (bo .mul aD (2:Int) fun t27=>bo .add aB (1:Int) fun aG=>kZ m .normal [aA,aC,t27,aG] aE) (kZ m (.exit 0) [aA,aC,aD,aB] aE)) (gd s.1 0) (gd s.1 1) (gd s.1 2) (gd s.1 3) s.2
def NU (p0:Int) (oA:Int×Int):Option (Ey×Int×Int) :=
 tc (decide (oA.2<p0)) (some (.n,((IntKind.wrap .i64 (oA.1*2)),(IntKind.wrap .i64 (oA.2+1))))) (some ((.x 0),(oA.1,oA.2)))
theorem ahF (p0:Int) (oA:Int×Int):Mw KK 0 ([p0,zO,oA.1,oA.2],([]:kO))=tm (β:=R) (NU p0 oA) fun r=>(r.1.ex,[p0,zO,r.2.1,r.2.2],([]:kO)):=by
 simp [-rZ,-oZ,-oJ,-p5,-pV,-qX,-qY,Mw,NU]
theorem anW (p0:Int) (i2:Int) (i3:Int):nP (Mw KK 0) ([p0,zO,i2,i3],([]:kO))=tm (β:=R) (rX (NU p0) (i2,i3)) fun r=>(r.1.ex,[p0,zO,r.2.1,r.2.2],([]:kO)):=by
 exact uE (enc:=fun oA=>([(.int .i64 p0),(.int .i64 0),(.int .i64 oA.1),(.int .i64 oA.2)],([]:kO))) (fun oA=>ahF p0 oA) (i2,i3)
def m93 (K:kT) (a0:kN) (h0:kO):Option (mR×kO) :=
 ((nP (Mw K (aa5 h0)) ([a0,zO,(1:Int),zO],h0)).bind fun uZ=>(fun aD aA aB aE aC=>Ex.l_ uZ.1 none (fun aF=>Ex.inBlock 0 aF (some (.ret,[aB],aC)) (fun aG=>some (aG,[aA],aC)))) (gd uZ.2.1 0) (gd uZ.2.1 1) (gd uZ.2.1 2) (gd uZ.2.1 3) uZ.2.2).bind (mA (aa5 h0))
theorem alK K a0 h0:nN K 93 [a0] h0=m93 (lG mJ K) a0 h0:=by kernel_rfl
def t93 (p0:Int):Option (Int) :=
 tb (rX (NU p0) (1,0)) fun uZ=>uL uZ.1 none fun aA=>vO 0 aA (some uZ.2.1) fun aB=>Ao aB (some 0)
theorem wV (p0:Int) (h:kO):KK 93 [p0] h=tm (t93 p0) fun r=>(.ret r,h):=lJ rfl rfl (alK ..) (by
 simp [-rZ,-oZ,-oJ,-p5,-pV,-qX,-qY,m93,t93,anW,mA])
def Mv (K:kT) (m:Nat) (s:List kN×kO):Option R :=
 (fun aC aA aD aE aB aF=>bo .lss aB aA fun t27=>kV t27 (bo .mul aE (2:Int) fun aG=>bo .add aB (1:Int) fun t29=>kZ m .normal [aC,aA,aD,aG,t29] aF) (kZ m (.exit 0) [aC,aA,aD,aE,aB] aF)) (gd s.1 0) (gd s.1 1) (gd s.1 2) (gd s.1 3) (gd s.1 4) s.2
def CZ (p1:Int) (oA:Int×Int):Option (Ey×Int×Int) :=
 tc (decide (oA.2<p1)) (some (.n,((IntKind.wrap .i64 (oA.1*2)),(IntKind.wrap .i64 (oA.2+1))))) (some ((.x 0),(oA.1,oA.2)))
theorem ahE (p0:Int) (p1:Int) (oA:Int×Int):Mv KK 0 ([p0,p1,zO,oA.1,oA.2],([]:kO))=tm (β:=R) (CZ p1 oA) fun r=>(r.1.ex,[p0,p1,zO,r.2.1,r.2.2],([]:kO)):=by
 simp [-rZ,-oZ,-oJ,-p5,-pV,-qX,-qY,Mv,CZ]
theorem anV (p0:Int) (p1:Int) (i3:Int) (i4:Int):nP (Mv KK 0) ([p0,p1,zO,i3,i4],([]:kO))=tm (β:=R) (rX (CZ p1) (i3,i4)) fun r=>(r.1.ex,[p0,p1,zO,r.2.1,r.2.2],([]:kO)):=by
 exact uE (enc:=fun oA=>([(.int .i64 p0),(.int .i64 p1),(.int .i64 0),(.int .i64 oA.1),(.int .i64 oA.2)],([]:kO))) (fun oA=>ahE p0 p1 oA) (i3,i4)
def m92 (K:kT) (a0 a1:kN) (h0:kO):Option (mR×kO) :=
 ((nP (Mv K (aa5 h0)) ([a0,a1,zO,(1:Int),zO],h0)).bind fun aC=>(fun aA aF aD aB aG aE=>Ex.l_ aC.1 none (fun aH=>Ex.inBlock 0 aH (bo .geq aA aB fun aJ=>kV aJ (bo .mul (2:Int) aB fun aK=>bo .sub aA aK fun aL=>some (.ret,[aL],aE)) (some (.ret,[aA],aE))) (fun aI=>some (aI,[aD],aE)))) (gd aC.2.1 0) (gd aC.2.1 1) (gd aC.2.1 2) (gd aC.2.1 3) (gd aC.2.1 4) aC.2.2).bind (mA (aa5 h0))
theorem alJ K a0 a1 h0:nN K 92 [a0,a1] h0=m92 (lG mJ K) a0 a1 h0:=by kernel_rfl
def t92 (p0:Int) (p1:Int):Option (Int) :=
 tb (rX (CZ p1) (1,0)) fun aA=>uL aA.1 none fun aB=>vO 0 aB (tc (decide (aA.2.1≤p0)) (some (IntKind.wrap .i64 (p0-(IntKind.wrap .i64 (2*aA.2.1))))) (some p0)) fun aC=>Ao aC (some 0)
theorem Nd (p0:Int) (p1:Int) (h:kO):KK 92 [p0,p1] h=tm (t92 p0 p1) fun r=>(.ret r,h):=lJ rfl rfl (alJ ..) (by
 simp [-rZ,-oZ,-oJ,-p5,-pV,-qX,-qY,m92,t92,anV,mA])
def m64 (K:kT) (a0 a1:kN) (h0:kO):Option (mR×kO) :=
 (bo .mul (2:Int) a1 fun aB=>(mS a0 aB).bind fun aC=>(mC .i64 aC).bind fun aD=>bo .mul (2:Int) a1 fun t24=>bo .add t24 (1:Int) fun aE=>(mS a0 aE).bind fun aF=>(mC .i64 aF).bind fun aG=>bo .mul (256:Int) aG fun t29=>bo .add aD t29 fun aH=>ca (K 89 [(kN.kP aH)] h0) fun t31 aA=>some (.ret,[t31],aA)).bind (mA (aa5 h0))
theorem akR K a0 a1 h0:nN K 64 [a0,a1] h0=m64 (lG mJ K) a0 a1 h0:=by kernel_rfl
def t64 (p0:(List UInt8)) (p1:Int):Option ((List UInt8)) :=
 tb ((uU p0 (IntKind.wrap .i64 (2*p1)))) fun aA=>tb ((uU p0 (IntKind.wrap .i64 ((IntKind.wrap .i64 (2*p1))+1)))) fun aB=>tb ((t89 (IntKind.wrap .i64 ((IntKind.wrap .i64 aA)+(IntKind.wrap .i64 (256*(IntKind.wrap .i64 aB))))))) fun CF=>some CF
theorem Og (p0:(List UInt8)) (p1:Int) (h:kO):KK 64 [p0,p1] h=tm (t64 p0 p1) fun r=>(.ret r,h):=lJ rfl rfl (akR ..) (by
 simp [-rZ,-oZ,-oJ,-p5,-pV,-qX,-qY,m64,t64,Pk,mA])
def Q5 (K:kT) (aB:kN) (aA:kO):Option R :=
 kV aB (some (.ret,[(4:Int)],aA)) (some (.ret,[(2:Int)],aA))
def IF (aA:Bool):Option (Int) :=
 tc aA (some 4) (some 2)
theorem W_ (w47:Bool):((Q5 KK w47 ([]:kO))).bind (mA 0)=tm (IF w47) fun r=>(.ret r,[]):=by
 cases w47 <;> simp [-rZ,-oZ,-oJ,-p5,-pV,-qX,-qY,Q5,IF,Og,mA]
def Q4 (K:kT) (t33:kN) (aD:kN) (aA:kO):Option R :=
 gS false t33 (lI aD aA) aA fun aE aB=>gS false t33 (bo .eql aE (.str [49,49,49,49,49]) fun aF=>lI aF aB) aB fun t42 aC=>(lH t33 true t42).bind fun aG=>Q5 K aG aC
def IE (aB:Bool) (aA:(List UInt8)):Option (Int) :=
 tc aB (IF true) (IF (decide (aA=[49,49,49,49,49])))
theorem am7 (w36:Bool) (n26:(List UInt8)):((Q4 KK w36 n26 ([]:kO))).bind (mA 0)=tm (IE w36 n26) fun r=>(.ret r,[]):=by
 cases w36 <;> simp [-rZ,-oZ,-oJ,-p5,-pV,-qX,-qY,Q4,IE,Og,mA,W_]
def m63 (K:kT) (a0:kN) (h0:kO):Option (mR×kO) :=
 ((nG a0).bind fun aE=>bo .lss aE (2:Int) fun aF=>kV aF (some (.ret,[zO],h0)) (ca (K 64 [(kN.kP a0),(kN.kP zO)] h0) fun aG aB=>(nT aG none (some (5:Int))).bind fun aA=>bo .eql aA (.str [49,49,49,48,49]) fun t27=>gS false t27 (lI aA aB) aB fun aH aC=>gS false t27 (bo .eql aH (.str [49,49,49,49,48]) fun aI=>lI aI aC) aC fun t31 aD=>(lH t27 true t31).bind fun t33=>Q4 K t33 aA aD)).bind (mA (aa5 h0))
theorem akQ K a0 h0:nN K 63 [a0] h0=m63 (lG mJ K) a0 h0:=by kernel_rfl
def t63 (p0:(List UInt8)):Option (Int) :=
 tc (decide (((p0.length:Nat):Int)<2)) (some 0) (tb ((t64 p0 0)) fun pY=>tb ((zP pY none (some 5))) fun aA=>tc (decide (aA=[49,49,49,48,49])) (IE true aA) (IE (decide (aA=[49,49,49,49,48])) aA))
theorem r63 (p0:(List UInt8)) (h:kO):KK 63 [p0] h=tm (t63 p0) fun r=>(.ret r,h):=lJ rfl rfl (akQ ..) (by
 simp +contextual [-rZ,-oZ,-oJ,-p5,-pV,-qX,-qY,m63,t63,Og,mA,W_,am7])
end
end
end Go.Proofs.YtaaccaifoddaiaaGreat
