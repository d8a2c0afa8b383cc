/-
  The texts TY.C, TY.T6, TY.R0, TY.R1, TY.R2, TY.R3, TY.R4, TY.R5, TY.R6, TY.R7, TY.R8, TY.R9, TY.R10, TY.R11, TY.R12, TY.R13, TY.R14, TY.R15, TY.R16, TY.R17, TY.R18, TY.R19, TY.R20, TY.R21, TY.R22, one behind another. No conditions.
-/
import Derived.Test.YtkeoalhglkfbkaaDoorIx1
import Derived.Test.YtkeoalhglkfbkaaDoorVt1
import Derived.Test.YtkeoalhglkfbkaaDoorIxa1
set_option linter.unusedVariables false
set_option linter.unusedSimpArgs false
set_option linter.unusedSectionVars false
set_option linter.all false

namespace Go.Proofs.YtkeoalhglkfbkaaDoor
open Go Hk
theorem Op.tI (x:Op):x.cells=[.int .i64 x.kind,.int .i64 x.dst,.int .i64 x.a,.int .i64 x.b,.int .i64 x.c,.int .i64 x.imm]:=(rfl)
theorem Term.tI (x:Term):x.cells=[.int .i64 x.kind,.int .i64 x.a,.int .i64 x.yes,.int .i64 x.no]:=(rfl)
theorem mL.tI (x:mL):x.cells=[.int .i64 x.elem,.int .i64 x.len,.int .i64 x.kind,.int .i64 x.off]:=(rfl)
theorem lR.tI (x:lR):x.cells=[.slice (Rw Op.cells x.ops) .no,.int .i64 x.term.kind,.int .i64 x.term.a,.int .i64 x.term.yes,.int .i64 x.term.no]:=(rfl)
attribute [simp] Op.tI Term.tI mL.tI lR.tI
structure Span where
 first:Int
 last:Int
 deriving DecidableEq
def Span.cells (x:Span):List kS:=[.int .i64 x.first,.int .i64 x.last]
theorem Span.tI (x:Span):x.cells=[.int .i64 x.first,.int .i64 x.last]:=(rfl)
attribute [simp] Span.tI
end Go.Proofs.YtkeoalhglkfbkaaDoor


namespace Go.Proofs.YtkeoalhglkfbkaaDoor
open Go Hk
noncomputable def Z0 (mm:Nat) (aB:R):Option (nZ×kU) :=
 (fun aA aC=>Ex.nK aB.1 (mX mm aA aC)) (gd aB.2.1 0) aB.2.2
noncomputable def apE (K:lD) (a0:kS) (h0:kU):Option (nZ×kU) :=
 (bo .and a0 (.int .i64 4294967295) fun aA=>some (.ret,[aA],h0)).bind (Z0 (List.length h0))
theorem ahM (K:lD) (a0:kS) (h0:kU):qA Tryd.prog nA mQ K 201 [a0] h0=apE (mP nA K) a0 h0:=by kernel_rfl
noncomputable def t201 (p0:Int):Option (Int) :=
 some (DU .i64 p0 4294967295)
theorem aAB (p0:Int):apE KK (.int .i64 p0) []=tm (t201 p0) fun r=>(.ret (.int .i64 r),[]):=by
 simp +contextual -implicitDefEqProofs (maxSteps:=2000000) [-lQ,-lF,-k9,-k_,-lG,-lN,-lC,apE,t201,Z0]
theorem EV (p0:Int) (h:kU):KK 201 [(.int .i64 p0)] h=tm (t201 p0) fun r=>(.ret (.int .i64 r),h):=rY rfl rfl (ahM ..) (aAB p0)
noncomputable def aaF (mm:Nat) (aB:R):Option (nZ×kU) :=
 (fun aA aC=>Ex.nK aB.1 (mX mm aA aC)) (gd aB.2.1 0) aB.2.2
noncomputable def apU (K:lD) (a0 a1:kS) (h0:kU):Option (nZ×kU) :=
 (ca (K 201 [(kS.k8 a0)] h0) fun aC aA=>(rR .u64 aC).bind fun aD=>ca (K 201 [(kS.k8 a1)] aA) fun aE aB=>(rR .u64 aE).bind fun t27=>bo .mul aD t27 fun aF=>some (.ret,[aF],aB)).bind (aaF (List.length h0))
theorem ah2 (K:lD) (a0 a1:kS) (h0:kU):qA Tryd.prog nA mQ K 240 [a0,a1] h0=apU (mP nA K) a0 a1 h0:=by kernel_rfl
noncomputable def t240 (p0:Int) (p1:Int):Option (Int) :=
 tb ((t201 p0)) fun aA=>tb ((t201 p1)) fun T8=>some (IntKind.wrap .u64 ((IntKind.wrap .u64 aA) * (IntKind.wrap .u64 T8)))
theorem aAR (p0:Int) (p1:Int):apU KK (.int .i64 p0) (.int .i64 p1) []=tm (t240 p0 p1) fun r=>(.ret (.int .u64 r),[]):=by
 simp +contextual -implicitDefEqProofs (maxSteps:=2000000) [-lQ,-lF,-k9,-k_,-lG,-lN,-lC,apU,t240,EV,aaF]
theorem ayM (p0:Int) (p1:Int) (h:kU):KK 240 [(.int .i64 p0),(.int .i64 p1)] h=tm (t240 p0 p1) fun r=>(.ret (.int .u64 r),h):=rY rfl rfl (ah2 ..) (aAR p0 p1)
noncomputable def aaG (mm:Nat) (aB:R):Option (nZ×kU) :=
 (fun aA aC=>Ex.nK aB.1 (mX mm aA aC)) (gd aB.2.1 0) aB.2.2
noncomputable def apV (K:lD) (a0:kS) (h0:kU):Option (nZ×kU) :=
 (bo .and a0 (.int .i64 31) fun aA=>some (.ret,[aA],h0)).bind (aaG (List.length h0))
theorem ah3 (K:lD) (a0:kS) (h0:kU):qA Tryd.prog nA mQ K 241 [a0] h0=apV (mP nA K) a0 h0:=by kernel_rfl
noncomputable def t241 (p0:Int):Option (Int) :=
 some (DU .i64 p0 31)
theorem aAS (p0:Int):apV KK (.int .i64 p0) []=tm (t241 p0) fun r=>(.ret (.int .i64 r),[]):=by
 simp +contextual -implicitDefEqProofs (maxSteps:=2000000) [-lQ,-lF,-k9,-k_,-lG,-lN,-lC,apV,t241,aaG]
theorem arV (p0:Int) (h:kU):KK 241 [(.int .i64 p0)] h=tm (t241 p0) fun r=>(.ret (.int .i64 r),h):=rY rfl rfl (ah3 ..) (aAS p0)
noncomputable def aaH (mm:Nat) (aB:R):Option (nZ×kU) :=
 (fun aA aC=>Ex.nK aB.1 (mX mm aA aC)) (gd aB.2.1 0) aB.2.2
noncomputable def apW (K:lD) (a0:kS) (h0:kU):Option (nZ×kU) :=
 (lP a0 (some (.ret,[(.int .i64 4294967295)],h0)) (some (.ret,[(.int .i64 0)],h0))).bind (aaH (List.length h0))
theorem ah4 (K:lD) (a0:kS) (h0:kU):qA Tryd.prog nA mQ K 242 [a0] h0=apW (mP nA K) a0 h0:=by kernel_rfl
noncomputable def t242 (p0:Bool):Option (Int) :=
 tc p0 (some 4294967295) (some 0)
theorem aAT (p0:Bool):apW KK (.bool p0) []=tm (t242 p0) fun r=>(.ret (.int .i64 r),[]):=by
 simp +contextual -implicitDefEqProofs (maxSteps:=2000000) [-lQ,-lF,-k9,-k_,-lG,-lN,-lC,apW,t242,aaH]
theorem ayN (p0:Bool) (h:kU):KK 242 [(.bool p0)] h=tm (t242 p0) fun r=>(.ret (.int .i64 r),h):=rY rfl rfl (ah4 ..) (aAT p0)
noncomputable def Z1 (mm:Nat) (aB:R):Option (nZ×kU) :=
 (fun aA aC=>Ex.nK aB.1 (mX mm aA aC)) (gd aB.2.1 0) aB.2.2
noncomputable def apF (K:lD) (a0 a1:kS) (h0:kU):Option (nZ×kU) :=
 (bo .add a0 a1 fun aB=>ca (K 201 [(kS.k8 aB)] h0) fun aC aA=>some (.ret,[aC],aA)).bind (Z1 (List.length h0))
theorem ahN (K:lD) (a0 a1:kS) (h0:kU):qA Tryd.prog nA mQ K 202 [a0,a1] h0=apF (mP nA K) a0 a1 h0:=by kernel_rfl
noncomputable def t202 (p0:Int) (p1:Int):Option (Int) :=
 tb ((t201 (IntKind.wrap .i64 (p0+p1)))) fun aA=>some aA
theorem aAC (p0:Int) (p1:Int):apF KK (.int .i64 p0) (.int .i64 p1) []=tm (t202 p0 p1) fun r=>(.ret (.int .i64 r),[]):=by
 simp +contextual -implicitDefEqProofs (maxSteps:=2000000) [-lQ,-lF,-k9,-k_,-lG,-lN,-lC,apF,t202,EV,Z1]
theorem uQ (p0:Int) (p1:Int) (h:kU):KK 202 [(.int .i64 p0),(.int .i64 p1)] h=tm (t202 p0 p1) fun r=>(.ret (.int .i64 r),h):=rY rfl rfl (ahN ..) (aAC p0 p1)
noncomputable def Z2 (mm:Nat) (aB:R):Option (nZ×kU) :=
 (fun aA aC=>Ex.nK aB.1 (mX mm aA aC)) (gd aB.2.1 0) aB.2.2
noncomputable def apG (K:lD) (a0 a1:kS) (h0:kU):Option (nZ×kU) :=
 (bo .sub a0 a1 fun aB=>ca (K 201 [(kS.k8 aB)] h0) fun aC aA=>some (.ret,[aC],aA)).bind (Z2 (List.length h0))
theorem ahO (K:lD) (a0 a1:kS) (h0:kU):qA Tryd.prog nA mQ K 203 [a0,a1] h0=apG (mP nA K) a0 a1 h0:=by kernel_rfl
noncomputable def t203 (p0:Int) (p1:Int):Option (Int) :=
 tb ((t201 (IntKind.wrap .i64 (p0 - p1)))) fun aA=>some aA
theorem aAD (p0:Int) (p1:Int):apG KK (.int .i64 p0) (.int .i64 p1) []=tm (t203 p0 p1) fun r=>(.ret (.int .i64 r),[]):=by
 simp +contextual -implicitDefEqProofs (maxSteps:=2000000) [-lQ,-lF,-k9,-k_,-lG,-lN,-lC,apG,t203,EV,Z2]
theorem Rj (p0:Int) (p1:Int) (h:kU):KK 203 [(.int .i64 p0),(.int .i64 p1)] h=tm (t203 p0 p1) fun r=>(.ret (.int .i64 r),h):=rY rfl rfl (ahO ..) (aAD p0 p1)
noncomputable def Z3 (mm:Nat) (aB:R):Option (nZ×kU) :=
 (fun aA aC=>Ex.nK aB.1 (mX mm aA aC)) (gd aB.2.1 0) aB.2.2
noncomputable def apH (K:lD) (a0 a1:kS) (h0:kU):Option (nZ×kU) :=
 (ca (K 240 [(kS.k8 a0),(kS.k8 a1)] h0) fun aB aA=>bo .and aB (.int .u64 4294967295) fun aC=>(rR .i64 aC).bind fun aD=>some (.ret,[aD],aA)).bind (Z3 (List.length h0))
theorem ahP (K:lD) (a0 a1:kS) (h0:kU):qA Tryd.prog nA mQ K 204 [a0,a1] h0=apH (mP nA K) a0 a1 h0:=by kernel_rfl
noncomputable def t204 (p0:Int) (p1:Int):Option (Int) :=
 tb ((t240 p0 p1)) fun aA=>some (IntKind.wrap .i64 (DU .u64 aA 4294967295))
theorem aAE (p0:Int) (p1:Int):apH KK (.int .i64 p0) (.int .i64 p1) []=tm (t204 p0 p1) fun r=>(.ret (.int .i64 r),[]):=by
 simp +contextual -implicitDefEqProofs (maxSteps:=2000000) [-lQ,-lF,-k9,-k_,-lG,-lN,-lC,apH,t204,ayM,Z3]
theorem aB3 (p0:Int) (p1:Int) (h:kU):KK 204 [(.int .i64 p0),(.int .i64 p1)] h=tm (t204 p0 p1) fun r=>(.ret (.int .i64 r),h):=rY rfl rfl (ahP ..) (aAE p0 p1)
noncomputable def Z4 (mm:Nat) (T8:R):Option (nZ×kU) :=
 (fun aA aB=>Ex.nK T8.1 (mX mm aA aB)) (gd T8.2.1 0) T8.2.2
noncomputable def apI (K:lD) (a0 a1:kS) (h0:kU):Option (nZ×kU) :=
 (ca (K 240 [(kS.k8 a0),(kS.k8 a1)] h0) fun aB aA=>bo .shr aB (.int .u64 32) fun aC=>(rR .i64 aC).bind fun aD=>some (.ret,[aD],aA)).bind (Z4 (List.length h0))
theorem ahQ (K:lD) (a0 a1:kS) (h0:kU):qA Tryd.prog nA mQ K 205 [a0,a1] h0=apI (mP nA K) a0 a1 h0:=by kernel_rfl
noncomputable def t205 (p0:Int) (p1:Int):Option (Int) :=
 tb ((t240 p0 p1)) fun aB=>tb ((Iw .u64 aB 32)) fun aA=>some (IntKind.wrap .i64 aA)
theorem aAF (p0:Int) (p1:Int):apI KK (.int .i64 p0) (.int .i64 p1) []=tm (t205 p0 p1) fun r=>(.ret (.int .i64 r),[]):=by
 simp +contextual -implicitDefEqProofs (maxSteps:=2000000) [-lQ,-lF,-k9,-k_,-lG,-lN,-lC,apI,t205,ayM,Z4]
theorem aB4 (p0:Int) (p1:Int) (h:kU):KK 205 [(.int .i64 p0),(.int .i64 p1)] h=tm (t205 p0 p1) fun r=>(.ret (.int .i64 r),h):=rY rfl rfl (ahQ ..) (aAF p0 p1)
noncomputable def Z5 (mm:Nat) (aB:R):Option (nZ×kU) :=
 (fun aA aC=>Ex.nK aB.1 (mX mm aA aC)) (gd aB.2.1 0) aB.2.2
noncomputable def apJ (K:lD) (a0 a1:kS) (h0:kU):Option (nZ×kU) :=
 (bo .and a0 a1 fun aB=>ca (K 201 [(kS.k8 aB)] h0) fun aC aA=>some (.ret,[aC],aA)).bind (Z5 (List.length h0))
theorem ahR (K:lD) (a0 a1:kS) (h0:kU):qA Tryd.prog nA mQ K 206 [a0,a1] h0=apJ (mP nA K) a0 a1 h0:=by kernel_rfl
noncomputable def t206 (p0:Int) (p1:Int):Option (Int) :=
 tb ((t201 (DU .i64 p0 p1))) fun aA=>some aA
theorem aAG (p0:Int) (p1:Int):apJ KK (.int .i64 p0) (.int .i64 p1) []=tm (t206 p0 p1) fun r=>(.ret (.int .i64 r),[]):=by
 simp +contextual -implicitDefEqProofs (maxSteps:=2000000) [-lQ,-lF,-k9,-k_,-lG,-lN,-lC,apJ,t206,EV,Z5]
theorem Lz (p0:Int) (p1:Int) (h:kU):KK 206 [(.int .i64 p0),(.int .i64 p1)] h=tm (t206 p0 p1) fun r=>(.ret (.int .i64 r),h):=rY rfl rfl (ahR ..) (aAG p0 p1)
noncomputable def Z6 (mm:Nat) (aB:R):Option (nZ×kU) :=
 (fun aA aC=>Ex.nK aB.1 (mX mm aA aC)) (gd aB.2.1 0) aB.2.2
noncomputable def apK (K:lD) (a0 a1:kS) (h0:kU):Option (nZ×kU) :=
 (bo .or a0 a1 fun aB=>ca (K 201 [(kS.k8 aB)] h0) fun aC aA=>some (.ret,[aC],aA)).bind (Z6 (List.length h0))
theorem ahS (K:lD) (a0 a1:kS) (h0:kU):qA Tryd.prog nA mQ K 207 [a0,a1] h0=apK (mP nA K) a0 a1 h0:=by kernel_rfl
noncomputable def t207 (p0:Int) (p1:Int):Option (Int) :=
 tb ((t201 (tor .i64 p0 p1))) fun aA=>some aA
theorem aAH (p0:Int) (p1:Int):apK KK (.int .i64 p0) (.int .i64 p1) []=tm (t207 p0 p1) fun r=>(.ret (.int .i64 r),[]):=by
 simp +contextual -implicitDefEqProofs (maxSteps:=2000000) [-lQ,-lF,-k9,-k_,-lG,-lN,-lC,apK,t207,EV,Z6]
theorem H_ (p0:Int) (p1:Int) (h:kU):KK 207 [(.int .i64 p0),(.int .i64 p1)] h=tm (t207 p0 p1) fun r=>(.ret (.int .i64 r),h):=rY rfl rfl (ahS ..) (aAH p0 p1)
noncomputable def Z7 (mm:Nat) (aB:R):Option (nZ×kU) :=
 (fun aA aC=>Ex.nK aB.1 (mX mm aA aC)) (gd aB.2.1 0) aB.2.2
noncomputable def apL (K:lD) (a0 a1:kS) (h0:kU):Option (nZ×kU) :=
 (bo .xor a0 a1 fun aB=>ca (K 201 [(kS.k8 aB)] h0) fun aC aA=>some (.ret,[aC],aA)).bind (Z7 (List.length h0))
theorem ahT (K:lD) (a0 a1:kS) (h0:kU):qA Tryd.prog nA mQ K 208 [a0,a1] h0=apL (mP nA K) a0 a1 h0:=by kernel_rfl
noncomputable def t208 (p0:Int) (p1:Int):Option (Int) :=
 tb ((t201 (atG .i64 p0 p1))) fun aA=>some aA
theorem aAI (p0:Int) (p1:Int):apL KK (.int .i64 p0) (.int .i64 p1) []=tm (t208 p0 p1) fun r=>(.ret (.int .i64 r),[]):=by
 simp +contextual -implicitDefEqProofs (maxSteps:=2000000) [-lQ,-lF,-k9,-k_,-lG,-lN,-lC,apL,t208,EV,Z7]
theorem aB5 (p0:Int) (p1:Int) (h:kU):KK 208 [(.int .i64 p0),(.int .i64 p1)] h=tm (t208 p0 p1) fun r=>(.ret (.int .i64 r),h):=rY rfl rfl (ahT ..) (aAI p0 p1)
noncomputable def Z8 (mm:Nat) (aB:R):Option (nZ×kU) :=
 (fun aA aC=>Ex.nK aB.1 (mX mm aA aC)) (gd aB.2.1 0) aB.2.2
noncomputable def apM (K:lD) (a0:kS) (h0:kU):Option (nZ×kU) :=
 ((xZ .xor a0).bind fun aB=>ca (K 201 [(kS.k8 aB)] h0) fun aC aA=>some (.ret,[aC],aA)).bind (Z8 (List.length h0))
theorem ahU (K:lD) (a0:kS) (h0:kU):qA Tryd.prog nA mQ K 209 [a0] h0=apM (mP nA K) a0 h0:=by kernel_rfl
noncomputable def t209 (p0:Int):Option (Int) :=
 tb ((t201 (azB .i64 p0))) fun aA=>some aA
theorem aAJ (p0:Int):apM KK (.int .i64 p0) []=tm (t209 p0) fun r=>(.ret (.int .i64 r),[]):=by
 simp +contextual -implicitDefEqProofs (maxSteps:=2000000) [-lQ,-lF,-k9,-k_,-lG,-lN,-lC,apM,t209,EV,Z8]
theorem FG (p0:Int) (h:kU):KK 209 [(.int .i64 p0)] h=tm (t209 p0) fun r=>(.ret (.int .i64 r),h):=rY rfl rfl (ahU ..) (aAJ p0)
noncomputable def Z9 (mm:Nat) (aB:R):Option (nZ×kU) :=
 (fun aA aC=>Ex.nK aB.1 (mX mm aA aC)) (gd aB.2.1 0) aB.2.2
noncomputable def apN (K:lD) (a0 a1:kS) (h0:kU):Option (nZ×kU) :=
 (ca (K 201 [(kS.k8 a0)] h0) fun aD aA=>ca (K 241 [(kS.k8 a1)] aA) fun aE aB=>bo .shl aD aE fun aF=>ca (K 201 [(kS.k8 aF)] aB) fun aG aC=>some (.ret,[aG],aC)).bind (Z9 (List.length h0))
theorem ahV (K:lD) (a0 a1:kS) (h0:kU):qA Tryd.prog nA mQ K 210 [a0,a1] h0=apN (mP nA K) a0 a1 h0:=by kernel_rfl
noncomputable def t210 (p0:Int) (p1:Int):Option (Int) :=
 tb ((t201 p0)) fun aB=>tb ((t241 p1)) fun aC=>tb ((RF .i64 aB aC)) fun aA=>tb ((t201 aA)) fun Ib=>some Ib
theorem aAK (p0:Int) (p1:Int):apN KK (.int .i64 p0) (.int .i64 p1) []=tm (t210 p0 p1) fun r=>(.ret (.int .i64 r),[]):=by
 simp +contextual -implicitDefEqProofs (maxSteps:=2000000) [-lQ,-lF,-k9,-k_,-lG,-lN,-lC,apN,t210,EV,arV,Z9]
theorem aB6 (p0:Int) (p1:Int) (h:kU):KK 210 [(.int .i64 p0),(.int .i64 p1)] h=tm (t210 p0 p1) fun r=>(.ret (.int .i64 r),h):=rY rfl rfl (ahV ..) (aAK p0 p1)
noncomputable def Z_ (mm:Nat) (aB:R):Option (nZ×kU) :=
 (fun aA aC=>Ex.nK aB.1 (mX mm aA aC)) (gd aB.2.1 0) aB.2.2
noncomputable def apO (K:lD) (a0 a1:kS) (h0:kU):Option (nZ×kU) :=
 (ca (K 201 [(kS.k8 a0)] h0) fun aC aA=>ca (K 241 [(kS.k8 a1)] aA) fun aD aB=>bo .shr aC aD fun aE=>some (.ret,[aE],aB)).bind (Z_ (List.length h0))
theorem ahW (K:lD) (a0 a1:kS) (h0:kU):qA Tryd.prog nA mQ K 211 [a0,a1] h0=apO (mP nA K) a0 a1 h0:=by kernel_rfl
noncomputable def t211 (p0:Int) (p1:Int):Option (Int) :=
 tb ((t201 p0)) fun aB=>tb ((t241 p1)) fun aC=>tb ((Iw .i64 aB aC)) fun aA=>some aA
theorem aAL (p0:Int) (p1:Int):apO KK (.int .i64 p0) (.int .i64 p1) []=tm (t211 p0 p1) fun r=>(.ret (.int .i64 r),[]):=by
 simp +contextual -implicitDefEqProofs (maxSteps:=2000000) [-lQ,-lF,-k9,-k_,-lG,-lN,-lC,apO,t211,EV,arV,Z_]
theorem Xq (p0:Int) (p1:Int) (h:kU):KK 211 [(.int .i64 p0),(.int .i64 p1)] h=tm (t211 p0 p1) fun r=>(.ret (.int .i64 r),h):=rY rfl rfl (ahW ..) (aAL p0 p1)
noncomputable def aaA (mm:Nat) (aB:R):Option (nZ×kU) :=
 (fun aA aC=>Ex.nK aB.1 (mX mm aA aC)) (gd aB.2.1 0) aB.2.2
noncomputable def apP (K:lD) (a0 a1:kS) (h0:kU):Option (nZ×kU) :=
 (ca (K 211 [(kS.k8 a0),(kS.k8 a1)] h0) fun aF aA=>ca (K 201 [(kS.k8 a0)] aA) fun aG aB=>ca (K 241 [(kS.k8 a1)] aB) fun aH aC=>bo .sub (.int .i64 32) aH fun aI=>bo .shl aG aI fun t30=>ca (K 201 [(kS.k8 t30)] aC) fun aJ aD=>ca (K 207 [(kS.k8 aF),(kS.k8 aJ)] aD) fun aK aE=>some (.ret,[aK],aE)).bind (aaA (List.length h0))
theorem ahX (K:lD) (a0 a1:kS) (h0:kU):qA Tryd.prog nA mQ K 212 [a0,a1] h0=apP (mP nA K) a0 a1 h0:=by kernel_rfl
noncomputable def t212 (p0:Int) (p1:Int):Option (Int) :=
 tb ((t211 p0 p1)) fun aB=>tb ((t201 p0)) fun aC=>tb ((t241 p1)) fun aD=>tb ((RF .i64 aC (IntKind.wrap .i64 (32 - aD)))) fun aA=>tb ((t201 aA)) fun aE=>tb ((t207 aB aE)) fun aF=>some aF
theorem aAM (p0:Int) (p1:Int):apP KK (.int .i64 p0) (.int .i64 p1) []=tm (t212 p0 p1) fun r=>(.ret (.int .i64 r),[]):=by
 simp +contextual -implicitDefEqProofs (maxSteps:=2000000) [-lQ,-lF,-k9,-k_,-lG,-lN,-lC,apP,t212,Xq,EV,arV,H_,aaA]
theorem MA (p0:Int) (p1:Int) (h:kU):KK 212 [(.int .i64 p0),(.int .i64 p1)] h=tm (t212 p0 p1) fun r=>(.ret (.int .i64 r),h):=rY rfl rfl (ahX ..) (aAM p0 p1)
noncomputable def aaB (mm:Nat) (Ib:R):Option (nZ×kU) :=
 (fun aA aB=>Ex.nK Ib.1 (mX mm aA aB)) (gd Ib.2.1 0) Ib.2.2
noncomputable def apQ (K:lD) (a0 a1:kS) (h0:kU):Option (nZ×kU) :=
 (ca (K 201 [(kS.k8 a0)] h0) fun aD aA=>ca (K 201 [(kS.k8 a1)] aA) fun aE aB=>bo .lss aD aE fun aF=>ca (K 242 [(kS.k8 aF)] aB) fun t27 aC=>some (.ret,[t27],aC)).bind (aaB (List.length h0))
theorem ahY (K:lD) (a0 a1:kS) (h0:kU):qA Tryd.prog nA mQ K 213 [a0,a1] h0=apQ (mP nA K) a0 a1 h0:=by kernel_rfl
noncomputable def t213 (p0:Int) (p1:Int):Option (Int) :=
 tb ((t201 p0)) fun aA=>tb ((t201 p1)) fun aB=>tb ((t242 (decide (aA < aB)))) fun aC=>some aC
theorem aAN (p0:Int) (p1:Int):apQ KK (.int .i64 p0) (.int .i64 p1) []=tm (t213 p0 p1) fun r=>(.ret (.int .i64 r),[]):=by
 simp +contextual -implicitDefEqProofs (maxSteps:=2000000) [-lQ,-lF,-k9,-k_,-lG,-lN,-lC,apQ,t213,EV,ayN,aaB]
theorem aB7 (p0:Int) (p1:Int) (h:kU):KK 213 [(.int .i64 p0),(.int .i64 p1)] h=tm (t213 p0 p1) fun r=>(.ret (.int .i64 r),h):=rY rfl rfl (ahY ..) (aAN p0 p1)
noncomputable def aaC (mm:Nat) (Ib:R):Option (nZ×kU) :=
 (fun aA aB=>Ex.nK Ib.1 (mX mm aA aB)) (gd Ib.2.1 0) Ib.2.2
noncomputable def apR (K:lD) (a0 a1:kS) (h0:kU):Option (nZ×kU) :=
 (ca (K 201 [(kS.k8 a0)] h0) fun aD aA=>ca (K 201 [(kS.k8 a1)] aA) fun aE aB=>bo .eql aD aE fun aF=>ca (K 242 [(kS.k8 aF)] aB) fun t27 aC=>some (.ret,[t27],aC)).bind (aaC (List.length h0))
theorem ahZ (K:lD) (a0 a1:kS) (h0:kU):qA Tryd.prog nA mQ K 214 [a0,a1] h0=apR (mP nA K) a0 a1 h0:=by kernel_rfl
noncomputable def t214 (p0:Int) (p1:Int):Option (Int) :=
 tb ((t201 p0)) fun aA=>tb ((t201 p1)) fun aB=>tb ((t242 (decide (aA=aB)))) fun aC=>some aC
theorem aAO (p0:Int) (p1:Int):apR KK (.int .i64 p0) (.int .i64 p1) []=tm (t214 p0 p1) fun r=>(.ret (.int .i64 r),[]):=by
 simp +contextual -implicitDefEqProofs (maxSteps:=2000000) [-lQ,-lF,-k9,-k_,-lG,-lN,-lC,apR,t214,EV,ayN,aaC]
theorem aB8 (p0:Int) (p1:Int) (h:kU):KK 214 [(.int .i64 p0),(.int .i64 p1)] h=tm (t214 p0 p1) fun r=>(.ret (.int .i64 r),h):=rY rfl rfl (ahZ ..) (aAO p0 p1)
noncomputable def aaD (mm:Nat) (aB:R):Option (nZ×kU) :=
 (fun aA aC=>Ex.nK aB.1 (mX mm aA aC)) (gd aB.2.1 0) aB.2.2
noncomputable def apS (K:lD) (a0 a1:kS) (h0:kU):Option (nZ×kU) :=
 (ca (K 201 [(kS.k8 a0)] h0) fun aC aA=>ca (K 201 [(kS.k8 a1)] aA) fun aD aB=>bo .add aC aD fun aE=>bo .shr aE (.int .u64 32) fun t27=>some (.ret,[t27],aB)).bind (aaD (List.length h0))
theorem ah0 (K:lD) (a0 a1:kS) (h0:kU):qA Tryd.prog nA mQ K 215 [a0,a1] h0=apS (mP nA K) a0 a1 h0:=by kernel_rfl
noncomputable def t215 (p0:Int) (p1:Int):Option (Int) :=
 tb ((t201 p0)) fun aB=>tb ((t201 p1)) fun aC=>tb ((Iw .i64 (IntKind.wrap .i64 (aB+aC)) 32)) fun aA=>some aA
theorem aAP (p0:Int) (p1:Int):apS KK (.int .i64 p0) (.int .i64 p1) []=tm (t215 p0 p1) fun r=>(.ret (.int .i64 r),[]):=by
 simp +contextual -implicitDefEqProofs (maxSteps:=2000000) [-lQ,-lF,-k9,-k_,-lG,-lN,-lC,apS,t215,EV,aaD]
theorem Ia (p0:Int) (p1:Int) (h:kU):KK 215 [(.int .i64 p0),(.int .i64 p1)] h=tm (t215 p0 p1) fun r=>(.ret (.int .i64 r),h):=rY rfl rfl (ah0 ..) (aAP p0 p1)
noncomputable def aaE (mm:Nat) (aB:R):Option (nZ×kU) :=
 (fun aA aC=>Ex.nK aB.1 (mX mm aA aC)) (gd aB.2.1 0) aB.2.2
noncomputable def apT (K:lD) (a0 a1 a2:kS) (h0:kU):Option (nZ×kU) :=
 (bo .and a1 a0 fun aB=>bo .andNot a2 a0 fun aC=>ca (K 207 [(kS.k8 aB),(kS.k8 aC)] h0) fun aD aA=>some (.ret,[aD],aA)).bind (aaE (List.length h0))
theorem ah1 (K:lD) (a0 a1 a2:kS) (h0:kU):qA Tryd.prog nA mQ K 216 [a0,a1,a2] h0=apT (mP nA K) a0 a1 a2 h0:=by kernel_rfl
noncomputable def t216 (p0:Int) (p1:Int) (p2:Int):Option (Int) :=
 tb ((t207 (DU .i64 p1 p0) (adA .i64 p2 p0))) fun aA=>some aA
theorem aAQ (p0:Int) (p1:Int) (p2:Int):apT KK (.int .i64 p0) (.int .i64 p1) (.int .i64 p2) []=tm (t216 p0 p1 p2) fun r=>(.ret (.int .i64 r),[]):=by
 simp +contextual -implicitDefEqProofs (maxSteps:=2000000) [-lQ,-lF,-k9,-k_,-lG,-lN,-lC,apT,t216,H_,aaE]
theorem arU (p0:Int) (p1:Int) (p2:Int) (h:kU):KK 216 [(.int .i64 p0),(.int .i64 p1),(.int .i64 p2)] h=tm (t216 p0 p1 p2) fun r=>(.ret (.int .i64 r),h):=rY rfl rfl (ah1 ..) (aAQ p0 p1 p2)
noncomputable def ZW (mm:Nat) (aA:R):Option (nZ×kU) :=
 (fun aB aC aD=>Ex.nK aA.1 (mX mm (.tuple [aB,aC]) aD)) (gd aA.2.1 0) (gd aA.2.1 1) aA.2.2
noncomputable def KW (K:lD) (m:Nat) (aD:kS) (a1:kS) (a2:kS) (aC:kU) (aH:kS) (a3:kS):Option R :=
 lP aD (ca (K 215 [(kS.k8 a1),(kS.k8 a2)] aC) fun aE aA=>lJ m .normal [(.int .i64 0),(.bool false),aE] aA) (bo .eql aH (.int .i64 17) fun aF=>lP aF (ca (K 216 [(kS.k8 a3),(kS.k8 a1),(kS.k8 a2)] aC) fun aG aB=>lJ m .normal [(.int .i64 0),(.bool false),aG] aB) (lJ m .ret [(.int .i64 0),(.bool false),(.int .i64 0)] aC))
noncomputable def p9 (aC:Bool) (p1:Int) (p2:Int) (p0:Op) (p3:Int):Option (Ey×Int) :=
 tc aC (tb ((t215 p1 p2)) fun aA=>some (.n,aA)) (tc (decide (p0.kind=17)) (tb ((t216 p3 p1 p2)) fun aB=>some (.n,aB)) (some (.r,0)))
theorem ab6 (w108:Bool) (p1:Int) (p2:Int) (p0:Op) (p3:Int):(KW KK 1 (.bool w108) (.int .i64 p1) (.int .i64 p2) ([.cells [(.int .i64 p0.kind),(.int .i64 p0.dst),(.int .i64 p0.a),(.int .i64 p0.b),(.int .i64 p0.c),(.int .i64 p0.imm)]]:kU) (.int .i64 p0.kind) (.int .i64 p3))=tm (p9 w108 p1 p2 p0 p3) fun r=>(r.1.ex,[(.int .i64 0),(.bool false),(.int .i64 r.2)],([.cells [(.int .i64 p0.kind),(.int .i64 p0.dst),(.int .i64 p0.a),(.int .i64 p0.b),(.int .i64 p0.c),(.int .i64 p0.imm)]]:kU)):=by
 simp +contextual -implicitDefEqProofs (maxSteps:=2000000) [-lQ,-lF,-k9,-k_,-lG,-lN,-lC,KW,p9,Ia,arU]
noncomputable def KV (K:lD) (m:Nat) (aH:kS) (a1:kS) (a2:kS) (aG:kU) (aK:kS) (a3:kS):Option R :=
 lP aH (ca (K 214 [(kS.k8 a1),(kS.k8 a2)] aG) fun aI aF=>lJ m .normal [(.int .i64 0),(.bool false),aI] aF) (bo .eql aK (.int .i64 16) fun aJ=>(KW K (List.length aG) aJ a1 a2 aG aK a3).bind fun aB=>(fun aC aD aA aE=>Ex.mC aB.1 (lJ m .normal [aC,aD,aA] aE) (fun Gk=>lJ m Gk [aC,aD,aA] aE)) (gd aB.2.1 0) (gd aB.2.1 1) (gd aB.2.1 2) aB.2.2)
noncomputable def p8 (aC:Bool) (p1:Int) (p2:Int) (p0:Op) (p3:Int):Option (Ey×Int) :=
 tc aC (tb ((t214 p1 p2)) fun aB=>some (.n,aB)) (tb (p9 (decide (p0.kind=16)) p1 p2 p0 p3) fun aA=>uF aA.1 (some (.n,aA.2)) fun Gk=>some (Gk,aA.2))
theorem ab5 (w103:Bool) (p1:Int) (p2:Int) (p0:Op) (p3:Int):(KV KK 1 (.bool w103) (.int .i64 p1) (.int .i64 p2) ([.cells [(.int .i64 p0.kind),(.int .i64 p0.dst),(.int .i64 p0.a),(.int .i64 p0.b),(.int .i64 p0.c),(.int .i64 p0.imm)]]:kU) (.int .i64 p0.kind) (.int .i64 p3))=tm (p8 w103 p1 p2 p0 p3) fun r=>(r.1.ex,[(.int .i64 0),(.bool false),(.int .i64 r.2)],([.cells [(.int .i64 p0.kind),(.int .i64 p0.dst),(.int .i64 p0.a),(.int .i64 p0.b),(.int .i64 p0.c),(.int .i64 p0.imm)]]:kU)):=by
 simp +contextual -implicitDefEqProofs (maxSteps:=2000000) [-lQ,-lF,-k9,-k_,-lG,-lN,-lC,KV,p8,aB8,ab6]
noncomputable def KU (K:lD) (m:Nat) (t97:kS) (a1:kS) (a2:kS) (aH:kU) (aJ:kS) (a3:kS):Option R :=
 lP t97 (ca (K 213 [(kS.k8 a1),(kS.k8 a2)] aH) fun t99 aG=>lJ m .normal [(.int .i64 0),(.bool false),t99] aG) (bo .eql aJ (.int .i64 15) fun aI=>(KV K (List.length aH) aI a1 a2 aH aJ a3).bind fun aB=>(fun aC aD aA aE=>Ex.mC aB.1 (lJ m .normal [aC,aD,aA] aE) (fun aF=>lJ m aF [aC,aD,aA] aE)) (gd aB.2.1 0) (gd aB.2.1 1) (gd aB.2.1 2) aB.2.2)
noncomputable def p7 (aC:Bool) (p1:Int) (p2:Int) (p0:Op) (p3:Int):Option (Ey×Int) :=
 tc aC (tb ((t213 p1 p2)) fun Bw=>some (.n,Bw)) (tb (p8 (decide (p0.kind=15)) p1 p2 p0 p3) fun aA=>uF aA.1 (some (.n,aA.2)) fun aB=>some (aB,aA.2))
theorem ab4 (w98:Bool) (p1:Int) (p2:Int) (p0:Op) (p3:Int):(KU KK 1 (.bool w98) (.int .i64 p1) (.int .i64 p2) ([.cells [(.int .i64 p0.kind),(.int .i64 p0.dst),(.int .i64 p0.a),(.int .i64 p0.b),(.int .i64 p0.c),(.int .i64 p0.imm)]]:kU) (.int .i64 p0.kind) (.int .i64 p3))=tm (p7 w98 p1 p2 p0 p3) fun r=>(r.1.ex,[(.int .i64 0),(.bool false),(.int .i64 r.2)],([.cells [(.int .i64 p0.kind),(.int .i64 p0.dst),(.int .i64 p0.a),(.int .i64 p0.b),(.int .i64 p0.c),(.int .i64 p0.imm)]]:kU)):=by
 simp +contextual -implicitDefEqProofs (maxSteps:=2000000) [-lQ,-lF,-k9,-k_,-lG,-lN,-lC,KU,p7,aB7,ab5]
noncomputable def KT (K:lD) (m:Nat) (aK:kS) (aJ:kS) (aF:kU) (a1:kS) (aH:kS) (a2:kS) (a3:kS):Option R :=
 lP aK (fa 5 aJ fun aL=>ld false 1 aF aL fun aM=>ca (K 212 [(kS.k8 a1),(kS.k8 aM)] aF) fun aN aI=>lJ m .normal [(.int .i64 0),(.bool false),aN] aI) (bo .eql aH (.int .i64 14) fun t97=>(KU K (List.length aF) t97 a1 a2 aF aH a3).bind fun aB=>(fun aC aD aA aE=>Ex.mC aB.1 (lJ m .normal [aC,aD,aA] aE) (fun aG=>lJ m aG [aC,aD,aA] aE)) (gd aB.2.1 0) (gd aB.2.1 1) (gd aB.2.1 2) aB.2.2)
noncomputable def p6 (aD:Bool) (p0:Op) (p1:Int) (p2:Int) (p3:Int):Option (Ey×Int) :=
 tc aD (tb ((t212 p1 p0.imm)) fun aC=>some (.n,aC)) (tb (p7 (decide (p0.kind=14)) p1 p2 p0 p3) fun aA=>uF aA.1 (some (.n,aA.2)) fun aB=>some (aB,aA.2))
theorem ab3 (w91:Bool) (p0:Op) (p1:Int) (p2:Int) (p3:Int):(KT KK 1 (.bool w91) (.ptr 0 0) ([.cells [(.int .i64 p0.kind),(.int .i64 p0.dst),(.int .i64 p0.a),(.int .i64 p0.b),(.int .i64 p0.c),(.int .i64 p0.imm)]]:kU) (.int .i64 p1) (.int .i64 p0.kind) (.int .i64 p2) (.int .i64 p3))=tm (p6 w91 p0 p1 p2 p3) fun r=>(r.1.ex,[(.int .i64 0),(.bool false),(.int .i64 r.2)],([.cells [(.int .i64 p0.kind),(.int .i64 p0.dst),(.int .i64 p0.a),(.int .i64 p0.b),(.int .i64 p0.c),(.int .i64 p0.imm)]]:kU)):=by
 simp +contextual -implicitDefEqProofs (maxSteps:=2000000) [-lQ,-lF,-k9,-k_,-lG,-lN,-lC,KT,p6,MA,ab4]
noncomputable def KS (K:lD) (m:Nat) (t83:kS) (aH:kS) (aF:kU) (a1:kS) (aI:kS) (a2:kS) (a3:kS):Option R :=
 lP t83 (fa 5 aH fun aK=>ld false 1 aF aK fun aL=>ca (K 211 [(kS.k8 a1),(kS.k8 aL)] aF) fun aM aJ=>lJ m .normal [(.int .i64 0),(.bool false),aM] aJ) (bo .eql aI (.int .i64 13) fun aN=>(KT K (List.length aF) aN aH aF a1 aI a2 a3).bind fun aB=>(fun aC aD aA aE=>Ex.mC aB.1 (lJ m .normal [aC,aD,aA] aE) (fun aG=>lJ m aG [aC,aD,aA] aE)) (gd aB.2.1 0) (gd aB.2.1 1) (gd aB.2.1 2) aB.2.2)
noncomputable def p5 (aD:Bool) (p0:Op) (p1:Int) (p2:Int) (p3:Int):Option (Ey×Int) :=
 tc aD (tb ((t211 p1 p0.imm)) fun aC=>some (.n,aC)) (tb (p6 (decide (p0.kind=13)) p0 p1 p2 p3) fun aA=>uF aA.1 (some (.n,aA.2)) fun aB=>some (aB,aA.2))
theorem ab2 (w84:Bool) (p0:Op) (p1:Int) (p2:Int) (p3:Int):(KS KK 1 (.bool w84) (.ptr 0 0) ([.cells [(.int .i64 p0.kind),(.int .i64 p0.dst),(.int .i64 p0.a),(.int .i64 p0.b),(.int .i64 p0.c),(.int .i64 p0.imm)]]:kU) (.int .i64 p1) (.int .i64 p0.kind) (.int .i64 p2) (.int .i64 p3))=tm (p5 w84 p0 p1 p2 p3) fun r=>(r.1.ex,[(.int .i64 0),(.bool false),(.int .i64 r.2)],([.cells [(.int .i64 p0.kind),(.int .i64 p0.dst),(.int .i64 p0.a),(.int .i64 p0.b),(.int .i64 p0.c),(.int .i64 p0.imm)]]:kU)):=by
 simp +contextual -implicitDefEqProofs (maxSteps:=2000000) [-lQ,-lF,-k9,-k_,-lG,-lN,-lC,KS,p5,Xq,ab3]
noncomputable def KR (K:lD) (m:Nat) (aK:kS) (aH:kS) (aF:kU) (a1:kS) (aI:kS) (a2:kS) (a3:kS):Option R :=
 lP aK (fa 5 aH fun aL=>ld false 1 aF aL fun aM=>ca (K 210 [(kS.k8 a1),(kS.k8 aM)] aF) fun aN aJ=>lJ m .normal [(.int .i64 0),(.bool false),aN] aJ) (bo .eql aI (.int .i64 12) fun t83=>(KS K (List.length aF) t83 aH aF a1 aI a2 a3).bind fun aB=>(fun aC aD aA aE=>Ex.mC aB.1 (lJ m .normal [aC,aD,aA] aE) (fun aG=>lJ m aG [aC,aD,aA] aE)) (gd aB.2.1 0) (gd aB.2.1 1) (gd aB.2.1 2) aB.2.2)
noncomputable def pZ (aD:Bool) (p0:Op) (p1:Int) (p2:Int) (p3:Int):Option (Ey×Int) :=
 tc aD (tb ((t210 p1 p0.imm)) fun aC=>some (.n,aC)) (tb (p5 (decide (p0.kind=12)) p0 p1 p2 p3) fun aA=>uF aA.1 (some (.n,aA.2)) fun aB=>some (aB,aA.2))
theorem ab1 (w77:Bool) (p0:Op) (p1:Int) (p2:Int) (p3:Int):(KR KK 1 (.bool w77) (.ptr 0 0) ([.cells [(.int .i64 p0.kind),(.int .i64 p0.dst),(.int .i64 p0.a),(.int .i64 p0.b),(.int .i64 p0.c),(.int .i64 p0.imm)]]:kU) (.int .i64 p1) (.int .i64 p0.kind) (.int .i64 p2) (.int .i64 p3))=tm (pZ w77 p0 p1 p2 p3) fun r=>(r.1.ex,[(.int .i64 0),(.bool false),(.int .i64 r.2)],([.cells [(.int .i64 p0.kind),(.int .i64 p0.dst),(.int .i64 p0.a),(.int .i64 p0.b),(.int .i64 p0.c),(.int .i64 p0.imm)]]:kU)):=by
 simp +contextual -implicitDefEqProofs (maxSteps:=2000000) [-lQ,-lF,-k9,-k_,-lG,-lN,-lC,KR,pZ,aB6,ab2]
noncomputable def KQ (K:lD) (m:Nat) (aK:kS) (a1:kS) (aG:kU) (aH:kS) (aJ:kS) (a2:kS) (a3:kS):Option R :=
 lP aK (ca (K 209 [(kS.k8 a1)] aG) fun t73 aI=>lJ m .normal [(.int .i64 0),(.bool false),t73] aI) (bo .eql aH (.int .i64 11) fun aL=>(KR K (List.length aG) aL aJ aG a1 aH a2 a3).bind fun aB=>(fun aC aD aA aE=>Ex.mC aB.1 (lJ m .normal [aC,aD,aA] aE) (fun aF=>lJ m aF [aC,aD,aA] aE)) (gd aB.2.1 0) (gd aB.2.1 1) (gd aB.2.1 2) aB.2.2)
noncomputable def pY (aD:Bool) (p1:Int) (p0:Op) (p2:Int) (p3:Int):Option (Ey×Int) :=
 tc aD (tb ((t209 p1)) fun aC=>some (.n,aC)) (tb (pZ (decide (p0.kind=11)) p0 p1 p2 p3) fun aA=>uF aA.1 (some (.n,aA.2)) fun aB=>some (aB,aA.2))
theorem ab0 (w72:Bool) (p1:Int) (p0:Op) (p2:Int) (p3:Int):(KQ KK 1 (.bool w72) (.int .i64 p1) ([.cells [(.int .i64 p0.kind),(.int .i64 p0.dst),(.int .i64 p0.a),(.int .i64 p0.b),(.int .i64 p0.c),(.int .i64 p0.imm)]]:kU) (.int .i64 p0.kind) (.ptr 0 0) (.int .i64 p2) (.int .i64 p3))=tm (pY w72 p1 p0 p2 p3) fun r=>(r.1.ex,[(.int .i64 0),(.bool false),(.int .i64 r.2)],([.cells [(.int .i64 p0.kind),(.int .i64 p0.dst),(.int .i64 p0.a),(.int .i64 p0.b),(.int .i64 p0.c),(.int .i64 p0.imm)]]:kU)):=by
 simp +contextual -implicitDefEqProofs (maxSteps:=2000000) [-lQ,-lF,-k9,-k_,-lG,-lN,-lC,KQ,pY,FG,ab1]
noncomputable def OL (K:lD) (m:Nat) (aK:kS) (a1:kS) (a2:kS) (aG:kU) (aH:kS) (aJ:kS) (a3:kS):Option R :=
 lP aK (ca (K 208 [(kS.k8 a1),(kS.k8 a2)] aG) fun aL aI=>lJ m .normal [(.int .i64 0),(.bool false),aL] aI) (bo .eql aH (.int .i64 10) fun aM=>(KQ K (List.length aG) aM a1 aG aH aJ a2 a3).bind fun aB=>(fun aC aD aA aE=>Ex.mC aB.1 (lJ m .normal [aC,aD,aA] aE) (fun aF=>lJ m aF [aC,aD,aA] aE)) (gd aB.2.1 0) (gd aB.2.1 1) (gd aB.2.1 2) aB.2.2)
noncomputable def rC (aD:Bool) (p1:Int) (p2:Int) (p0:Op) (p3:Int):Option (Ey×Int) :=
 tc aD (tb ((t208 p1 p2)) fun aC=>some (.n,aC)) (tb (pY (decide (p0.kind=10)) p1 p0 p2 p3) fun aA=>uF aA.1 (some (.n,aA.2)) fun aB=>some (aB,aA.2))
theorem aiU (w67:Bool) (p1:Int) (p2:Int) (p0:Op) (p3:Int):(OL KK 1 (.bool w67) (.int .i64 p1) (.int .i64 p2) ([.cells [(.int .i64 p0.kind),(.int .i64 p0.dst),(.int .i64 p0.a),(.int .i64 p0.b),(.int .i64 p0.c),(.int .i64 p0.imm)]]:kU) (.int .i64 p0.kind) (.ptr 0 0) (.int .i64 p3))=tm (rC w67 p1 p2 p0 p3) fun r=>(r.1.ex,[(.int .i64 0),(.bool false),(.int .i64 r.2)],([.cells [(.int .i64 p0.kind),(.int .i64 p0.dst),(.int .i64 p0.a),(.int .i64 p0.b),(.int .i64 p0.c),(.int .i64 p0.imm)]]:kU)):=by
 simp +contextual -implicitDefEqProofs (maxSteps:=2000000) [-lQ,-lF,-k9,-k_,-lG,-lN,-lC,OL,rC,aB5,ab0]
noncomputable def OK (K:lD) (m:Nat) (aK:kS) (a1:kS) (a2:kS) (aG:kU) (aH:kS) (aJ:kS) (a3:kS):Option R :=
 lP aK (ca (K 207 [(kS.k8 a1),(kS.k8 a2)] aG) fun aL aI=>lJ m .normal [(.int .i64 0),(.bool false),aL] aI) (bo .eql aH (.int .i64 9) fun aM=>(OL K (List.length aG) aM a1 a2 aG aH aJ a3).bind fun aB=>(fun aC aD aA aE=>Ex.mC aB.1 (lJ m .normal [aC,aD,aA] aE) (fun aF=>lJ m aF [aC,aD,aA] aE)) (gd aB.2.1 0) (gd aB.2.1 1) (gd aB.2.1 2) aB.2.2)
noncomputable def rB (aD:Bool) (p1:Int) (p2:Int) (p0:Op) (p3:Int):Option (Ey×Int) :=
 tc aD (tb ((t207 p1 p2)) fun aC=>some (.n,aC)) (tb (rC (decide (p0.kind=9)) p1 p2 p0 p3) fun aA=>uF aA.1 (some (.n,aA.2)) fun aB=>some (aB,aA.2))
theorem aiT (w62:Bool) (p1:Int) (p2:Int) (p0:Op) (p3:Int):(OK KK 1 (.bool w62) (.int .i64 p1) (.int .i64 p2) ([.cells [(.int .i64 p0.kind),(.int .i64 p0.dst),(.int .i64 p0.a),(.int .i64 p0.b),(.int .i64 p0.c),(.int .i64 p0.imm)]]:kU) (.int .i64 p0.kind) (.ptr 0 0) (.int .i64 p3))=tm (rB w62 p1 p2 p0 p3) fun r=>(r.1.ex,[(.int .i64 0),(.bool false),(.int .i64 r.2)],([.cells [(.int .i64 p0.kind),(.int .i64 p0.dst),(.int .i64 p0.a),(.int .i64 p0.b),(.int .i64 p0.c),(.int .i64 p0.imm)]]:kU)):=by
 simp +contextual -implicitDefEqProofs (maxSteps:=2000000) [-lQ,-lF,-k9,-k_,-lG,-lN,-lC,OK,rB,H_,aiU]
noncomputable def OJ (K:lD) (m:Nat) (aK:kS) (a1:kS) (a2:kS) (aG:kU) (aH:kS) (aJ:kS) (a3:kS):Option R :=
 lP aK (ca (K 206 [(kS.k8 a1),(kS.k8 a2)] aG) fun aL aI=>lJ m .normal [(.int .i64 0),(.bool false),aL] aI) (bo .eql aH (.int .i64 8) fun aM=>(OK K (List.length aG) aM a1 a2 aG aH aJ a3).bind fun aB=>(fun aC aD aA aE=>Ex.mC aB.1 (lJ m .normal [aC,aD,aA] aE) (fun aF=>lJ m aF [aC,aD,aA] aE)) (gd aB.2.1 0) (gd aB.2.1 1) (gd aB.2.1 2) aB.2.2)
noncomputable def rA (aD:Bool) (p1:Int) (p2:Int) (p0:Op) (p3:Int):Option (Ey×Int) :=
 tc aD (tb ((t206 p1 p2)) fun aC=>some (.n,aC)) (tb (rB (decide (p0.kind=8)) p1 p2 p0 p3) fun aA=>uF aA.1 (some (.n,aA.2)) fun aB=>some (aB,aA.2))
theorem aiS (w57:Bool) (p1:Int) (p2:Int) (p0:Op) (p3:Int):(OJ KK 1 (.bool w57) (.int .i64 p1) (.int .i64 p2) ([.cells [(.int .i64 p0.kind),(.int .i64 p0.dst),(.int .i64 p0.a),(.int .i64 p0.b),(.int .i64 p0.c),(.int .i64 p0.imm)]]:kU) (.int .i64 p0.kind) (.ptr 0 0) (.int .i64 p3))=tm (rA w57 p1 p2 p0 p3) fun r=>(r.1.ex,[(.int .i64 0),(.bool false),(.int .i64 r.2)],([.cells [(.int .i64 p0.kind),(.int .i64 p0.dst),(.int .i64 p0.a),(.int .i64 p0.b),(.int .i64 p0.c),(.int .i64 p0.imm)]]:kU)):=by
 simp +contextual -implicitDefEqProofs (maxSteps:=2000000) [-lQ,-lF,-k9,-k_,-lG,-lN,-lC,OJ,rA,Lz,aiT]
noncomputable def OI (K:lD) (m:Nat) (aK:kS) (a1:kS) (a2:kS) (aG:kU) (aH:kS) (aJ:kS) (a3:kS):Option R :=
 lP aK (ca (K 205 [(kS.k8 a1),(kS.k8 a2)] aG) fun aL aI=>lJ m .normal [(.int .i64 0),(.bool false),aL] aI) (bo .eql aH (.int .i64 7) fun aM=>(OJ K (List.length aG) aM a1 a2 aG aH aJ a3).bind fun aB=>(fun aC aD aA aE=>Ex.mC aB.1 (lJ m .normal [aC,aD,aA] aE) (fun aF=>lJ m aF [aC,aD,aA] aE)) (gd aB.2.1 0) (gd aB.2.1 1) (gd aB.2.1 2) aB.2.2)
noncomputable def q_ (aD:Bool) (p1:Int) (p2:Int) (p0:Op) (p3:Int):Option (Ey×Int) :=
 tc aD (tb ((t205 p1 p2)) fun aC=>some (.n,aC)) (tb (rA (decide (p0.kind=7)) p1 p2 p0 p3) fun aA=>uF aA.1 (some (.n,aA.2)) fun aB=>some (aB,aA.2))
theorem aiR (w52:Bool) (p1:Int) (p2:Int) (p0:Op) (p3:Int):(OI KK 1 (.bool w52) (.int .i64 p1) (.int .i64 p2) ([.cells [(.int .i64 p0.kind),(.int .i64 p0.dst),(.int .i64 p0.a),(.int .i64 p0.b),(.int .i64 p0.c),(.int .i64 p0.imm)]]:kU) (.int .i64 p0.kind) (.ptr 0 0) (.int .i64 p3))=tm (q_ w52 p1 p2 p0 p3) fun r=>(r.1.ex,[(.int .i64 0),(.bool false),(.int .i64 r.2)],([.cells [(.int .i64 p0.kind),(.int .i64 p0.dst),(.int .i64 p0.a),(.int .i64 p0.b),(.int .i64 p0.c),(.int .i64 p0.imm)]]:kU)):=by
 simp +contextual -implicitDefEqProofs (maxSteps:=2000000) [-lQ,-lF,-k9,-k_,-lG,-lN,-lC,OI,q_,aB4,aiS]
noncomputable def OH (K:lD) (m:Nat) (aK:kS) (a1:kS) (a2:kS) (aG:kU) (aH:kS) (aJ:kS) (a3:kS):Option R :=
 lP aK (ca (K 204 [(kS.k8 a1),(kS.k8 a2)] aG) fun aL aI=>lJ m .normal [(.int .i64 0),(.bool false),aL] aI) (bo .eql aH (.int .i64 6) fun aM=>(OI K (List.length aG) aM a1 a2 aG aH aJ a3).bind fun aB=>(fun aC aD aA aE=>Ex.mC aB.1 (lJ m .normal [aC,aD,aA] aE) (fun aF=>lJ m aF [aC,aD,aA] aE)) (gd aB.2.1 0) (gd aB.2.1 1) (gd aB.2.1 2) aB.2.2)
noncomputable def q9 (aC:Bool) (p1:Int) (p2:Int) (p0:Op) (p3:Int):Option (Ey×Int) :=
 tc aC (tb ((t204 p1 p2)) fun T9=>some (.n,T9)) (tb (q_ (decide (p0.kind=6)) p1 p2 p0 p3) fun aA=>uF aA.1 (some (.n,aA.2)) fun aB=>some (aB,aA.2))
theorem aiQ (w47:Bool) (p1:Int) (p2:Int) (p0:Op) (p3:Int):(OH KK 1 (.bool w47) (.int .i64 p1) (.int .i64 p2) ([.cells [(.int .i64 p0.kind),(.int .i64 p0.dst),(.int .i64 p0.a),(.int .i64 p0.b),(.int .i64 p0.c),(.int .i64 p0.imm)]]:kU) (.int .i64 p0.kind) (.ptr 0 0) (.int .i64 p3))=tm (q9 w47 p1 p2 p0 p3) fun r=>(r.1.ex,[(.int .i64 0),(.bool false),(.int .i64 r.2)],([.cells [(.int .i64 p0.kind),(.int .i64 p0.dst),(.int .i64 p0.a),(.int .i64 p0.b),(.int .i64 p0.c),(.int .i64 p0.imm)]]:kU)):=by
 simp +contextual -implicitDefEqProofs (maxSteps:=2000000) [-lQ,-lF,-k9,-k_,-lG,-lN,-lC,OH,q9,aB3,aiR]
noncomputable def OG (K:lD) (m:Nat) (aK:kS) (a1:kS) (a2:kS) (aG:kU) (aH:kS) (aJ:kS) (a3:kS):Option R :=
 lP aK (ca (K 203 [(kS.k8 a1),(kS.k8 a2)] aG) fun aL aI=>lJ m .normal [(.int .i64 0),(.bool false),aL] aI) (bo .eql aH (.int .i64 5) fun aM=>(OH K (List.length aG) aM a1 a2 aG aH aJ a3).bind fun aB=>(fun aC aD aA aE=>Ex.mC aB.1 (lJ m .normal [aC,aD,aA] aE) (fun aF=>lJ m aF [aC,aD,aA] aE)) (gd aB.2.1 0) (gd aB.2.1 1) (gd aB.2.1 2) aB.2.2)
noncomputable def q8 (aD:Bool) (p1:Int) (p2:Int) (p0:Op) (p3:Int):Option (Ey×Int) :=
 tc aD (tb ((t203 p1 p2)) fun aC=>some (.n,aC)) (tb (q9 (decide (p0.kind=5)) p1 p2 p0 p3) fun aA=>uF aA.1 (some (.n,aA.2)) fun aB=>some (aB,aA.2))
theorem aiP (w42:Bool) (p1:Int) (p2:Int) (p0:Op) (p3:Int):(OG KK 1 (.bool w42) (.int .i64 p1) (.int .i64 p2) ([.cells [(.int .i64 p0.kind),(.int .i64 p0.dst),(.int .i64 p0.a),(.int .i64 p0.b),(.int .i64 p0.c),(.int .i64 p0.imm)]]:kU) (.int .i64 p0.kind) (.ptr 0 0) (.int .i64 p3))=tm (q8 w42 p1 p2 p0 p3) fun r=>(r.1.ex,[(.int .i64 0),(.bool false),(.int .i64 r.2)],([.cells [(.int .i64 p0.kind),(.int .i64 p0.dst),(.int .i64 p0.a),(.int .i64 p0.b),(.int .i64 p0.c),(.int .i64 p0.imm)]]:kU)):=by
 simp +contextual -implicitDefEqProofs (maxSteps:=2000000) [-lQ,-lF,-k9,-k_,-lG,-lN,-lC,OG,q8,Rj,aiQ]
noncomputable def OF (K:lD) (m:Nat) (aK:kS) (a1:kS) (a2:kS) (aG:kU) (aH:kS) (aJ:kS) (a3:kS):Option R :=
 lP aK (ca (K 202 [(kS.k8 a1),(kS.k8 a2)] aG) fun aL aI=>lJ m .normal [(.int .i64 0),(.bool false),aL] aI) (bo .eql aH (.int .i64 4) fun aM=>(OG K (List.length aG) aM a1 a2 aG aH aJ a3).bind fun aB=>(fun aC aD aA aE=>Ex.mC aB.1 (lJ m .normal [aC,aD,aA] aE) (fun aF=>lJ m aF [aC,aD,aA] aE)) (gd aB.2.1 0) (gd aB.2.1 1) (gd aB.2.1 2) aB.2.2)
noncomputable def q7 (aD:Bool) (p1:Int) (p2:Int) (p0:Op) (p3:Int):Option (Ey×Int) :=
 tc aD (tb ((t202 p1 p2)) fun aC=>some (.n,aC)) (tb (q8 (decide (p0.kind=4)) p1 p2 p0 p3) fun aA=>uF aA.1 (some (.n,aA.2)) fun aB=>some (aB,aA.2))
theorem aiO (w37:Bool) (p1:Int) (p2:Int) (p0:Op) (p3:Int):(OF KK 1 (.bool w37) (.int .i64 p1) (.int .i64 p2) ([.cells [(.int .i64 p0.kind),(.int .i64 p0.dst),(.int .i64 p0.a),(.int .i64 p0.b),(.int .i64 p0.c),(.int .i64 p0.imm)]]:kU) (.int .i64 p0.kind) (.ptr 0 0) (.int .i64 p3))=tm (q7 w37 p1 p2 p0 p3) fun r=>(r.1.ex,[(.int .i64 0),(.bool false),(.int .i64 r.2)],([.cells [(.int .i64 p0.kind),(.int .i64 p0.dst),(.int .i64 p0.a),(.int .i64 p0.b),(.int .i64 p0.c),(.int .i64 p0.imm)]]:kU)):=by
 simp +contextual -implicitDefEqProofs (maxSteps:=2000000) [-lQ,-lF,-k9,-k_,-lG,-lN,-lC,OF,q7,uQ,aiP]
noncomputable def OE (K:lD) (m:Nat) (aK:kS) (a1:kS) (aG:kU) (aH:kS) (a2:kS) (aJ:kS) (a3:kS):Option R :=
 lP aK (ca (K 201 [(kS.k8 a1)] aG) fun aL aI=>lJ m .normal [(.int .i64 0),(.bool false),aL] aI) (bo .eql aH (.int .i64 3) fun aM=>(OF K (List.length aG) aM a1 a2 aG aH aJ a3).bind fun aB=>(fun aC aD aA aE=>Ex.mC aB.1 (lJ m .normal [aC,aD,aA] aE) (fun aF=>lJ m aF [aC,aD,aA] aE)) (gd aB.2.1 0) (gd aB.2.1 1) (gd aB.2.1 2) aB.2.2)
noncomputable def qZ (aD:Bool) (p1:Int) (p0:Op) (p2:Int) (p3:Int):Option (Ey×Int) :=
 tc aD (tb ((t201 p1)) fun aC=>some (.n,aC)) (tb (q7 (decide (p0.kind=3)) p1 p2 p0 p3) fun aA=>uF aA.1 (some (.n,aA.2)) fun aB=>some (aB,aA.2))
theorem aiN (w32:Bool) (p1:Int) (p0:Op) (p2:Int) (p3:Int):(OE KK 1 (.bool w32) (.int .i64 p1) ([.cells [(.int .i64 p0.kind),(.int .i64 p0.dst),(.int .i64 p0.a),(.int .i64 p0.b),(.int .i64 p0.c),(.int .i64 p0.imm)]]:kU) (.int .i64 p0.kind) (.int .i64 p2) (.ptr 0 0) (.int .i64 p3))=tm (qZ w32 p1 p0 p2 p3) fun r=>(r.1.ex,[(.int .i64 0),(.bool false),(.int .i64 r.2)],([.cells [(.int .i64 p0.kind),(.int .i64 p0.dst),(.int .i64 p0.a),(.int .i64 p0.b),(.int .i64 p0.c),(.int .i64 p0.imm)]]:kU)):=by
 simp +contextual -implicitDefEqProofs (maxSteps:=2000000) [-lQ,-lF,-k9,-k_,-lG,-lN,-lC,OE,qZ,EV,aiO]
noncomputable def OD (K:lD) (m:Nat) (aK:kS) (aH:kS) (aF:kU) (aI:kS) (a1:kS) (a2:kS) (a3:kS):Option R :=
 lP aK (fa 5 aH fun aL=>ld false 1 aF aL fun t27=>ca (K 201 [(kS.k8 t27)] aF) fun aM aJ=>lJ m .normal [(.int .i64 0),(.bool false),aM] aJ) (bo .eql aI (.int .i64 2) fun aN=>(OE K (List.length aF) aN a1 aF aI a2 aH a3).bind fun aB=>(fun aC aD aA aE=>Ex.mC aB.1 (lJ m .normal [aC,aD,aA] aE) (fun aG=>lJ m aG [aC,aD,aA] aE)) (gd aB.2.1 0) (gd aB.2.1 1) (gd aB.2.1 2) aB.2.2)
noncomputable def qY (aC:Bool) (p0:Op) (p1:Int) (p2:Int) (p3:Int):Option (Ey×Int) :=
 tc aC (tb ((t201 p0.imm)) fun Ib=>some (.n,Ib)) (tb (qZ (decide (p0.kind=2)) p1 p0 p2 p3) fun aA=>uF aA.1 (some (.n,aA.2)) fun aB=>some (aB,aA.2))
theorem aiM (w25:Bool) (p0:Op) (p1:Int) (p2:Int) (p3:Int):(OD KK 1 (.bool w25) (.ptr 0 0) ([.cells [(.int .i64 p0.kind),(.int .i64 p0.dst),(.int .i64 p0.a),(.int .i64 p0.b),(.int .i64 p0.c),(.int .i64 p0.imm)]]:kU) (.int .i64 p0.kind) (.int .i64 p1) (.int .i64 p2) (.int .i64 p3))=tm (qY w25 p0 p1 p2 p3) fun r=>(r.1.ex,[(.int .i64 0),(.bool false),(.int .i64 r.2)],([.cells [(.int .i64 p0.kind),(.int .i64 p0.dst),(.int .i64 p0.a),(.int .i64 p0.b),(.int .i64 p0.c),(.int .i64 p0.imm)]]:kU)):=by
 simp +contextual -implicitDefEqProofs (maxSteps:=2000000) [-lQ,-lF,-k9,-k_,-lG,-lN,-lC,OD,qY,EV,aiN]
noncomputable def OC (K:lD) (m:Nat) (aG:kS) (aF:kU) (aH:kS) (a1:kS) (a2:kS) (a3:kS):Option R :=
 bo .eql aG (.int .i64 1) fun aI=>(OD K (List.length aF) aI aH aF aG a1 a2 a3).bind fun Lz=>(fun aB aC aA aD=>Ex.mC Lz.1 (lJ m .normal [aB,aC,aA] aD) (fun aE=>lJ m aE [aB,aC,aA] aD)) (gd Lz.2.1 0) (gd Lz.2.1 1) (gd Lz.2.1 2) Lz.2.2
noncomputable def qX (p0:Op) (p1:Int) (p2:Int) (p3:Int):Option (Ey×Int) :=
 tb (qY (decide (p0.kind=1)) p0 p1 p2 p3) fun Lz=>uF Lz.1 (some (.n,Lz.2)) fun aA=>some (aA,Lz.2)
theorem aiL (p0:Op) (p1:Int) (p2:Int) (p3:Int):(OC KK 1 (.int .i64 p0.kind) ([.cells [(.int .i64 p0.kind),(.int .i64 p0.dst),(.int .i64 p0.a),(.int .i64 p0.b),(.int .i64 p0.c),(.int .i64 p0.imm)]]:kU) (.ptr 0 0) (.int .i64 p1) (.int .i64 p2) (.int .i64 p3))=tm (qX p0 p1 p2 p3) fun r=>(r.1.ex,[(.int .i64 0),(.bool false),(.int .i64 r.2)],([.cells [(.int .i64 p0.kind),(.int .i64 p0.dst),(.int .i64 p0.a),(.int .i64 p0.b),(.int .i64 p0.c),(.int .i64 p0.imm)]]:kU)):=by
 simp +contextual -implicitDefEqProofs (maxSteps:=2000000) [-lQ,-lF,-k9,-k_,-lG,-lN,-lC,OC,qX,aiM]
noncomputable def ao8 (K:lD) (a0 a1 a2 a3:kS) (h0:kU):Option (nZ×kU) :=
 (lK (mH 6 h0 a0) fun aG aF=>fa 0 aG fun aH=>ld false 1 aF aH fun aI=>(OC K (List.length aF) aI aF aG a1 a2 a3).bind fun MA=>(fun aB aC aA aD=>Ex.inBlock 0 MA.1 (some (.ret,[aA,(.bool true)],aD)) (fun aE=>some (aE,[aB,aC],aD))) (gd MA.2.1 0) (gd MA.2.1 1) (gd MA.2.1 2) MA.2.2).bind (ZW (List.length h0))
theorem ahG (K:lD) (a0 a1 a2 a3:kS) (h0:kU):qA Tryd.prog nA mQ K 166 [a0,a1,a2,a3] h0=ao8 (mP nA K) a0 a1 a2 a3 h0:=by kernel_rfl
noncomputable def t166 (p0:Op) (p1:Int) (p2:Int) (p3:Int):Option (Int×Bool) :=
 tb (qX p0 p1 p2 p3) fun MA=>wR 0 MA.1 (some (MA.2,true)) fun aA=>Qz aA (some (0,false))
theorem aAA (p0:Op) (p1:Int) (p2:Int) (p3:Int):ao8 KK (.agg [(.int .i64 p0.kind),(.int .i64 p0.dst),(.int .i64 p0.a),(.int .i64 p0.b),(.int .i64 p0.c),(.int .i64 p0.imm)]) (.int .i64 p1) (.int .i64 p2) (.int .i64 p3) []=tm (t166 p0 p1 p2 p3) fun r=>(.ret (.tuple [(.int .i64 r.1),(.bool r.2)]),[]):=by
 simp +contextual -implicitDefEqProofs (maxSteps:=2000000) [-lQ,-lF,-k9,-k_,-lG,-lN,-lC,ao8,t166,aiL,ZW]
theorem Ly (p0:Op) (p1:Int) (p2:Int) (p3:Int) (h:kU):KK 166 [(.agg [(.int .i64 p0.kind),(.int .i64 p0.dst),(.int .i64 p0.a),(.int .i64 p0.b),(.int .i64 p0.c),(.int .i64 p0.imm)]),(.int .i64 p1),(.int .i64 p2),(.int .i64 p3)] h=tm (t166 p0 p1 p2 p3) fun r=>(.ret (.tuple [(.int .i64 r.1),(.bool r.2)]),h):=rY rfl rfl (ahG ..) (aAA p0 p1 p2 p3)
noncomputable def ZV (mm:Nat) (Ic:R):Option (nZ×kU) :=
 (fun aA aB aC=>Ex.nK Ic.1 (mX mm (.tuple [aA,aB]) aC)) (gd Ic.2.1 0) (gd Ic.2.1 1) Ic.2.2
noncomputable def Jv (K:lD) (m:Nat) (s:List kS×kU):Option R :=
 (fun aB aC aD aE aA aF=>bo .lss aA (.int .i64 4) fun aG=>lP aG ((sW aB aA).bind fun aH=>(rR .i64 aH).bind fun aI=>bo .mul (.int .i64 8) aA fun aJ=>bo .shl aI aJ fun aK=>bo .or aE aK fun aL=>bo .add aA (.int .i64 1) fun t39=>lJ m .normal [aB,aC,aD,aL,t39] aF) (lJ m (.exit 0) [aB,aC,aD,aE,aA] aF)) (gd s.1 0) (gd s.1 1) (gd s.1 2) (gd s.1 3) (gd s.1 4) s.2
noncomputable def Bg (p0:(List UInt8)) (aA:Int×Int):Option (Ey×Int×Int) :=
 tc (decide (aA.2 < 4)) (tb ((Ur p0 aA.2)) fun aB=>tb ((RF .i64 (IntKind.wrap .i64 aB) (IntKind.wrap .i64 (8 * aA.2)))) fun aC=>some (.n,((tor .i64 aA.1 aC),(IntKind.wrap .i64 (aA.2+1))))) (some ((.x 0),(aA.1,aA.2)))
theorem afB (p0:(List UInt8)) (s24:Int×Int):Jv KK 0 ([(.str p0),(.int .i64 0),(.bool false),(.int .i64 s24.1),(.int .i64 s24.2)],([]:kU))=tm (Bg p0 s24) fun r=>(r.1.ex,[(.str p0),(.int .i64 0),(.bool false),(.int .i64 r.2.1),(.int .i64 r.2.2)],([]:kU)):=by
 simp +contextual -implicitDefEqProofs (maxSteps:=2000000) [-lQ,-lF,-k9,-k_,-lG,-lN,-lC,Jv,Bg]
theorem aiK (p0:(List UInt8)) (i3:Int) (i4:Int):mQ (Jv KK 0) ([(.str p0),(.int .i64 0),(.bool false),(.int .i64 i3),(.int .i64 i4)],([]:kU))=tm (vB (Bg p0) (i3,i4)) fun r=>(r.1.ex,[(.str p0),(.int .i64 0),(.bool false),(.int .i64 r.2.1),(.int .i64 r.2.2)],([]:kU)):=by
 exact w_ (enc:=fun s24=>([(.str p0),(.int .i64 0),(.bool false),(.int .i64 s24.1),(.int .i64 s24.2)],([]:kU))) (fun s24=>afB p0 s24) (i3,i4)
noncomputable def ao7 (K:lD) (a0:kS) (h0:kU):Option (nZ×kU) :=
 ((Cn a0).bind fun aJ=>bo .neq aJ (.int .i64 4) fun aK=>lP aK (some (.ret,[(.int .i64 0),(.bool false)],h0)) ((mQ (Jv K (List.length h0)) ([a0,(.int .i64 0),(.bool false),(.int .i64 0),(.int .i64 0)],h0)).bind fun aA=>(fun aF aB aC aD aG aE=>Ex.mC aA.1 none (fun aH=>Ex.inBlock 0 aH (some (.ret,[aD,(.bool true)],aE)) (fun aI=>some (aI,[aB,aC],aE)))) (gd aA.2.1 0) (gd aA.2.1 1) (gd aA.2.1 2) (gd aA.2.1 3) (gd aA.2.1 4) aA.2.2)).bind (ZV (List.length h0))
theorem ahF (K:lD) (a0:kS) (h0:kU):qA Tryd.prog nA mQ K 165 [a0] h0=ao7 (mP nA K) a0 h0:=by kernel_rfl
noncomputable def t165 (p0:(List UInt8)):Option (Int×Bool) :=
 tc (!decide (((p0.length:Nat):Int)=4)) (some (0,false)) (tb (vB (Bg p0) (0,0)) fun aA=>uF aA.1 none fun aB=>wR 0 aB (some (aA.2.1,true)) fun aC=>Qz aC (some (0,false)))
theorem aAz (p0:(List UInt8)):ao7 KK (.str p0) []=tm (t165 p0) fun r=>(.ret (.tuple [(.int .i64 r.1),(.bool r.2)]),[]):=by
 simp +contextual -implicitDefEqProofs (maxSteps:=2000000) [-lQ,-lF,-k9,-k_,-lG,-lN,-lC,ao7,t165,aiK,ZV]
theorem aB2 (p0:(List UInt8)) (h:kU):KK 165 [(.str p0)] h=tm (t165 p0) fun r=>(.ret (.tuple [(.int .i64 r.1),(.bool r.2)]),h):=rY rfl rfl (ahF ..) (aAz p0)
end Go.Proofs.YtkeoalhglkfbkaaDoor


namespace Go.Proofs.YtkeoalhglkfbkaaDoor
open Go Hk
theorem LY (p:Int):∃n,t241 p=some n∧0≤n∧n≤31:=by
 refine⟨DU .i64 p 31,rfl,?_⟩
 unfold DU
 have h:((BitVec.ofInt 64 p &&& BitVec.ofInt 64 31).toNat)≤31:=by
  rw [BitVec.toNat_and]
  exact Nat.le_trans Nat.and_le_right (by decide)
 have e:IntKind.i64.bits=64:=rfl
 rw [e]
 rw [wrap64 (by omega) (by omega)]
 omega
theorem qK (p:Int):∃n,t201 p=some n∧0≤n∧n≤4294967295:=by
 refine⟨DU .i64 p 4294967295,rfl,?_⟩
 unfold DU
 have h:((BitVec.ofInt 64 p &&& BitVec.ofInt 64 4294967295).toNat)≤4294967295:=by
  rw [BitVec.toNat_and]
  exact Nat.le_trans Nat.and_le_right (by decide)
 have e:IntKind.i64.bits=64:=rfl
 rw [e]
 rw [wrap64 (by omega) (by omega)]
 omega
end Go.Proofs.YtkeoalhglkfbkaaDoor


namespace Go.Proofs.YtkeoalhglkfbkaaDoor
open Go Hk
theorem anX (a:Int):∃s:List UInt8,s.length=4∧∀h,KK 167 [.int .i64 a] h=some (.ret (.str s),h):=by
 obtain⟨w,hw,h0,h1⟩:=qK a
 have k201:∀h,KK 201 [.int .i64 a] h=some (.ret (.int .i64 w),h):=fun h=>(EV a h).trans (by rw [hw]; rfl)
 have u0:IntKind.i64.wrap 0=0:=by decide
 have u1:IntKind.i64.wrap 1=1:=by decide
 have u2:IntKind.i64.wrap 2=2:=by decide
 have u3:IntKind.i64.wrap 3=3:=by decide
 have u4:IntKind.i64.wrap 4=4:=by decide
 have u8:IntKind.i64.wrap 8=8:=by decide
 have u16:IntKind.i64.wrap 16=16:=by decide
 have u24:IntKind.i64.wrap 24=24:=by decide
 have e0:Iw .i64 w 0=some (w.fdiv (2 ^ 0)):=rfl
 have e1:Iw .i64 w 8=some (w.fdiv (2 ^ 8)):=rfl
 have e2:Iw .i64 w 16=some (w.fdiv (2 ^ 16)):=rfl
 have e3:Iw .i64 w 24=some (w.fdiv (2 ^ 24)):=rfl
 have a0:uD 4 1 (.ptr 0 0) (.int .i64 0)=some (.ptr 0 0):=rfl
 have a1:uD 4 1 (.ptr 0 0) (.int .i64 1)=some (.ptr 0 1):=rfl
 have a2:uD 4 1 (.ptr 0 0) (.int .i64 2)=some (.ptr 0 2):=rfl
 have a3:uD 4 1 (.ptr 0 0) (.int .i64 3)=some (.ptr 0 3):=rfl
 have s4:BP 4 1 (.ptr 0 0) none none=some (.mslice 0 0 4 1):=rfl
 generalize w.fdiv (2 ^ 0)=q0 at *
 generalize w.fdiv (2 ^ 8)=q1 at *
 generalize w.fdiv (2 ^ 16)=q2 at *
 generalize w.fdiv (2 ^ 24)=q3 at *
 have st0:∀x0 x1 x2 x3:Int,wC KK 1 ([.int .i64 a,.str [],.ptr 0 0,.int .i64 0],[.cells [.int .u8 x0,.int .u8 x1,.int .u8 x2,.int .u8 x3]]) =
   some (.normal,[.int .i64 a,.str [],.ptr 0 0,.int .i64 1],[.cells [.int .u8 (IntKind.wrap .u8 q0),.int .u8 x1,.int .u8 x2,.int .u8 x3]]):=by
  intro x0 x1 x2 x3; unfold wC; simp -implicitDefEqProofs [k201,u0,u1,e0,a0,lJ]
 have st1:∀x0 x1 x2 x3:Int,wC KK 1 ([.int .i64 a,.str [],.ptr 0 0,.int .i64 1],[.cells [.int .u8 x0,.int .u8 x1,.int .u8 x2,.int .u8 x3]]) =
   some (.normal,[.int .i64 a,.str [],.ptr 0 0,.int .i64 2],[.cells [.int .u8 x0,.int .u8 (IntKind.wrap .u8 q1),.int .u8 x2,.int .u8 x3]]):=by
  intro x0 x1 x2 x3; unfold wC; simp -implicitDefEqProofs [k201,u8,u2,e1,a1,lJ]
 have st2:∀x0 x1 x2 x3:Int,wC KK 1 ([.int .i64 a,.str [],.ptr 0 0,.int .i64 2],[.cells [.int .u8 x0,.int .u8 x1,.int .u8 x2,.int .u8 x3]]) =
   some (.normal,[.int .i64 a,.str [],.ptr 0 0,.int .i64 3],[.cells [.int .u8 x0,.int .u8 x1,.int .u8 (IntKind.wrap .u8 q2),.int .u8 x3]]):=by
  intro x0 x1 x2 x3; unfold wC; simp -implicitDefEqProofs [k201,u16,u3,e2,a2,lJ]
 have st3:∀x0 x1 x2 x3:Int,wC KK 1 ([.int .i64 a,.str [],.ptr 0 0,.int .i64 3],[.cells [.int .u8 x0,.int .u8 x1,.int .u8 x2,.int .u8 x3]]) =
   some (.normal,[.int .i64 a,.str [],.ptr 0 0,.int .i64 4],[.cells [.int .u8 x0,.int .u8 x1,.int .u8 x2,.int .u8 (IntKind.wrap .u8 q3)]]):=by
  intro x0 x1 x2 x3; unfold wC; simp -implicitDefEqProofs [k201,u24,u4,e3,a3,lJ]
 have st4:∀x0 x1 x2 x3:Int,wC KK 1 ([.int .i64 a,.str [],.ptr 0 0,.int .i64 4],[.cells [.int .u8 x0,.int .u8 x1,.int .u8 x2,.int .u8 x3]]) =
   some (.exit 0,[.int .i64 a,.str [],.ptr 0 0,.int .i64 4],[.cells [.int .u8 x0,.int .u8 x1,.int .u8 x2,.int .u8 x3]]):=by
  intro x0 x1 x2 x3; unfold wC; simp -implicitDefEqProofs [lJ]
 have lp:mQ (wC KK 1) ([.int .i64 a,.str [],.ptr 0 0,.int .i64 0],[.cells [.int .u8 0,.int .u8 0,.int .u8 0,.int .u8 0]])=some (.exit 0,[.int .i64 a,.str [],.ptr 0 0,.int .i64 4],[.cells [.int .u8 (IntKind.wrap .u8 q0),.int .u8 (IntKind.wrap .u8 q1),.int .u8 (IntKind.wrap .u8 q2),.int .u8 (IntKind.wrap .u8 q3)]]):=by
  rw [oU (st0 _ _ _ _),oU (st1 _ _ _ _),oU (st2 _ _ _ _),oU (st3 _ _ _ _)]
  exact nH (st4 _ _ _ _)
 refine⟨[UInt8.ofNat (IntKind.wrap .u8 q0).toNat,UInt8.ofNat (IntKind.wrap .u8 q1).toNat,UInt8.ofNat (IntKind.wrap .u8 q2).toNat,UInt8.ofNat (IntKind.wrap .u8 q3).toNat],rfl,fun h=>mD rfl rfl (mR (ahH _ _ _) ?_)⟩
 have bs:∀x0 x1 x2 x3:Int,wV [.cells [.int .u8 x0,.int .u8 x1,.int .u8 x2,.int .u8 x3]] (.mslice 0 0 4 1)=some (.str [UInt8.ofNat x0.toNat,UInt8.ofNat x1.toNat,UInt8.ofNat x2.toNat,UInt8.ofNat x3.toNat]):=fun _ _ _ _=>rfl
 simp -implicitDefEqProofs [ax6,lp,s4,bs]
end Go.Proofs.YtkeoalhglkfbkaaDoor


namespace Go.Proofs.YtkeoalhglkfbkaaDoor
open Go Hk
theorem NK {k:IntKind}{a b:Int}(h:0≤b):∃v,RF k a b=some v:=⟨_,if_neg (by omega)⟩
theorem Ix {k:IntKind}{a b:Int}(h:0≤b):∃v,Iw k a b=some v:=⟨_,if_neg (by omega)⟩
theorem XL (a b:Int):∃v,t210 a b=some v:=by
 obtain⟨n,h1,h2,h3⟩:=LY b
 obtain⟨w,hw,_,_⟩:=qK a
 obtain⟨v,hv⟩:=NK (k:=.i64) (a:=w) h2
 obtain⟨u,hu,_,_⟩:=qK v
 exact⟨u,by unfold t210; rw [hw,mE,h1,mE,hv,mE,hu,mE]⟩
theorem NH (a b:Int):∃v,t211 a b=some v:=by
 obtain⟨n,h1,h2,h3⟩:=LY b
 obtain⟨w,hw,_,_⟩:=qK a
 obtain⟨v,hv⟩:=Ix (k:=.i64) (a:=w) h2
 exact⟨v,by unfold t211; rw [hw,mE,h1,mE,hv,mE]⟩
theorem NG (a b:Int):∃v,t207 a b=some v:=⟨_,rfl⟩
theorem XN (a b:Int):∃v,t212 a b=some v:=by
 obtain⟨n,h1,h2,h3⟩:=LY b
 obtain⟨w,hw,_,_⟩:=qK a
 obtain⟨x,hx⟩:=NH a b
 have h4:IntKind.i64.wrap (32 - n)=32 - n:=wrap64 (by omega) (by omega)
 obtain⟨v,hv⟩:=NK (k:=.i64) (a:=w) (b:=32 - n) (by omega)
 obtain⟨u,hu,_,_⟩:=qK v
 obtain⟨y,hy⟩:=NG x u
 exact⟨y,by unfold t212; rw [hx,mE,hw,mE,h1,mE,h4,hv,mE,hu,mE,hy,mE]⟩
theorem XK (a b:Int):∃v,t205 a b=some v:=by
 unfold t205 t240
 obtain⟨w,hw,_,_⟩:=qK a
 obtain⟨x,hx,_,_⟩:=qK b
 rw [hw,mE,hx,mE,mE]
 obtain⟨v,hv⟩:=Ix (k:=.u64) (a:=IntKind.wrap .u64 (IntKind.wrap .u64 w * IntKind.wrap .u64 x)) (b:=32) (by decide)
 exact⟨_,by rw [hv,mE]⟩
theorem XQ (a b:Int):∃v,t215 a b=some v:=by
 unfold t215
 obtain⟨w,hw,_,_⟩:=qK a
 obtain⟨x,hx,_,_⟩:=qK b
 rw [hw,mE,hx,mE]
 obtain⟨v,hv⟩:=Ix (k:=.i64) (a:=IntKind.wrap .i64 (w+x)) (b:=32) (by decide)
 exact⟨_,by rw [hv,mE]⟩
theorem NI (b:Bool):∃v,t242 b=some v:=by cases b <;> exact⟨_,rfl⟩
theorem XO (a b:Int):∃v,t213 a b=some v:=by
 unfold t213
 obtain⟨w,hw,_,_⟩:=qK a
 obtain⟨x,hx,_,_⟩:=qK b
 obtain⟨v,hv⟩:=NI (decide (w < x))
 exact⟨v,by rw [hw,mE,hx,mE,hv,mE]⟩
theorem XP (a b:Int):∃v,t214 a b=some v:=by
 unfold t214
 obtain⟨w,hw,_,_⟩:=qK a
 obtain⟨x,hx,_,_⟩:=qK b
 obtain⟨v,hv⟩:=NI (decide (w=x))
 exact⟨v,by rw [hw,mE,hx,mE,hv,mE]⟩
noncomputable def uJ (o:Op) (a b c:Int):Option Int:=match t166 o a b c with
 | some (v,true)=>some v
 | _=>none
theorem adL {o:Op}(h:o.kind=1) (a b c:Int):∃v,t201 o.imm=some v∧t166 o a b c=some (v,true):=by
 obtain⟨v,hv⟩:=(⟨_,rfl⟩:∃v,t201 o.imm=some v)
 exact⟨v,hv,by simp [t166,qX,qY,qZ,q7,q8,q9,q_,rA,rB,rC,pY,pZ,p5,p6,p7,p8,p9,h,hv,uF,wR]⟩
theorem al5 {o:Op}(h:o.kind=2) (a b c:Int):∃v,t201 a=some v∧t166 o a b c=some (v,true):=by
 obtain⟨v,hv⟩:=(⟨_,rfl⟩:∃v,t201 a=some v)
 exact⟨v,hv,by simp [t166,qX,qY,qZ,q7,q8,q9,q_,rA,rB,rC,pY,pZ,p5,p6,p7,p8,p9,h,hv,uF,wR]⟩
theorem al6 {o:Op}(h:o.kind=3) (a b c:Int):∃v,t202 a b=some v∧t166 o a b c=some (v,true):=by
 obtain⟨v,hv⟩:=(⟨_,rfl⟩:∃v,t202 a b=some v)
 exact⟨v,hv,by simp [t166,qX,qY,qZ,q7,q8,q9,q_,rA,rB,rC,pY,pZ,p5,p6,p7,p8,p9,h,hv,uF,wR]⟩
theorem al7 {o:Op}(h:o.kind=4) (a b c:Int):∃v,t203 a b=some v∧t166 o a b c=some (v,true):=by
 obtain⟨v,hv⟩:=(⟨_,rfl⟩:∃v,t203 a b=some v)
 exact⟨v,hv,by simp [t166,qX,qY,qZ,q7,q8,q9,q_,rA,rB,rC,pY,pZ,p5,p6,p7,p8,p9,h,hv,uF,wR]⟩
theorem al8 {o:Op}(h:o.kind=5) (a b c:Int):∃v,t204 a b=some v∧t166 o a b c=some (v,true):=by
 obtain⟨v,hv⟩:=(⟨_,rfl⟩:∃v,t204 a b=some v)
 exact⟨v,hv,by simp [t166,qX,qY,qZ,q7,q8,q9,q_,rA,rB,rC,pY,pZ,p5,p6,p7,p8,p9,h,hv,uF,wR]⟩
theorem al9 {o:Op}(h:o.kind=6) (a b c:Int):∃v,t205 a b=some v∧t166 o a b c=some (v,true):=by
 obtain⟨v,hv⟩:=XK a b
 exact⟨v,hv,by simp [t166,qX,qY,qZ,q7,q8,q9,q_,rA,rB,rC,pY,pZ,p5,p6,p7,p8,p9,h,hv,uF,wR]⟩
theorem amA {o:Op}(h:o.kind=7) (a b c:Int):∃v,t206 a b=some v∧t166 o a b c=some (v,true):=by
 obtain⟨v,hv⟩:=(⟨_,rfl⟩:∃v,t206 a b=some v)
 exact⟨v,hv,by simp [t166,qX,qY,qZ,q7,q8,q9,q_,rA,rB,rC,pY,pZ,p5,p6,p7,p8,p9,h,hv,uF,wR]⟩
theorem amB {o:Op}(h:o.kind=8) (a b c:Int):∃v,t207 a b=some v∧t166 o a b c=some (v,true):=by
 obtain⟨v,hv⟩:=NG a b
 exact⟨v,hv,by simp [t166,qX,qY,qZ,q7,q8,q9,q_,rA,rB,rC,pY,pZ,p5,p6,p7,p8,p9,h,hv,uF,wR]⟩
theorem amC {o:Op}(h:o.kind=9) (a b c:Int):∃v,t208 a b=some v∧t166 o a b c=some (v,true):=by
 obtain⟨v,hv⟩:=(⟨_,rfl⟩:∃v,t208 a b=some v)
 exact⟨v,hv,by simp [t166,qX,qY,qZ,q7,q8,q9,q_,rA,rB,rC,pY,pZ,p5,p6,p7,p8,p9,h,hv,uF,wR]⟩
theorem adM {o:Op}(h:o.kind=10) (a b c:Int):∃v,t209 a=some v∧t166 o a b c=some (v,true):=by
 obtain⟨v,hv⟩:=(⟨_,rfl⟩:∃v,t209 a=some v)
 exact⟨v,hv,by simp [t166,qX,qY,qZ,q7,q8,q9,q_,rA,rB,rC,pY,pZ,p5,p6,p7,p8,p9,h,hv,uF,wR]⟩
theorem adN {o:Op}(h:o.kind=11) (a b c:Int):∃v,t210 a o.imm=some v∧t166 o a b c=some (v,true):=by
 obtain⟨v,hv⟩:=XL a o.imm
 exact⟨v,hv,by simp [t166,qX,qY,qZ,q7,q8,q9,q_,rA,rB,rC,pY,pZ,p5,p6,p7,p8,p9,h,hv,uF,wR]⟩
theorem adO {o:Op}(h:o.kind=12) (a b c:Int):∃v,t211 a o.imm=some v∧t166 o a b c=some (v,true):=by
 obtain⟨v,hv⟩:=NH a o.imm
 exact⟨v,hv,by simp [t166,qX,qY,qZ,q7,q8,q9,q_,rA,rB,rC,pY,pZ,p5,p6,p7,p8,p9,h,hv,uF,wR]⟩
theorem adP {o:Op}(h:o.kind=13) (a b c:Int):∃v,t212 a o.imm=some v∧t166 o a b c=some (v,true):=by
 obtain⟨v,hv⟩:=XN a o.imm
 exact⟨v,hv,by simp [t166,qX,qY,qZ,q7,q8,q9,q_,rA,rB,rC,pY,pZ,p5,p6,p7,p8,p9,h,hv,uF,wR]⟩
theorem adQ {o:Op}(h:o.kind=14) (a b c:Int):∃v,t213 a b=some v∧t166 o a b c=some (v,true):=by
 obtain⟨v,hv⟩:=XO a b
 exact⟨v,hv,by simp [t166,qX,qY,qZ,q7,q8,q9,q_,rA,rB,rC,pY,pZ,p5,p6,p7,p8,p9,h,hv,uF,wR]⟩
theorem adR {o:Op}(h:o.kind=15) (a b c:Int):∃v,t214 a b=some v∧t166 o a b c=some (v,true):=by
 obtain⟨v,hv⟩:=XP a b
 exact⟨v,hv,by simp [t166,qX,qY,qZ,q7,q8,q9,q_,rA,rB,rC,pY,pZ,p5,p6,p7,p8,p9,h,hv,uF,wR]⟩
theorem adS {o:Op}(h:o.kind=16) (a b c:Int):∃v,t215 a b=some v∧t166 o a b c=some (v,true):=by
 obtain⟨v,hv⟩:=XQ a b
 exact⟨v,hv,by simp [t166,qX,qY,qZ,q7,q8,q9,q_,rA,rB,rC,pY,pZ,p5,p6,p7,p8,p9,h,hv,uF,wR]⟩
theorem adT {o:Op}(h:o.kind=17) (a b c:Int):∃v,t216 c a b=some v∧t166 o a b c=some (v,true):=by
 obtain⟨v,hv⟩:=(⟨_,rfl⟩:∃v,t216 c a b=some v)
 exact⟨v,hv,by simp [t166,qX,qY,qZ,q7,q8,q9,q_,rA,rB,rC,pY,pZ,p5,p6,p7,p8,p9,h,hv,uF,wR]⟩
theorem adU {o:Op}(h:¬(1≤o.kind∧o.kind≤17)) (a b c:Int):t166 o a b c=some (0,false):=by
 have h1:o.kind≠1∧o.kind≠2∧o.kind≠3∧o.kind≠4∧o.kind≠5∧o.kind≠6∧o.kind≠7∧o.kind≠8∧o.kind≠9∧o.kind≠10∧o.kind≠11∧o.kind≠12∧o.kind≠13∧o.kind≠14∧o.kind≠15∧o.kind≠16∧o.kind≠17:=by omega
 simp [t166,qX,qY,qZ,q7,q8,q9,q_,rA,rB,rC,pY,pZ,p5,p6,p7,p8,p9,h1,uF,wR,Qz]
theorem EH (o:Op) (a b c:Int):(1≤o.kind∧o.kind≤17∧∃v,t166 o a b c=some (v,true)∧uJ o a b c=some v)∨(¬(1≤o.kind∧o.kind≤17)∧t166 o a b c=some (0,false)∧uJ o a b c=none):=by
 by_cases h:1≤o.kind∧o.kind≤17
 ·refine .inl ⟨h.1,h.2,?_⟩
  have key:∃v,t166 o a b c=some (v,true):=by
   rcases (show o.kind=1∨o.kind=2∨o.kind=3∨o.kind=4∨o.kind=5∨o.kind=6∨o.kind=7∨o.kind=8∨o.kind=9∨o.kind=10∨o.kind=11∨o.kind=12∨o.kind=13∨o.kind=14∨o.kind=15∨o.kind=16∨o.kind=17 by omega) with h | h | h | h | h | h | h | h | h | h | h | h | h | h | h | h | h
   ·obtain⟨v,_,e⟩:=adL h a b c; exact⟨v,e⟩
   ·obtain⟨v,_,e⟩:=al5 h a b c; exact⟨v,e⟩
   ·obtain⟨v,_,e⟩:=al6 h a b c; exact⟨v,e⟩
   ·obtain⟨v,_,e⟩:=al7 h a b c; exact⟨v,e⟩
   ·obtain⟨v,_,e⟩:=al8 h a b c; exact⟨v,e⟩
   ·obtain⟨v,_,e⟩:=al9 h a b c; exact⟨v,e⟩
   ·obtain⟨v,_,e⟩:=amA h a b c; exact⟨v,e⟩
   ·obtain⟨v,_,e⟩:=amB h a b c; exact⟨v,e⟩
   ·obtain⟨v,_,e⟩:=amC h a b c; exact⟨v,e⟩
   ·obtain⟨v,_,e⟩:=adM h a b c; exact⟨v,e⟩
   ·obtain⟨v,_,e⟩:=adN h a b c; exact⟨v,e⟩
   ·obtain⟨v,_,e⟩:=adO h a b c; exact⟨v,e⟩
   ·obtain⟨v,_,e⟩:=adP h a b c; exact⟨v,e⟩
   ·obtain⟨v,_,e⟩:=adQ h a b c; exact⟨v,e⟩
   ·obtain⟨v,_,e⟩:=adR h a b c; exact⟨v,e⟩
   ·obtain⟨v,_,e⟩:=adS h a b c; exact⟨v,e⟩
   ·obtain⟨v,_,e⟩:=adT h a b c; exact⟨v,e⟩
  obtain⟨v,hv⟩:=key
  exact⟨v,hv,by unfold uJ; rw [hv]⟩
 ·exact .inr ⟨h,adU h a b c,by unfold uJ; rw [adU h a b c]⟩
end Go.Proofs.YtkeoalhglkfbkaaDoor


namespace Go.Proofs.YtkeoalhglkfbkaaDoor
open Go Hk
theorem RJ:YK uJ:=by
 intro σ o a b c
 have hk:(xE σ o).kind=o.kind:=rfl
 have hi:(xE σ o).imm=o.imm:=rfl
 have:t166 (xE σ o) a b c=t166 o a b c:=by
  simp only [t166,qX,qY,qZ,q7,q8,q9,q_,rA,rB,rC,pY,pZ,p5,p6,p7,p8,p9,hk,hi]
 unfold uJ
 rw [this]
theorem GV:YJ uJ:=by
 constructor
 ·intro o a b c v h
  rcases EH o a b c with ⟨h1,h2,_⟩ | ⟨_,_,h3⟩
  ·rcases (show o.kind=1∨o.kind=2∨o.kind=3∨o.kind=4∨o.kind=5∨o.kind=6∨o.kind=7∨o.kind=8∨o.kind=9∨o.kind=10∨o.kind=11∨o.kind=12∨o.kind=13∨o.kind=14∨o.kind=15∨o.kind=16∨o.kind=17 by omega) with h | h | h | h | h | h | h | h | h | h | h | h | h | h | h | h | h <;> rw [h] <;> decide
  ·rw [h3] at h; cases h
 ·intro o a b c h
  rcases EH o a b c with ⟨_,_,v,_,h3⟩ | ⟨h1,_,_⟩
  ·rw [h3] at h; cases h
  ·by_cases h18:o.kind=18
   ·exact .inl h18
   ·by_cases h19:o.kind=19
    ·exact .inr (.inl h19)
    ·refine .inr (.inr ?_)
     unfold mM
     (repeat' split) <;> first | rfl | omega
end Go.Proofs.YtkeoalhglkfbkaaDoor


namespace Go.Proofs.YtkeoalhglkfbkaaDoor
open Go Hk
def sJ (i n:Nat):kS:=.vslice (6+3 * i) n 0 n 1
def zF (p:IR) (T:List Int) (L:List (List Int)) (k:Nat):mI :=
 if k≤1 then .cells p.cells
 else if k=2 then Vc (ci .i64) 1 T
 else if k=3 then .cells (p.cells++[.vslice 2 T.length 0 T.length 1,if L=[] then .slice [] (.own 4) else .vslice 4 L.length 0 L.length 1])
 else if k=4 then(if L=[] then .front 0 0 else .vec L.length 1 ((List.range L.length).map fun i=>sJ i (L.getD i []).length))
 else if k % 3=2 then .cells (p.arrays.getD ((k - 5) / 3) ⟨0,0,0,0⟩).cells
 else if k % 3=0 then Vc (ci .i64) 1 (L.getD ((k - 6) / 3) [])
 else .vec 1 1 [sJ ((k - 7) / 3) (L.getD ((k - 7) / 3) []).length]
def mG (L:List (List Int)):Nat:=5+3 * L.length
def mJ (p:IR) (T:List Int) (L:List (List Int)) (X:List mI):kU:=(List.range (mG L)).map (zF p T L)++X
theorem tJ {p:IR}{T:List Int}{L:List (List Int)}{X:List mI}{k:Nat}(hk:k < mG L):(mJ p T L X)[k]?=some (zF p T L k):=by
 unfold mJ
 rw [List.getElem?_append_left (by simpa using hk),List.getElem?_map,List.getElem?_range hk]
 rfl
theorem Sb (L:List (List Int)):5≤mG L:=by unfold mG; omega
theorem uM (L:List (List Int)):4≤mG L:=by unfold mG; omega
theorem BL {L:List (List Int)}{i:Nat}(hi:i < L.length):6+3 * i < mG L:=by
 unfold mG
 omega
theorem VM {p:IR}{T T':List Int}{L:List (List Int)}{X:List mI}(h:T'.length=T.length):(mJ p T L X).set 2 (Vc (ci .i64) 1 T')=mJ p T' L X:=by
 have h4:=uM L
 unfold mJ
 rw [List.set_append_left _ _ (by simp; omega)]
 congr 1
 apply List.ext_getElem?
 intro k
 rw [List.getElem?_set,List.getElem?_map,List.getElem?_map]
 by_cases hk:k < mG L
 ·rw [List.getElem?_range hk]
  by_cases h2:2=k
  ·subst h2
   rw [if_pos rfl,if_pos (by simp; omega)]
   simp [zF]
  ·rw [if_neg h2]
   simp only [Option.map_some,Option.some.injEq]
   unfold zF
   by_cases h3:k=3
   ·subst h3; simp [h]
   ·simp [Ne.symm h2,h3,show ¬k=2 from fun e=>h2 e.symm]
 ·have:(List.range (mG L))[k]?=none:=List.getElem?_eq_none_iff.2 (by simp; omega)
  rw [this]
  rw [if_neg (by omega)]
  rfl
theorem VL {p:IR}{T l':List Int}{L:List (List Int)}{X:List mI}{i:Nat}(hi:i < L.length) (h:l'.length=(L.getD i []).length) :
  (mJ p T L X).set (6+3 * i) (Vc (ci .i64) 1 l')=mJ p T (L.set i l') X:=by
 have h4:=BL hi
 have hnn:L≠[]:=by intro h; rw [h] at hi; simp at hi
 have hn2:L.set i l'≠[]:=by intro h; have:=congrArg List.length h; simp at this; exact hnn this
 have hln:mG (L.set i l')=mG L:=by unfold mG; simp
 have hgl:∀j,((L.set i l').getD j []).length=(L.getD j []).length:=by
  intro j
  rw [List.getD_eq_getElem?_getD,List.getElem?_set]
  by_cases hj:i=j
  ·subst hj; rw [if_pos rfl,if_pos hi]; exact h
  ·rw [if_neg hj,←List.getD_eq_getElem?_getD]
 unfold mJ
 rw [hln,List.set_append_left _ _ (by simp; omega)]
 congr 1
 apply List.ext_getElem?
 intro k
 rw [List.getElem?_set,List.getElem?_map,List.getElem?_map]
 by_cases hk:k < mG L
 ·rw [List.getElem?_range hk]
  by_cases h2:6+3 * i=k
  ·subst h2
   rw [if_pos rfl,if_pos (by simp; omega)]
   simp only [Option.map_some,Option.some.injEq]
   unfold zF
   rw [if_neg (by omega),if_neg (by omega),if_neg (by omega),if_neg (by omega),if_neg (by omega),if_pos (by omega)]
   have:(6+3 * i - 6) / 3=i:=by omega
   rw [this,List.getD_eq_getElem?_getD,List.getElem?_set_self hi]; rfl
  ·rw [if_neg h2]
   simp only [Option.map_some,Option.some.injEq]
   unfold zF
   simp only [hgl,List.length_set,hnn,hn2,if_false]
   by_cases h6:k % 3=0∧5≤k
   ·have hj:i≠(k - 6) / 3:=by omega
    have:(L.set i l').getD ((k - 6) / 3) []=L.getD ((k - 6) / 3) []:=by
     rw [List.getD_eq_getElem?_getD,List.getElem?_set_ne hj,←List.getD_eq_getElem?_getD]
    rw [this]
   ·by_cases k1:k≤1
    ·rw [if_pos k1,if_pos k1]
    ·by_cases k2:k=2
     ·rw [if_neg k1,if_neg k1,if_pos k2,if_pos k2]
     ·by_cases k3:k=3
      ·rw [if_neg k1,if_neg k1,if_neg k2,if_neg k2,if_pos k3,if_pos k3]
      ·by_cases k4:k=4
       ·rw [if_neg k1,if_neg k1,if_neg k2,if_neg k2,if_neg k3,if_neg k3,if_pos k4,if_pos k4]
       ·have:¬k % 3=0:=by omega
        simp only [k1,k2,k3,k4,this,if_false]
 ·have:(List.range (mG L))[k]?=none:=List.getElem?_eq_none_iff.2 (by simp; omega)
  rw [this]
  rw [if_neg (by omega)]
  rfl
theorem I5 {m:Nat}{h:kU}:∀{C:List mI},(∀b∈C,oQ m h b=some b)→nW m h C=some C
 | [],_=>rfl
 | b::r,hC=>by
  rw [nW,hC b (by simp),I5 (C:=r) fun x hx=>hC x (by simp [hx])]
theorem xG {m:Nat}{h:kU}:∀{C:List kS},(∀b∈C,kS.oH m h b=b∧b.mV=true)→m_ m h C=some C
 | [],_=>rfl
 | b::r,hC=>by
  have h1:=hC b (by simp)
  have h2:=xG (m:=m) (h:=h) (C:=r) fun x hx=>hC x (by simp [hx])
  simp [m_,h1.1,h1.2,h2]
def yV (X:List mI):Prop:=∀b∈X,∀m h,oQ m h b=some b
theorem LH {m:Nat}{h:kU}{l:List Int}:oQ m h (Vc (ci .i64) 1 l)=some (Vc (ci .i64) 1 l):=by
 have:m_ m h (Rw (ci .i64) l).flatten=some (Rw (ci .i64) l).flatten:=by
  apply xG
  intro b hb
  rw [List.mem_flatten] at hb
  obtain⟨r,hr,hb⟩:=hb
  unfold Rw at hr
  obtain⟨x,_,rfl⟩:=List.mem_map.1 hr
  simp only [ci,List.mem_singleton] at hb
  subst hb
  exact⟨rfl,rfl⟩
 show(m_ m h (Rw (ci .i64) l).flatten).map (mI.vec l.length 1)=_
 rw [this]; rfl
theorem YA {p:IR}{T:List Int}{L:List (List Int)}{m:Nat}{h:kU}(hm:mG L≤m) {k:Nat}(hk:k < mG L):oQ m h (zF p T L k)=some (zF p T L k):=by
 have h4:=uM L
 unfold zF
 split
 ·simp [oQ,IR.cells]
 ·split
  ·exact LH
  ·split
   ·have e2:kS.oH m h (.vslice 2 T.length 0 T.length 1)=.vslice 2 T.length 0 T.length 1:=tX (by omega)
    have h5:=Sb L
    by_cases hL:L=[]
    ·have e4:kS.oH m h (.slice [] (.own 4))=.slice [] (.own 4):=by
      have:4 < m:=by omega
      simp [kS.oH,this]
     simp [oQ,IR.cells,hL,e2,e4]
    ·have e3:kS.oH m h (.vslice 4 L.length 0 L.length 1)=.vslice 4 L.length 0 L.length 1:=tX (by omega)
     simp [oQ,IR.cells,hL,e2,e3]
   ·split
    ·by_cases hL:L=[]
     ·rw [if_pos hL]; rfl
     rw [if_neg hL]
     show(m_ m h ((List.range L.length).map fun i=>sJ i (L.getD i []).length)).map (mI.vec L.length 1)=_
     rw [xG]
     ·rfl
     ·intro b hb
      obtain⟨i,hi,rfl⟩:=List.mem_map.1 hb
      have:=BL (List.mem_range.1 hi)
      exact⟨tX (by omega),rfl⟩
    ·split
     ·simp [oQ,mL.cells]
     ·split
      ·exact LH
      ·show(m_ m h [sJ ((k - 7) / 3) (L.getD ((k - 7) / 3) []).length]).map (mI.vec 1 1)=_
       rw [xG]
       ·rfl
       ·intro b hb
        simp only [List.mem_singleton] at hb
        subst hb
        refine⟨tX ?_,rfl⟩
        unfold mG at hk hm
        omega
theorem oJ {p:IR}{T:List Int}{L:List (List Int)}{X:List mI}:(mJ p T L X).length=mG L+X.length:=by simp [mJ]
theorem rF {p:IR}{T:List Int}{L:List (List Int)}{X Y:List mI}(hX:yV X):mS (mG L+X.length) (mJ p T L X++Y)=some (mJ p T L X):=by
 unfold mS
 rw [List.take_append_of_le_length (by rw [oJ]; exact Nat.le_refl _),List.take_of_length_le (by rw [oJ]; exact Nat.le_refl _)]
 apply I5
 intro b hb
 unfold mJ at hb
 rcases List.mem_append.1 hb with hb | hb
 ·obtain⟨k,hk,rfl⟩:=List.mem_map.1 hb
  exact YA (by omega) (List.mem_range.1 hk)
 ·exact hX b hb _ _
end Go.Proofs.YtkeoalhglkfbkaaDoor


namespace Go.Proofs.YtkeoalhglkfbkaaDoor
open Go Hk
theorem oO {p:IR}{T:List Int}{L:List (List Int)}{X Y:List mI}:mJ p T L X++Y=mJ p T L (X++Y):=by unfold mJ; rw [List.append_assoc]
def Rcl (p:IR) (T:List Int) (L:List (List Int)):List kS:=p.cells++[.vslice 2 T.length 0 T.length 1,if L=[] then .slice [] (.own 4) else .vslice 4 L.length 0 L.length 1]
theorem BJ {p:IR}{T:List Int}{L:List (List Int)}{X:List mI}:nC (mJ p T L X) 3=some (Rcl p T L):=by
 have h4:=uM L
 unfold nC
 rw [tJ (by omega)]
 rfl
theorem w6:∀T:List Int,(Rw (ci .i64) T).flatten=T.map (kS.int .i64)
 | []=>rfl
 | x::r=>by
  have:=w6 r
  have e:(Rw (ci .i64) (x::r)).flatten=ci .i64 x++(Rw (ci .i64) r).flatten:=rfl
  rw [e,this]; rfl
theorem Fc {p:IR}{T:List Int}{L:List (List Int)}{X:List mI}{a:Int}(h0:0≤a) (h1:a < T.length):kW false 1 (mJ p T L X) (.vptr 2 T.length a.toNat)=some (.int .i64 (tg T a)):=by
 have h4:=uM L
 have hg:mZ (mJ p T L X) 2 T.length=some (1,(Rw (ci .i64) T).flatten):=by
  unfold mZ
  rw [tJ (by omega)]
  simp [zF,Vc]
 rw [lG,hg]
 have hlt:a.toNat < T.length:=by omega
 simp only [Option.bind_some,w6,List.getElem?_map,List.getElem?_eq_getElem hlt,Option.map_some]
 unfold tg
 rw [List.getD_eq_getElem?_getD,List.getElem?_eq_getElem hlt]; rfl
theorem G4 {p:IR}{T:List Int}{L:List (List Int)}{X:List mI}:kW false 1 (mJ p T L X) (.ptr 3 5)=some (.vslice 2 T.length 0 T.length 1):=by
 rw [lH,BJ]; rfl
theorem yU {p:IR}{T:List Int}{L:List (List Int)}{X:List mI}{c:List kS}:nC (mJ p T L X++[.cells c]) (mG L+X.length)=some c:=by
 unfold nC
 rw [List.getElem?_append_right (by rw [oJ]; exact Nat.le_refl _),oJ,Nat.sub_self]
 rfl
theorem BK {p:IR}{T:List Int}{L:List (List Int)}{X Y:List mI}(hX:yV X) {v:kS}(hv:∀m h,kS.oL m h v=v) (hu:v.k8=v):mX (mG L+X.length) v (mJ p T L X++Y)=some (.ret v,mJ p T L X):=by
 unfold mX
 rw [rF hX]
 simp [hv,hu]
theorem aAX {p:IR}{T:List Int}{L:List (List Int)}{X:List mI}(hX:yV X) (x:Term) (hx:x.kind=1∨x.kind=2∧0≤x.a∧x.a < T.length) :
  KK 105 [.ptr 3 0,.agg x.cells] (mJ p T L X)=some (.ret (.int .i64 (rS x T)),mJ p T L X):=by
 refine mR (agG _ _ _ _) ?_
 have an:mH 4 (mJ p T L X) (.agg x.cells)=some (.ptr (mG L+X.length) 0,mJ p T L X++[.cells x.cells]):=by
  simp [Term.cells,oJ]
 have ld:∀o,kW false 1 (mJ p T L X++[.cells x.cells]) (.ptr (mG L+X.length) o)=x.cells[o]?:=by
  intro o; rw [lH,yU]; rfl
 have f1:∀o,kV o (.ptr (mG L+X.length) 0)=some (.ptr (mG L+X.length) o):=by intro o; simp [kV]
 have f2:kV 5 (.ptr 3 0)=some (.ptr 3 5):=rfl
 have nc:lX (.ptr 3 0)=some (.ptr 3 0):=rfl
 have r5:kW false 1 (mJ p T L X++[.cells x.cells]) (.ptr 3 5)=some (.vslice 2 T.length 0 T.length 1):=by rw [oO]; exact G4
 have fin:∀n:Int,mX (mG L+X.length) (.int .i64 n) (mJ p T L X++[.cells x.cells])=some (.ret (.int .i64 n),mJ p T L X):=fun n=>BK hX (fun _ _=>rfl) rfl
 have c0:x.cells[0]?=some (.int .i64 x.kind):=rfl
 have c1:x.cells[1]?=some (.int .i64 x.a):=rfl
 have c2:x.cells[2]?=some (.int .i64 x.yes):=rfl
 have c3:x.cells[3]?=some (.int .i64 x.no):=rfl
 have hl:(mJ p T L X).length=mG L+X.length:=oJ
 have tv:0≤x.a→x.a < T.length→kW false 1 (mJ p T L X++[.cells x.cells]) (.vptr 2 T.length x.a.toNat)=some (.int .i64 (tg T x.a)):=fun ha0 ha1=>by rw [oO]; exact Fc ha0 ha1
 generalize x.cells=xc at *
 generalize mJ p T L X++[.cells xc]=H at *
 unfold rS
 rcases hx with h1 | ⟨h2,ha0,ha1⟩
 ·have h1:=eq_true h1
  simp -implicitDefEqProofs [ZP,-lH,-mH,-Bp,an,ld,f1,c0,c1,c2,c3,h1,hl,fin]
 ·have hk:¬x.kind=1:=by omega
  have tv:=tv ha0 ha1
  have ix:kX 1 (.vslice 2 T.length 0 T.length 1) (.int .i64 x.a)=some (.vptr 2 T.length x.a.toNat):=by
   rw [qL,if_pos ⟨ha0,ha1,rfl⟩]; simp
  by_cases q1:tg T x.a=4294967295
  ·have q1:=eq_true q1
   simp -implicitDefEqProofs [ZP,-lH,-lG,-mH,-Bp,an,ld,f1,f2,nc,r5,ix,tv,c0,c1,c2,c3,hk,q1,hl,fin]
  ·by_cases q2:tg T x.a=0
   ·have q2:=eq_true q2
    simp -implicitDefEqProofs [ZP,-lH,-lG,-mH,-Bp,an,ld,f1,f2,nc,r5,ix,tv,c0,c1,c2,c3,hk,q1,q2,hl,fin]
   ·simp -implicitDefEqProofs [ZP,-lH,-lG,-mH,-Bp,an,ld,f1,f2,nc,r5,ix,tv,c0,c1,c2,c3,hk,q1,q2,hl,fin]
end Go.Proofs.YtkeoalhglkfbkaaDoor


namespace Go.Proofs.YtkeoalhglkfbkaaDoor
open Go Hk
theorem yR {p v:Int}(h:t201 p=some v):0≤v:=by
 obtain⟨n,h1,h2,_⟩:=qK p
 rw [h1] at h; cases h; exact h2
theorem pX {α β:Type}{x:Option α}{f:α→Option β}{v:β}(h:tb x f=some v):∃y,x=some y∧f y=some v:=by
 cases x with
 | none=>cases h
 | some y=>exact⟨y,rfl,h⟩
theorem U2 {a:Int}(h:0≤a) (n:Nat):0≤a.fdiv (2 ^ n):=Int.fdiv_nonneg h (Int.le_of_lt (Int.pow_pos (by decide)))
theorem ajE {a b v:Int}(h:t202 a b=some v):0≤v:=by
 unfold t202 at h; obtain⟨y,h1,h2⟩:=pX h; cases h2; exact yR h1
theorem ajF {a b v:Int}(h:t203 a b=some v):0≤v:=by
 unfold t203 at h; obtain⟨y,h1,h2⟩:=pX h; cases h2; exact yR h1
theorem ajI {a b v:Int}(h:t206 a b=some v):0≤v:=by
 unfold t206 at h; obtain⟨y,h1,h2⟩:=pX h; cases h2; exact yR h1
theorem PC {a b v:Int}(h:t207 a b=some v):0≤v:=by
 unfold t207 at h; obtain⟨y,h1,h2⟩:=pX h; cases h2; exact yR h1
theorem ajJ {a b v:Int}(h:t208 a b=some v):0≤v:=by
 unfold t208 at h; obtain⟨y,h1,h2⟩:=pX h; cases h2; exact yR h1
theorem ajK {a v:Int}(h:t209 a=some v):0≤v:=by
 unfold t209 at h; obtain⟨y,h1,h2⟩:=pX h; cases h2; exact yR h1
theorem ajL {a b v:Int}(h:t210 a b=some v):0≤v:=by
 unfold t210 at h
 obtain⟨y,_,h2⟩:=pX h
 obtain⟨z,_,h3⟩:=pX h2
 obtain⟨w,_,h4⟩:=pX h3
 obtain⟨u,h5,h6⟩:=pX h4
 cases h6; exact yR h5
theorem ajM {a b v:Int}(h:t211 a b=some v):0≤v:=by
 unfold t211 at h
 obtain⟨y,h1,h2⟩:=pX h
 obtain⟨z,_,h3⟩:=pX h2
 obtain⟨w,h4,h5⟩:=pX h3
 cases h5
 unfold Iw at h4
 split at h4
 ·cases h4
 ·cases h4; exact U2 (yR h1) _
theorem ajN {a b v:Int}(h:t212 a b=some v):0≤v:=by
 unfold t212 at h
 obtain⟨y,_,h2⟩:=pX h
 obtain⟨z,_,h3⟩:=pX h2
 obtain⟨w,_,h4⟩:=pX h3
 obtain⟨u,_,h5⟩:=pX h4
 obtain⟨x,_,h6⟩:=pX h5
 obtain⟨q,h7,h8⟩:=pX h6
 cases h8; exact PC h7
theorem Vq {b:Bool}{v:Int}(h:t242 b=some v):0≤v:=by
 cases b <;> (unfold t242 at h; cases h; decide)
theorem ajO {a b v:Int}(h:t213 a b=some v):0≤v:=by
 unfold t213 at h
 obtain⟨y,_,h2⟩:=pX h
 obtain⟨z,_,h3⟩:=pX h2
 obtain⟨w,h4,h5⟩:=pX h3
 cases h5; exact Vq h4
theorem ajP {a b v:Int}(h:t214 a b=some v):0≤v:=by
 unfold t214 at h
 obtain⟨y,_,h2⟩:=pX h
 obtain⟨z,_,h3⟩:=pX h2
 obtain⟨w,h4,h5⟩:=pX h3
 cases h5; exact Vq h4
theorem ajQ {a b v:Int}(h:t215 a b=some v):0≤v:=by
 unfold t215 at h
 obtain⟨y,h1,h2⟩:=pX h
 obtain⟨z,h3,h4⟩:=pX h2
 obtain⟨w,h5,h6⟩:=pX h4
 cases h6
 obtain⟨n,n1,n2,n3⟩:=qK a
 obtain⟨m,m1,m2,m3⟩:=qK b
 rw [n1] at h1; cases h1
 rw [m1] at h3; cases h3
 unfold Iw at h5
 split at h5
 ·cases h5
 ·cases h5
  rw [wrap64 (by omega) (by omega)]
  exact U2 (by omega) _
theorem ajR {a b c v:Int}(h:t216 a b c=some v):0≤v:=by
 unfold t216 at h; obtain⟨y,h1,h2⟩:=pX h; cases h2; exact PC h1
theorem adY (n:Int):0≤IntKind.wrap .u64 n∧IntKind.wrap .u64 n < 18446744073709551616:=by
 simp [IntKind.wrap,IntKind.signed,IntKind.bits]; omega
theorem acW {a b v:Int}(h:t240 a b=some v):0≤v∧v < 18446744073709551616:=by
 unfold t240 at h
 obtain⟨y,_,h2⟩:=pX h
 obtain⟨z,_,h3⟩:=pX h2
 cases h3; exact adY _
theorem ajG {a b v:Int}(h:t204 a b=some v):0≤v:=by
 unfold t204 at h
 obtain⟨y,_,h2⟩:=pX h
 cases h2
 unfold DU
 have h3:((BitVec.ofInt 64 y &&& BitVec.ofInt 64 4294967295).toNat)≤4294967295:=by
  rw [BitVec.toNat_and]
  exact Nat.le_trans Nat.and_le_right (by decide)
 have e:IntKind.u64.bits=64:=rfl
 rw [e]
 have:IntKind.wrap .u64 (((BitVec.ofInt 64 y &&& BitVec.ofInt 64 4294967295).toNat:Nat):Int)=(((BitVec.ofInt 64 y &&& BitVec.ofInt 64 4294967295).toNat:Nat):Int):=by
  generalize (BitVec.ofInt 64 y &&& BitVec.ofInt 64 4294967295).toNat=q at *
  simp only [IntKind.wrap,IntKind.signed,IntKind.bits]; simp; omega
 rw [this,wrap64 (by omega) (by omega)]
 omega
theorem ajH {a b v:Int}(h:t205 a b=some v):0≤v:=by
 unfold t205 at h
 obtain⟨y,h1,h2⟩:=pX h
 obtain⟨z,h3,h4⟩:=pX h2
 cases h4
 have hy:=acW h1
 unfold Iw at h3
 split at h3
 ·cases h3
 ·cases h3
  have e:(2:Int) ^ (min (32:Int).toNat IntKind.u64.bits)=4294967296:=by decide
  rw [e]
  have:0≤y.fdiv 4294967296:=Int.fdiv_nonneg hy.1 (by decide)
  have h2:y.fdiv 4294967296≤y:=by rw [Int.fdiv_eq_ediv_of_nonneg _ (by decide)]; omega
  have h3:y.fdiv 4294967296 < 4294967296:=by rw [Int.fdiv_eq_ediv_of_nonneg _ (by decide)]; omega
  rw [wrap64 (by omega) (by omega)]
  exact this
theorem ajX {o:Op}{a b c v:Int}(h:uJ o a b c=some v):0≤v:=by
 rcases EH o a b c with ⟨h1,h2,_⟩ | ⟨_,_,h3⟩
 ·unfold uJ at h
  rcases (show o.kind=1∨o.kind=2∨o.kind=3∨o.kind=4∨o.kind=5∨o.kind=6∨o.kind=7∨o.kind=8∨o.kind=9∨o.kind=10∨o.kind=11∨o.kind=12∨o.kind=13∨o.kind=14∨o.kind=15∨o.kind=16∨o.kind=17 by omega) with k | k | k | k | k | k | k | k | k | k | k | k | k | k | k | k | k
  ·obtain⟨u,e1,e2⟩:=adL k a b c; rw [e2] at h; cases h; exact yR e1
  ·obtain⟨u,e1,e2⟩:=al5 k a b c; rw [e2] at h; cases h; exact yR e1
  ·obtain⟨u,e1,e2⟩:=al6 k a b c; rw [e2] at h; cases h; exact ajE e1
  ·obtain⟨u,e1,e2⟩:=al7 k a b c; rw [e2] at h; cases h; exact ajF e1
  ·obtain⟨u,e1,e2⟩:=al8 k a b c; rw [e2] at h; cases h; exact ajG e1
  ·obtain⟨u,e1,e2⟩:=al9 k a b c; rw [e2] at h; cases h; exact ajH e1
  ·obtain⟨u,e1,e2⟩:=amA k a b c; rw [e2] at h; cases h; exact ajI e1
  ·obtain⟨u,e1,e2⟩:=amB k a b c; rw [e2] at h; cases h; exact PC e1
  ·obtain⟨u,e1,e2⟩:=amC k a b c; rw [e2] at h; cases h; exact ajJ e1
  ·obtain⟨u,e1,e2⟩:=adM k a b c; rw [e2] at h; cases h; exact ajK e1
  ·obtain⟨u,e1,e2⟩:=adN k a b c; rw [e2] at h; cases h; exact ajL e1
  ·obtain⟨u,e1,e2⟩:=adO k a b c; rw [e2] at h; cases h; exact ajM e1
  ·obtain⟨u,e1,e2⟩:=adP k a b c; rw [e2] at h; cases h; exact ajN e1
  ·obtain⟨u,e1,e2⟩:=adQ k a b c; rw [e2] at h; cases h; exact ajO e1
  ·obtain⟨u,e1,e2⟩:=adR k a b c; rw [e2] at h; cases h; exact ajP e1
  ·obtain⟨u,e1,e2⟩:=adS k a b c; rw [e2] at h; cases h; exact ajQ e1
  ·obtain⟨u,e1,e2⟩:=adT k a b c; rw [e2] at h; cases h; exact ajR e1
 ·rw [h3] at h; cases h
end Go.Proofs.YtkeoalhglkfbkaaDoor


namespace Go.Proofs.YtkeoalhglkfbkaaDoor
open Go Hk
section
variable {H:kU}{T:List Int}{m k:Nat}(r5:kW false 1 H (.ptr 3 5)=some (.vslice 2 T.length 0 T.length 1))
 (tv:∀a:Int,0≤a→a < T.length→kW false 1 H (.vptr 2 T.length a.toNat)=some (.int .i64 (tg T a)))
 (tr:mS m H=some H) (hm:3 < m) (hk:k < m)
include r5 tv tr hm hk
theorem Nf {o:Op}(hu:∀t∈mU o,0≤t∧t < T.length) :
  mQ (wA KK m) ([.ptr 3 0,.ptr k 0,.bool false,.int .i64 0,.int .i64 0,.int .i64 0,.slice ((mU o).map fun z=>[.int .i64 z]) .no,.int .i64 ((mU o).length:Int),.int .i64 0],H) =
   some (.exit 0,[.ptr 3 0,.ptr k 0,.bool false,.int .i64 (pQ T o 0),.int .i64 (pQ T o 1),.int .i64 (pQ T o 2),.slice ((mU o).map fun z=>[.int .i64 z]) .no,.int .i64 ((mU o).length:Int),.int .i64 ((mU o).length:Int)],H):=by
 have nc:lX (.ptr 3 0)=some (.ptr 3 0):=rfl
 have f5:kV 5 (.ptr 3 0)=some (.ptr 3 5):=rfl
 have s3:∀h,kS.oL m h (.ptr 3 0)=.ptr 3 0:=fun h=>by simp [kS.oL,kS.oH,hm]
 have sk:∀h,kS.oL m h (.ptr k 0)=.ptr k 0:=fun h=>by simp [kS.oL,kS.oH,hk]
 have ix:∀a:Int,0≤a→a < T.length→kX 1 (.vslice 2 T.length 0 T.length 1) (.int .i64 a)=some (.vptr 2 T.length a.toNat):=by
  intro a h0 h1
  rw [qL,if_pos ⟨h0,h1,rfl⟩]; simp
 have u1:IntKind.i64.wrap 1=1:=by decide
 have u2:IntKind.i64.wrap 2=2:=by decide
 have u3:IntKind.i64.wrap 3=3:=by decide
 have j0:∀x r,kX 1 (.slice ([x]::r) .no) (.int .i64 0)=some (.pptr [x]):=fun _ _=>rfl
 have j1:∀x y r,kX 1 (.slice (x::[y]::r) .no) (.int .i64 1)=some (.pptr [y]):=fun _ _ _=>rfl
 have j2:∀x y z r,kX 1 (.slice (x::y::[z]::r) .no) (.int .i64 2)=some (.pptr [z]):=fun _ _ _ _=>rfl
 have pl:∀n:Int,kW false 1 H (.pptr [.int .i64 n])=some (.int .i64 n):=fun _=>rfl
 have tr':nW m H (List.take m H)=some H:=tr
 have hs:=yY o.kind
 unfold pQ
 unfold mU at hu ⊢
 rcases (show(mM o.kind).src=0∨(mM o.kind).src=1∨(mM o.kind).src=2∨(mM o.kind).src=3 by omega) with h | h | h | h <;> rw [h] at hu ⊢ <;> simp only [List.take,List.map,List.length] at hu ⊢
 ·refine nH ?_
  unfold wA
  simp -implicitDefEqProofs [-lH,-oC,-nR,-lW,lJ,tr',s3,sk]
 ·obtain⟨a0,a1⟩:=hu o.a (by simp)
  have va:=tv _ a0 a1
  have xa:=ix _ a0 a1
  rw [oU (s':=([.ptr 3 0,.ptr k 0,.bool false,.int .i64 (tg T o.a),.int .i64 0,.int .i64 0,.slice [[.int .i64 o.a]] .no,.int .i64 1,.int .i64 1],H))]
  ·refine nH ?_
   unfold wA
   simp -implicitDefEqProofs [-lH,-oC,-nR,-lW,lJ,tr',s3,sk]
  ·unfold wA
   simp -implicitDefEqProofs [-lH,-oC,-nR,-lW,lJ,tr',s3,sk,j0,j1,j2,pl,nc,f5,r5,va,xa,u1]
 ·obtain⟨a0,a1⟩:=hu o.a (by simp)
  obtain⟨b0,b1⟩:=hu o.b (by simp)
  have va:=tv _ a0 a1
  have xa:=ix _ a0 a1
  have vb:=tv _ b0 b1
  have xb:=ix _ b0 b1
  rw [oU (s':=([.ptr 3 0,.ptr k 0,.bool false,.int .i64 (tg T o.a),.int .i64 0,.int .i64 0,.slice [[.int .i64 o.a],[.int .i64 o.b]] .no,.int .i64 2,.int .i64 1],H)),
   oU (s':=([.ptr 3 0,.ptr k 0,.bool false,.int .i64 (tg T o.a),.int .i64 (tg T o.b),.int .i64 0,.slice [[.int .i64 o.a],[.int .i64 o.b]] .no,.int .i64 2,.int .i64 2],H))]
  ·refine nH ?_
   unfold wA
   simp -implicitDefEqProofs [-lH,-oC,-nR,-lW,lJ,tr',s3,sk]
  ·unfold wA
   simp -implicitDefEqProofs [-lH,-oC,-nR,-lW,lJ,tr',s3,sk,j0,j1,j2,pl,nc,f5,r5,vb,xb,u2]
  ·unfold wA
   simp -implicitDefEqProofs [-lH,-oC,-nR,-lW,lJ,tr',s3,sk,j0,j1,j2,pl,nc,f5,r5,va,xa,u1]
 ·obtain⟨a0,a1⟩:=hu o.a (by simp)
  obtain⟨b0,b1⟩:=hu o.b (by simp)
  obtain⟨c0,c1⟩:=hu o.c (by simp)
  have va:=tv _ a0 a1
  have xa:=ix _ a0 a1
  have vb:=tv _ b0 b1
  have xb:=ix _ b0 b1
  have vc:=tv _ c0 c1
  have xc:=ix _ c0 c1
  rw [oU (s':=([.ptr 3 0,.ptr k 0,.bool false,.int .i64 (tg T o.a),.int .i64 0,.int .i64 0,.slice [[.int .i64 o.a],[.int .i64 o.b],[.int .i64 o.c]] .no,.int .i64 3,.int .i64 1],H)),
   oU (s':=([.ptr 3 0,.ptr k 0,.bool false,.int .i64 (tg T o.a),.int .i64 (tg T o.b),.int .i64 0,.slice [[.int .i64 o.a],[.int .i64 o.b],[.int .i64 o.c]] .no,.int .i64 3,.int .i64 2],H)),
   oU (s':=([.ptr 3 0,.ptr k 0,.bool false,.int .i64 (tg T o.a),.int .i64 (tg T o.b),.int .i64 (tg T o.c),.slice [[.int .i64 o.a],[.int .i64 o.b],[.int .i64 o.c]] .no,.int .i64 3,.int .i64 3],H))]
  ·refine nH ?_
   unfold wA
   simp -implicitDefEqProofs [-lH,-oC,-nR,-lW,lJ,tr',s3,sk]
  ·unfold wA
   simp -implicitDefEqProofs [-lH,-oC,-nR,-lW,lJ,tr',s3,sk,j0,j1,j2,pl,nc,f5,r5,vc,xc,u3]
  ·unfold wA
   simp -implicitDefEqProofs [-lH,-oC,-nR,-lW,lJ,tr',s3,sk,j0,j1,j2,pl,nc,f5,r5,vb,xb,u2]
  ·unfold wA
   simp -implicitDefEqProofs [-lH,-oC,-nR,-lW,lJ,tr',s3,sk,j0,j1,j2,pl,nc,f5,r5,va,xa,u1]
end
end Go.Proofs.YtkeoalhglkfbkaaDoor


namespace Go.Proofs.YtkeoalhglkfbkaaDoor
open Go Hk
section
variable {p:IR}{T:List Int}{L:List (List Int)}{X:List mI}
theorem MN {d v:Int}(h0:0≤d) (h1:d < T.length):lT 1 (mJ p T L X) (.vptr 2 T.length d.toNat) (.int .i64 v)=some (mJ p (rV T d v) L X):=by
 have h4:=uM L
 have hg:mZ (mJ p T L X) 2 T.length=some (1,(Rw (ci .i64) T).flatten):=by
  unfold mZ
  rw [tJ (by omega)]
  simp [zF,Vc]
 have hlt:d.toNat < T.length:=by omega
 rw [lC,hg]
 have hset:(mJ p T L X).set 2 (.vec T.length 1 ((T.set d.toNat v).map (kS.int .i64)))=mJ p (rV T d v) L X:=by
  have:=VM (p:=p) (L:=L) (X:=X) (T:=T) (T':=rV T d v) (by simp [rV])
  rw [←this]
  unfold Vc
  rw [w6]
  simp [rV]
 simp only [Option.bind_some,w6]
 rw [if_pos ⟨rfl,by simp; omega,by rfl⟩,←hset,List.map_set]
 have hp:putCells (T.map (kS.int .i64)) d.toNat (kS.cells (.int .i64 v))=(T.map (kS.int .i64)).set d.toNat (.int .i64 v):=by
  simp only [putCells,kS.cells]
  rw [List.set_eq_take_append_cons_drop,if_pos (by simpa using hlt)]
  simp
 rw [hp]
theorem VZ (hX:yV X) {o:Op}(hu:∀t∈mU o,0≤t∧t < T.length) (hd0:0≤o.dst) (hd1:o.dst < T.length) {v:Int}(hv:t166 o (pQ T o 0) (pQ T o 1) (pQ T o 2)=some (v,true)) :
  KK 103 [.ptr 3 0,.agg o.cells] (mJ p T L X)=some (.ret (.bool true),mJ p (rV T o.dst v) L X):=by
 refine mR (Vd _ _ _ _) ?_
 have h4:=uM L
 have an:mH 6 (mJ p T L X) (.agg o.cells)=some (.ptr (mG L+X.length) 0,mJ p T L X++[.cells o.cells]):=by
  simp [Op.cells,oJ]
 have l6:∀T',kW true 6 (mJ p T' L X++[.cells o.cells]) (.ptr (mG L+X.length) 0)=some (.agg o.cells):=by
  intro T'; rw [lV,yU]; simp [Op.cells]
 have ld:∀i,kW false 1 (mJ p T L X++[.cells o.cells]) (.ptr (mG L+X.length) i)=o.cells[i]?:=by
  intro i; rw [lH,yU]; rfl
 have un:kS.k8 (.agg o.cells)=.agg o.cells:=rfl
 have k74:∀h,KK 74 [.agg o.cells] h=some (.ret (.slice ((mU o).map fun z=>[.int .i64 z]) .no),h):=fun h=>c74 o h
 have k166:∀h,KK 166 [.agg o.cells,.int .i64 (pQ T o 0),.int .i64 (pQ T o 1),.int .i64 (pQ T o 2)] h=some (.ret (.tuple [.int .i64 v,.bool true]),h):=fun h=>(Ly o _ _ _ h).trans (by rw [hv]; rfl)
 have f1:∀i,kV i (.ptr (mG L+X.length) 0)=some (.ptr (mG L+X.length) i):=by intro o; simp [kV]
 have f2:kV 5 (.ptr 3 0)=some (.ptr 3 5):=rfl
 have nc:lX (.ptr 3 0)=some (.ptr 3 0):=rfl
 have hXo:yV (X++[.cells o.cells]):=by
  intro b hb m h
  rcases List.mem_append.1 hb with hb | hb
  ·exact hX b hb m h
  ·simp only [List.mem_singleton] at hb
   subst hb
   simp [oQ,Op.cells]
 have r5:kW false 1 (mJ p T L X++[.cells o.cells]) (.ptr 3 5)=some (.vslice 2 T.length 0 T.length 1):=by rw [oO]; exact G4
 have tv:∀a:Int,0≤a→a < T.length→kW false 1 (mJ p T L X++[.cells o.cells]) (.vptr 2 T.length a.toNat)=some (.int .i64 (tg T a)):=fun a h0 h1=>by rw [oO]; exact Fc h0 h1
 have hl:(mJ p T L X++[mI.cells o.cells]).length=mG L+X.length+1:=by rw [oO,oJ]; simp; omega
 have tr:mS (mG L+X.length+1) (mJ p T L X++[.cells o.cells])=some (mJ p T L X++[.cells o.cells]):=by
  rw [oO]
  have:=rF (p:=p) (T:=T) (L:=L) (Y:=[]) hXo
  rw [List.append_nil] at this
  simpa [Nat.add_assoc] using this
 have lp:=Nf (H:=mJ p T L X++[.cells o.cells]) (T:=T) (m:=mG L+X.length+1) (k:=mG L+X.length) r5 tv tr (by omega) (by omega) (o:=o) hu
 have st:lT 1 (mJ p T L X++[.cells o.cells]) (.vptr 2 T.length o.dst.toNat) (.int .i64 v)=some (mJ p (rV T o.dst v) L X++[.cells o.cells]):=by
  rw [oO,oO]; exact MN hd0 hd1
 have ix:kX 1 (.vslice 2 T.length 0 T.length 1) (.int .i64 o.dst)=some (.vptr 2 T.length o.dst.toNat):=by
  rw [qL,if_pos ⟨hd0,hd1,rfl⟩]; simp
 have fin:mX (mG L+X.length) (.bool true) (mJ p (rV T o.dst v) L X++[.cells o.cells])=some (.ret (.bool true),mJ p (rV T o.dst v) L X):=BK hX (fun _ _=>rfl) rfl
 have c1:o.cells[1]?=some (.int .i64 o.dst):=rfl
 have hl0:(mJ p T L X).length=mG L+X.length:=oJ
 have ln:lS (.slice ((mU o).map fun z=>[.int .i64 z]) .no)=some (.int .i64 ((mU o).length:Int)):=by simp
 have l6:=l6 T
 generalize o.cells=oc at *
 generalize hS:kS.slice ((mU o).map fun z=>[kS.int .i64 z]) Tok.no=S at *
 generalize mJ p T L X++[.cells oc]=H at *
 generalize mJ p (rV T o.dst v) L X++[.cells oc]=H2 at *
 simp -implicitDefEqProofs [Wp,-lH,-lV,-oC,-nR,-lC,-mH,-Bp,an,l6,un,k74,ln,hl,lp,k166,f1,f2,nc,r5,ld,c1,ix,st,hl0,fin]
end
end Go.Proofs.YtkeoalhglkfbkaaDoor


namespace Go.Proofs.YtkeoalhglkfbkaaDoor
open Go Hk
section
variable {p:IR}{T:List Int}{L:List (List Int)}{X:List mI}
theorem ML (hL:L≠[]):kW false 1 (mJ p T L X) (.ptr 3 6)=some (.vslice 4 L.length 0 L.length 1):=by
 rw [lH,BJ]
 simp [Rcl,hL,IR.cells]
theorem MM:kW false 1 (mJ p T L X) (.ptr 3 1)=some (.slice (Rw mL.cells p.arrays) .no):=by
 rw [lH,BJ]; rfl
theorem Qd {i:Nat}(hi:i < L.length):kW false 1 (mJ p T L X) (.vptr 4 L.length i)=some (sJ i (L.getD i []).length):=by
 have h5:=BL hi
 have hLn:L≠[]:=by intro h; rw [h] at hi; simp at hi
 have hg:mZ (mJ p T L X) 4 L.length=some (1,(List.range L.length).map fun i=>sJ i (L.getD i []).length):=by
  unfold mZ
  rw [tJ (by omega)]
  simp [zF,hLn]
 rw [lG,hg]
 simp only [Option.bind_some,List.getElem?_map,List.getElem?_range hi,Option.map_some]
theorem Qe {i:Nat}(hi:i < L.length):mZ (mJ p T L X) (6+3 * i) (L.getD i []).length=some (1,(L.getD i []).map (kS.int .i64)):=by
 have h5:=BL hi
 unfold mZ
 rw [tJ h5]
 have:zF p T L (6+3 * i)=Vc (ci .i64) 1 (L.getD i []):=by
  unfold zF
  rw [if_neg (by omega),if_neg (by omega),if_neg (by omega),if_neg (by omega),if_neg (by omega),if_pos (by omega)]
  have:(6+3 * i - 6) / 3=i:=by omega
  rw [this]
 rw [this]
 unfold Vc
 rw [w6]
 simp
theorem UM {i:Nat}(hi:i < L.length) {a:Int}(h0:0≤a) (h1:a < (L.getD i []).length):kW false 1 (mJ p T L X) (.vptr (6+3 * i) (L.getD i []).length a.toNat)=some (.int .i64 (tg (L.getD i []) a)):=by
 rw [lG,Qe hi]
 generalize L.getD i []=l at *
 have hlt:a.toNat < l.length:=by omega
 simp only [Option.bind_some,List.getElem?_map,List.getElem?_eq_getElem hlt,Option.map_some]
 unfold tg
 rw [List.getD_eq_getElem?_getD,List.getElem?_eq_getElem hlt]; rfl
theorem Sa {i:Nat}(hi:i < L.length) {a v:Int}(h0:0≤a) (h1:a < (L.getD i []).length):lT 1 (mJ p T L X) (.vptr (6+3 * i) (L.getD i []).length a.toNat) (.int .i64 v)=some (mJ p T (L.set i (rV (L.getD i []) a v)) X):=by
 have hs:=VL (p:=p) (T:=T) (X:=X) hi (l':=rV (L.getD i []) a v) (by simp [rV])
 rw [lC,Qe hi]
 rw [←hs]
 generalize L.getD i []=l at *
 have hlt:a.toNat < l.length:=by omega
 simp only [Option.bind_some]
 rw [if_pos ⟨rfl,by simp; omega,by rfl⟩]
 have hp:putCells (l.map (kS.int .i64)) a.toNat (kS.cells (.int .i64 v))=(rV l a v).map (kS.int .i64):=by
  unfold rV
  rw [List.map_set]
  simp only [putCells,kS.cells]
  rw [List.set_eq_take_append_cons_drop,if_pos (by simpa using hlt)]
  simp
 rw [hp]
 unfold Vc
 rw [w6]
 simp [rV]
end
theorem am2 (b:Int):DU .i64 b 255=mk8 b:=rfl
theorem arD (b:Int):0≤mk8 b:=by
 unfold mk8
 have h3:((BitVec.ofInt 64 b &&& BitVec.ofInt 64 255).toNat)≤255:=by
  rw [BitVec.toNat_and]
  exact Nat.le_trans Nat.and_le_right (by decide)
 rw [wrap64 (by omega) (by omega)]
 omega
end Go.Proofs.YtkeoalhglkfbkaaDoor


namespace Go.Proofs.YtkeoalhglkfbkaaDoor
open Go Hk
section
variable {p:IR}{T:List Int}{L:List (List Int)}{X:List mI}
theorem Y1 (hX:yV X) {o:Op}(hu:∀t∈mU o,0≤t∧t < T.length) (hv:t166 o (pQ T o 0) (pQ T o 1) (pQ T o 2)=some (0,false))
  (hi0:0≤o.imm) (hi:o.imm.toNat < L.length) (hLA:L.length=p.arrays.length) (ha0:0≤pQ T o 0) :
  (((L.getD o.imm.toNat []).length:Int)≤pQ T o 0→KK 103 [.ptr 3 0,.agg o.cells] (mJ p T L X)=some (.ret (.bool false),mJ p T L X)) ∧
  (¬((L.getD o.imm.toNat []).length:Int)≤pQ T o 0→o.kind=18→0≤o.dst→o.dst < T.length→KK 103 [.ptr 3 0,.agg o.cells] (mJ p T L X)=some (.ret (.bool true),mJ p (rV T o.dst (tg (L.getD o.imm.toNat []) (pQ T o 0))) L X)) ∧
  (¬((L.getD o.imm.toNat []).length:Int)≤pQ T o 0→o.kind≠18→KK 103 [.ptr 3 0,.agg o.cells] (mJ p T L X)=some (.ret (.bool true),mJ p T (L.set o.imm.toNat (rV (L.getD o.imm.toNat []) (pQ T o 0) (if (p.arrays[o.imm.toNat]?).map (·.elem)=some 1 then mk8 (pQ T o 1) else pQ T o 1))) X)):=by
 have h4:=uM L
 have an:mH 6 (mJ p T L X) (.agg o.cells)=some (.ptr (mG L+X.length) 0,mJ p T L X++[.cells o.cells]):=by
  simp [Op.cells,oJ]
 have l6:∀T',kW true 6 (mJ p T' L X++[.cells o.cells]) (.ptr (mG L+X.length) 0)=some (.agg o.cells):=by
  intro T'; rw [lV,yU]; simp [Op.cells]
 have ld:∀i,kW false 1 (mJ p T L X++[.cells o.cells]) (.ptr (mG L+X.length) i)=o.cells[i]?:=by
  intro i; rw [lH,yU]; rfl
 have un:kS.k8 (.agg o.cells)=.agg o.cells:=rfl
 have k74:∀h,KK 74 [.agg o.cells] h=some (.ret (.slice ((mU o).map fun z=>[.int .i64 z]) .no),h):=fun h=>c74 o h
 have k166:∀h,KK 166 [.agg o.cells,.int .i64 (pQ T o 0),.int .i64 (pQ T o 1),.int .i64 (pQ T o 2)] h=some (.ret (.tuple [.int .i64 0,.bool false]),h):=fun h=>(Ly o _ _ _ h).trans (by rw [hv]; rfl)
 have f1:∀i,kV i (.ptr (mG L+X.length) 0)=some (.ptr (mG L+X.length) i):=by intro o; simp [kV]
 have f2:kV 5 (.ptr 3 0)=some (.ptr 3 5):=rfl
 have nc:lX (.ptr 3 0)=some (.ptr 3 0):=rfl
 have hXo:yV (X++[.cells o.cells]):=by
  intro b hb m h
  rcases List.mem_append.1 hb with hb | hb
  ·exact hX b hb m h
  ·simp only [List.mem_singleton] at hb
   subst hb
   simp [oQ,Op.cells]
 have r5:kW false 1 (mJ p T L X++[.cells o.cells]) (.ptr 3 5)=some (.vslice 2 T.length 0 T.length 1):=by rw [oO]; exact G4
 have tv:∀a:Int,0≤a→a < T.length→kW false 1 (mJ p T L X++[.cells o.cells]) (.vptr 2 T.length a.toNat)=some (.int .i64 (tg T a)):=fun a h0 h1=>by rw [oO]; exact Fc h0 h1
 have hl:(mJ p T L X++[mI.cells o.cells]).length=mG L+X.length+1:=by rw [oO,oJ]; simp; omega
 have tr:mS (mG L+X.length+1) (mJ p T L X++[.cells o.cells])=some (mJ p T L X++[.cells o.cells]):=by
  rw [oO]
  have:=rF (p:=p) (T:=T) (L:=L) (Y:=[]) hXo
  rw [List.append_nil] at this
  simpa [Nat.add_assoc] using this
 have lp:=Nf (H:=mJ p T L X++[.cells o.cells]) (T:=T) (m:=mG L+X.length+1) (k:=mG L+X.length) r5 tv tr (by omega) (by omega) (o:=o) hu
 have hLn:L≠[]:=by intro h; rw [h] at hi; simp at hi
 have f6:kV 6 (.ptr 3 0)=some (.ptr 3 6):=rfl
 have f0:kV 0 (.ptr 3 0)=some (.ptr 3 0):=rfl
 have f3:kV 1 (.ptr 3 0)=some (.ptr 3 1):=rfl
 have r6:kW false 1 (mJ p T L X++[.cells o.cells]) (.ptr 3 6)=some (.vslice 4 L.length 0 L.length 1):=by rw [oO]; exact ML hLn
 have r1:kW false 1 (mJ p T L X++[.cells o.cells]) (.ptr 3 1)=some (.slice (Rw mL.cells p.arrays) .no):=by rw [oO]; exact MM
 have rr:kW false 1 (mJ p T L X++[.cells o.cells]) (.vptr 4 L.length o.imm.toNat)=some (sJ o.imm.toNat (L.getD o.imm.toNat []).length):=by rw [oO]; exact Qd hi
 have xi:kX 1 (.vslice 4 L.length 0 L.length 1) (.int .i64 o.imm)=some (.vptr 4 L.length o.imm.toNat):=by
  rw [qL,if_pos ⟨hi0,by omega,rfl⟩]; simp
 have c0:o.cells[0]?=some (.int .i64 o.kind):=rfl
 have c1:o.cells[1]?=some (.int .i64 o.dst):=rfl
 have c5:o.cells[5]?=some (.int .i64 o.imm):=rfl
 have hl0:(mJ p T L X).length=mG L+X.length:=oJ
 have ln:lS (.slice ((mU o).map fun z=>[.int .i64 z]) .no)=some (.int .i64 ((mU o).length:Int)):=by simp
 have lr:lS (sJ o.imm.toNat (L.getD o.imm.toNat []).length)=some (.int .i64 ((L.getD o.imm.toNat []).length:Int)):=rfl
 have l6:=l6 T
 have SJ:mX (mG L+X.length) (.bool false) (mJ p T L X++[.cells o.cells])=some (.ret (.bool false),mJ p T L X):=BK hX (fun _ _=>rfl) rfl
 have el:¬((L.getD o.imm.toNat []).length:Int)≤pQ T o 0→kW false 1 (mJ p T L X++[.cells o.cells]) (.vptr (6+3 * o.imm.toNat) (L.getD o.imm.toNat []).length (pQ T o 0).toNat)=some (.int .i64 (tg (L.getD o.imm.toNat []) (pQ T o 0))):=fun h=>by rw [oO]; exact UM hi ha0 (by omega)
 have xr:¬((L.getD o.imm.toNat []).length:Int)≤pQ T o 0→kX 1 (sJ o.imm.toNat (L.getD o.imm.toNat []).length) (.int .i64 (pQ T o 0))=some (.vptr (6+3 * o.imm.toNat) (L.getD o.imm.toNat []).length (pQ T o 0).toNat):=fun h=>by
  unfold sJ; rw [qL,if_pos ⟨ha0,by omega,rfl⟩]; simp
 have st1:∀v,0≤o.dst→o.dst < T.length→lT 1 (mJ p T L X++[.cells o.cells]) (.vptr 2 T.length o.dst.toNat) (.int .i64 v)=some (mJ p (rV T o.dst v) L X++[.cells o.cells]):=by
  intro v hd0 hd1; rw [oO,oO]; exact MN hd0 hd1
 have xd:0≤o.dst→o.dst < T.length→kX 1 (.vslice 2 T.length 0 T.length 1) (.int .i64 o.dst)=some (.vptr 2 T.length o.dst.toNat):=by
  intro hd0 hd1
  rw [qL,if_pos ⟨hd0,hd1,rfl⟩]; simp
 have st2:∀v,¬((L.getD o.imm.toNat []).length:Int)≤pQ T o 0→lT 1 (mJ p T L X++[.cells o.cells]) (.vptr (6+3 * o.imm.toNat) (L.getD o.imm.toNat []).length (pQ T o 0).toNat) (.int .i64 v)=some (mJ p T (L.set o.imm.toNat (rV (L.getD o.imm.toNat []) (pQ T o 0) v)) X++[.cells o.cells]):=by
  intro v h; rw [oO,oO]; exact Sa hi ha0 (by omega)
 have fin1:∀v,mX (mG L+X.length) (.bool true) (mJ p (rV T o.dst v) L X++[.cells o.cells])=some (.ret (.bool true),mJ p (rV T o.dst v) L X):=fun v=>BK hX (fun _ _=>rfl) rfl
 have hnn:∀v,mG (L.set o.imm.toNat (rV (L.getD o.imm.toNat []) (pQ T o 0) v))=mG L:=by
  intro v
  unfold mG; simp
 have fin2:∀v,mX (mG L+X.length) (.bool true) (mJ p T (L.set o.imm.toNat (rV (L.getD o.imm.toNat []) (pQ T o 0) v)) X++[.cells o.cells])=some (.ret (.bool true),mJ p T (L.set o.imm.toNat (rV (L.getD o.imm.toNat []) (pQ T o 0) v)) X):=fun v=>by
  rw [←hnn v]; exact BK hX (fun _ _=>rfl) rfl
 obtain⟨x,hx⟩:∃x,p.arrays[o.imm.toNat]?=some x:=⟨_,List.getElem?_eq_getElem (by omega)⟩
 have xa:kX 4 (.slice (Rw mL.cells p.arrays) .no) (.int .i64 o.imm)=some (.pptr x.cells):=by
  have e:Rw mL.cells p.arrays=p.arrays.map mL.cells:=rfl
  rw [e]
  unfold kX
  simp [hi0,hx,mL.cells]
 have xe:kW false 1 (mJ p T L X++[.cells o.cells]) (.pptr x.cells)=some (.int .i64 x.elem):=rfl
 have xf:kV 0 (.pptr x.cells)=some (.pptr x.cells):=rfl
 have hel:((p.arrays[o.imm.toNat]?).map (·.elem)=some 1)=(x.elem=1):=by rw [hx]; simp
 simp only [hel]
 clear hnn
 generalize L.getD o.imm.toNat []=lq at *
 refine⟨fun hc=>?_,fun hc hk hd0 hd1=>?_,fun hc hk=>?_⟩ <;> refine mR (Vd _ _ _ _) ?_
 ·have hc:=eq_true hc
  generalize o.cells=oc at *
  generalize hS:kS.slice ((mU o).map fun z=>[kS.int .i64 z]) Tok.no=S at *
  generalize mJ p T L X++[.cells oc]=H at *
  generalize sJ o.imm.toNat (L.getD o.imm.toNat []).length=row at *
  simp -implicitDefEqProofs [Wp,-lH,-lV,-oC,-nR,-lC,-tL,-mH,-Bp,an,l6,un,k74,ln,hl,lp,k166,f1,f2,f6,nc,r6,ld,c5,xi,rr,lr,hc,hl0,SJ]
 ·have el:=el hc
  have xr:=xr hc
  have st1:=fun v=>st1 v hd0 hd1
  have xd:=xd hd0 hd1
  have hk:=eq_true hk
  generalize o.cells=oc at *
  generalize hS:kS.slice ((mU o).map fun z=>[kS.int .i64 z]) Tok.no=S at *
  generalize mJ p T L X++[.cells oc]=H at *
  generalize sJ o.imm.toNat (L.getD o.imm.toNat []).length=row at *
  simp -implicitDefEqProofs [Wp,-lH,-lV,-oC,-nR,-lC,-tL,-mH,-Bp,an,l6,un,k74,ln,hl,lp,k166,f1,f2,f6,nc,r5,r6,ld,c0,c1,c5,xi,rr,lr,hc,hk,xr,el,xd,st1,hl0,fin1]
 ·have xr:=xr hc
  have st2:=fun v=>st2 v hc
  generalize o.cells=oc at *
  generalize hS:kS.slice ((mU o).map fun z=>[kS.int .i64 z]) Tok.no=S at *
  generalize mJ p T L X++[.cells oc]=H at *
  generalize sJ o.imm.toNat (L.getD o.imm.toNat []).length=row at *
  by_cases he:x.elem=1
  ·have he:=eq_true he
   simp -implicitDefEqProofs [Wp,-lH,-lV,-oC,-nR,-lC,-tL,-mH,-Bp,an,l6,un,k74,ln,hl,lp,k166,f1,f2,f6,f0,f3,nc,r1,r5,r6,ld,c0,c1,c5,xi,rr,lr,hc,hk,xr,xa,xe,xf,he,st2,hl0,fin2,am2]
  ·simp -implicitDefEqProofs [Wp,-lH,-lV,-oC,-nR,-lC,-tL,-mH,-Bp,an,l6,un,k74,ln,hl,lp,k166,f1,f2,f6,f0,f3,nc,r1,r5,r6,ld,c0,c1,c5,xi,rr,lr,hc,hk,xr,xa,xe,xf,he,st2,hl0,fin2]
end
end Go.Proofs.YtkeoalhglkfbkaaDoor


namespace Go.Proofs.YtkeoalhglkfbkaaDoor
open Go Hk
section
variable {p:IR}{T:List Int}{L:List (List Int)}{X:List mI}
theorem Vx (hT:∀x∈T,0≤x) (o:Op) (i:Nat):0≤pQ T o i:=by
 have htg:∀t,0≤tg T t:=by
  intro t
  unfold tg
  rw [List.getD_eq_getElem?_getD]
  cases h:T[t.toNat]? with
  | none=>simp
  | some x=>exact hT x (List.mem_of_getElem? h)
 unfold pQ
 split
 ·exact htg _
 ·exact Int.le_refl _
theorem aAV (hX:yV X) {o:Op}(ho:aiF T.length o) (hk:1≤o.kind∧o.kind≤19) (hi:18≤o.kind→0≤o.imm∧o.imm.toNat < L.length) (hLA:L.length=p.arrays.length) (hT:∀x∈T,0≤x) :
  KK 103 [.ptr 3 0,.agg o.cells] (mJ p T L X)=match xF uJ p.arrays o ⟨T,L⟩ with
   | some s=>some (.ret (.bool true),mJ p s.temps s.arrs X)
   | none=>some (.ret (.bool false),mJ p T L X):=by
 obtain⟨hu,hd⟩:=ho
 unfold xF
 rcases EH o (pQ T o 0) (pQ T o 1) (pQ T o 2) with ⟨k1,k2,v,e1,e2⟩ | ⟨k1,e1,e2⟩
 ·obtain⟨d0,d1⟩:=hd (GV.makes _ _ _ _ _ e2)
  simp only [e2]
  exact VZ hX hu d0 d1 e1
 ·obtain⟨i0,i1⟩:=hi (by omega)
  obtain⟨g1,g2,g3⟩:=Y1 hX hu e1 i0 i1 hLA (Vx hT o 0)
  simp only [e2]
  by_cases hc:((L.getD o.imm.toNat []).length:Int)≤pQ T o 0
  ·simp only [hc,if_true]; exact g1 hc
  ·by_cases h18:o.kind=18
   ·obtain⟨d0,d1⟩:=hd (by rw [h18]; exact SL)
    simp only [hc,if_false,h18,if_true]
    exact g2 hc h18 d0 d1
   ·simp only [hc,if_false,h18]
    exact g3 hc h18
theorem acC {arrays:List mL}{o:Op}{s s':Sx}(h:xF uJ arrays o s=some s') (hT:∀x∈s.temps,0≤x) (hL:∀l∈s.arrs,∀x∈l,0≤x):(∀x∈s'.temps,0≤x)∧(∀l∈s'.arrs,∀x∈l,0≤x):=by
 have hset:∀(l:List Int) (t v:Int),(∀x∈l,0≤x)→0≤v→∀x∈rV l t v,0≤x:=by
  intro l t v hl hv x hx
  unfold rV at hx
  rcases List.mem_or_eq_of_mem_set hx with h | h
  ·exact hl x h
  ·rw [h]; exact hv
 have hgl:∀i,∀x∈s.arrs.getD i [],0≤x:=by
  intro i x hx
  rw [List.getD_eq_getElem?_getD] at hx
  cases hg:s.arrs[i]? with
  | none=>rw [hg] at hx; simp at hx
  | some l=>rw [hg] at hx; exact hL l (List.mem_of_getElem? hg) x hx
 have htg:∀(l:List Int) t,(∀x∈l,0≤x)→0≤tg l t:=by
  intro l t hl
  unfold tg
  rw [List.getD_eq_getElem?_getD]
  cases h:l[t.toNat]? with
  | none=>simp
  | some x=>exact hl x (List.mem_of_getElem? h)
 unfold xF at h
 split at h
 ·rename_i v hv
  cases h
  exact⟨hset _ _ _ hT (ajX hv),hL⟩
 ·split at h
  ·cases h
  ·split at h
   ·cases h
    exact⟨hset _ _ _ hT (htg _ _ (hgl _)),hL⟩
   ·cases h
    refine⟨hT,fun l hl=>?_⟩
    rcases List.mem_or_eq_of_mem_set hl with h | h
    ·exact hL l h
    ·rw [h]
     refine hset _ _ _ (hgl _) ?_
     split
     ·exact arD _
     ·exact Vx hT o 1
theorem Xy {arrays:List mL}{o:Op}{s s':Sx}(h:xF uJ arrays o s=some s'):s'.temps.length=s.temps.length∧s'.arrs.length=s.arrs.length∧∀i,(s'.arrs.getD i []).length=(s.arrs.getD i []).length:=by
 unfold xF at h
 split at h
 ·cases h; exact⟨by simp [rV],rfl,fun _=>rfl⟩
 ·split at h
  ·cases h
  ·split at h
   ·cases h; exact⟨by simp [rV],rfl,fun _=>rfl⟩
   ·cases h
    refine⟨rfl,by simp,fun i=>?_⟩
    simp only [List.getD_eq_getElem?_getD,List.getElem?_set]
    split
    ·rename_i hh
     subst hh
     split
     ·simp [rV]
     ·rename_i hh; rw [List.getElem?_eq_none (by omega)]
    ·rfl
end
end Go.Proofs.YtkeoalhglkfbkaaDoor


namespace Go.Proofs.YtkeoalhglkfbkaaDoor
open Go Hk
noncomputable def HU (arrays:List mL):Nat→List Op→Sx→Option (Option (Nat×Sx))
 | n,[],s=>some (some (n,s))
 | 0,_::_,_=>none
 | n+1,o::r,s=>match xF uJ arrays o s with
  | some s'=>HU arrays n r s'
  | none=>some none
theorem U4 {arrays:List mL}{bs:List lR}{x:Term}:∀(n:Nat) (r:List Op) (s:Sx),C8 uJ arrays bs n x r s=match HU arrays n r s with
  | none=>.budget
  | some none=>.trap
  | some (some q)=>C8 uJ arrays bs q.1 x [] q.2
 | n,[],s=>by simp [HU]
 | 0,o::r,s=>by simp [HU,C8]
 | n+1,o::r,s=>by
  simp only [C8,HU]
  cases h:xF uJ arrays o s with
  | none=>rfl
  | some s'=>exact U4 n r s'
section
variable {p:IR}{X:List mI}
structure uZ (p:IR) (T:List Int) (L:List (List Int)):Prop where
 temps:(T.length:Int)=p.temps
 nn:∀x∈T,0≤x
 arrs:L.length=p.arrays.length
 nnA:∀l∈L,∀x∈l,0≤x
 lens:∀k a,p.arrays[k]?=some a→((L.getD k []).length:Int)=a.len
theorem uZ.step {T:List Int}{L:List (List Int)}{o:Op}{s:Sx}(h:uZ p T L) (hr:xF uJ p.arrays o ⟨T,L⟩=some s):uZ p s.temps s.arrs:=by
 obtain⟨l1,l2,l3⟩:=Xy hr
 obtain⟨n1,n2⟩:=acC hr h.nn h.nnA
 refine⟨?_,n1,?_,n2,fun k a ha=>by rw [l3 k]; exact h.lens k a ha⟩
 ·rw [l1]; exact h.temps
 ·rw [l2]; exact h.arrs
def Xl (p:IR) (o:Op):Prop:=aiF p.temps o∧(1≤o.kind∧o.kind≤19)∧(18≤o.kind→0≤o.imm∧o.imm.toNat < p.arrays.length)
theorem aaY (hX:yV X) {T:List Int}{L:List (List Int)}(hR:uZ p T L) {ops:List Op}{kb at_:Nat}(hkb:kb < mG L+X.length) {i:Nat}{o:Op}(ho:ops[i]?=some o) (hok:Xl p o) (hlen:ops.length≤2000000) (n:Nat) (hn:n≤100000000) :
  zM KK (mG L+X.length) ([.int .i64 ((n+1:Nat):Int),.ptr 0 0,.str [],.int .i64 0,.ptr 3 0,.int .i64 (at_:Int),.ptr kb 0,.slice (Rw Op.cells ops) .no,.int .i64 (ops.length:Int),.int .i64 (i:Int)],mJ p T L X) =
   match xF uJ p.arrays o ⟨T,L⟩ with
   | some s=>some (.normal,[.int .i64 (n:Int),.ptr 0 0,.str [],.int .i64 0,.ptr 3 0,.int .i64 (at_:Int),.ptr kb 0,.slice (Rw Op.cells ops) .no,.int .i64 (ops.length:Int),.int .i64 ((i+1:Nat):Int)],mJ p s.temps s.arrs X)
   | none=>some (.ret,[.int .i64 (n:Int),.ptr 0 0,.str [],.int .i64 19,.ptr 3 0,.int .i64 (at_:Int),.ptr kb 0,.slice (Rw Op.cells ops) .no,.int .i64 (ops.length:Int),.int .i64 (i:Int)],mJ p T L X):=by
 have h4:=uM L
 have hi:i < ops.length:=(List.getElem?_eq_some_iff.1 ho).1
 have hii:(i:Int) < (ops.length:Int):=by omega
 have hl0:∀T' L',mG L'=mG L→(mJ p T' L' X).length=mG L+X.length:=by intro T' L' h; rw [oJ,h]
 have hXo:yV (X++[.cells o.cells]):=by
  intro b hb m h
  rcases List.mem_append.1 hb with hb | hb
  ·exact hX b hb m h
  ·simp only [List.mem_singleton] at hb
   subst hb
   simp [oQ,Op.cells]
 have ix:kX 6 (.slice (Rw Op.cells ops) .no) (.int .i64 (i:Int))=some (.pptr o.cells):=by
  have e:Rw Op.cells ops=ops.map Op.cells:=rfl
  rw [e]
  unfold kX
  simp [ho,Op.cells]
 have lp:kW true 6 (mJ p T L X) (.pptr o.cells)=some (.agg o.cells):=by simp [Op.cells]
 have an:mH 6 (mJ p T L X) (.agg [.int .i64 0,.int .i64 0,.int .i64 0,.int .i64 0,.int .i64 0,.int .i64 0])=some (.ptr (mG L+X.length) 0,mJ p T L X++[.cells [.int .i64 0,.int .i64 0,.int .i64 0,.int .i64 0,.int .i64 0,.int .i64 0]]):=by
  simp [oJ]
 have st:lT 6 (mJ p T L X++[.cells [.int .i64 0,.int .i64 0,.int .i64 0,.int .i64 0,.int .i64 0,.int .i64 0]]) (.ptr (mG L+X.length) 0) (.agg o.cells)=some (mJ p T L X++[.cells o.cells]):=by
  have:List.set (mJ p T L X++[.cells [.int .i64 0,.int .i64 0,.int .i64 0,.int .i64 0,.int .i64 0,.int .i64 0]]) (mG L+X.length) (.cells o.cells)=mJ p T L X++[.cells o.cells]:=by
   rw [List.set_append_right _ _ (by rw [oJ]; exact Nat.le_refl _),oJ,Nat.sub_self]; rfl
  rw [←this]
  rw [lY,yU]
  simp [Op.cells,putCells,pV]
 have l6:kW true 6 (mJ p T L X++[.cells o.cells]) (.ptr (mG L+X.length) 0)=some (.agg o.cells):=by
  rw [lV,yU]; simp [Op.cells]
 have un:kS.k8 (.agg o.cells)=.agg o.cells:=rfl
 obtain⟨k1,k2,k3⟩:=hok
 have k103:=aAV (p:=p) (T:=T) (L:=L) hXo (o:=o) (by rw [hR.temps]; exact k1) k2 (by rw [hR.arrs]; exact k3) hR.arrs hR.nn
 rw [←oO] at k103
 have w0:¬((n+1:Nat):Int)=0:=by omega
 have w1:IntKind.i64.wrap (((n+1:Nat):Int) - 1)=(n:Int):=by rw [wrap64 (by omega) (by omega)]; omega
 have w2:IntKind.i64.wrap ((i:Int)+1)=((i+1:Nat):Int):=by rw [wrap64 (by omega) (by omega),Int.natCast_add]; rfl
 have s0:∀h,kS.oL (mG L+X.length) h (.ptr 0 0)=.ptr 0 0:=fun h=>lW (by omega)
 have s3:∀h,kS.oL (mG L+X.length) h (.ptr 3 0)=.ptr 3 0:=fun h=>lW (by omega)
 have sk:∀h,kS.oL (mG L+X.length) h (.ptr kb 0)=.ptr kb 0:=fun h=>lW hkb
 generalize ((n+1:Nat):Int)=N1 at w0 w1 ⊢
 generalize hz:[kS.int .i64 0,.int .i64 0,.int .i64 0,.int .i64 0,.int .i64 0,.int .i64 0]=z0 at *
 unfold zM
 cases hr:xF uJ p.arrays o ⟨T,L⟩ with
 | none =>
  rw [hr] at k103
  have tr:nW (mG L+X.length) (mJ p T L X++[.cells o.cells]) (List.take (mG L+X.length) (mJ p T L X++[.cells o.cells]))=some (mJ p T L X):=rF hX
  generalize o.cells=oc at *
  generalize hS:kS.slice (Rw Op.cells ops) Tok.no=S at *
  have sS:∀m h,kS.oL m h S=S:=by intro m h; rw [←hS]; rfl
  simp -implicitDefEqProofs [hz,-lH,-lV,-lY,-mH,lJ,hii,ix,lp,an,st,l6,un,k103,w0,w1,w2,s0,s3,sk,sS,tr]
 | some s =>
  rw [hr] at k103
  have hs:=hR.step hr
  have hnn:mG s.arrs=mG L:=by
   unfold mG
   rw [hs.arrs,hR.arrs]
  have tr:nW (mG L+X.length) (mJ p s.temps s.arrs X++[.cells o.cells]) (List.take (mG L+X.length) (mJ p s.temps s.arrs X++[.cells o.cells]))=some (mJ p s.temps s.arrs X):=by rw [←hnn]; exact rF hX
  generalize o.cells=oc at *
  generalize hS:kS.slice (Rw Op.cells ops) Tok.no=S at *
  have sS:∀m h,kS.oL m h S=S:=by intro m h; rw [←hS]; rfl
  simp only [←oO] at k103
  simp -implicitDefEqProofs [hz,-lH,-lV,-lY,-mH,lJ,hii,ix,lp,an,st,l6,un,k103,w0,w1,w2,s0,s3,sk,sS,tr]
end
end Go.Proofs.YtkeoalhglkfbkaaDoor


namespace Go.Proofs.YtkeoalhglkfbkaaDoor
open Go Hk
section
variable {p:IR}{X:List mI}
theorem uZ.N {T T':List Int}{L L':List (List Int)}(h:uZ p T L) (h':uZ p T' L'):mG L'=mG L:=by
 unfold mG
 rw [h.arrs,h'.arrs]
def MD (n:Int) (e:Int) (at_:Nat) (kb:Nat) (ops:List Op) (i:Nat):List kS:=[.int .i64 n,.ptr 0 0,.str [],.int .i64 e,.ptr 3 0,.int .i64 (at_:Int),.ptr kb 0,.slice (Rw Op.cells ops) .no,.int .i64 (ops.length:Int),.int .i64 (i:Int)]
theorem ah6 {T:List Int}{L:List (List Int)}{ops:List Op}{kb at_:Nat}(hX:yV X) (hkb:kb < mG L+X.length) (n:Nat):zM KK (mG L+X.length) (MD n 0 at_ kb ops ops.length,mJ p T L X)=some (.exit 2,(MD n 0 at_ kb ops ops.length,mJ p T L X)):=by
 have h4:=uM L
 have s0:∀h,kS.oL (mG L+X.length) h (.ptr 0 0)=.ptr 0 0:=fun h=>lW (by omega)
 have s3:∀h,kS.oL (mG L+X.length) h (.ptr 3 0)=.ptr 3 0:=fun h=>lW (by omega)
 have sk:∀h,kS.oL (mG L+X.length) h (.ptr kb 0)=.ptr kb 0:=fun h=>lW hkb
 have tr:nW (mG L+X.length) (mJ p T L X) (List.take (mG L+X.length) (mJ p T L X))=some (mJ p T L X):=by
  have:=rF (p:=p) (T:=T) (L:=L) (X:=X) (Y:=[]) hX
  rwa [List.append_nil] at this
 generalize hS:kS.slice (Rw Op.cells ops) Tok.no=S
 have sS:∀m h,kS.oL m h S=S:=by intro m h; rw [←hS]; rfl
 unfold zM MD
 rw [hS]
 simp -implicitDefEqProofs [-lH,-lV,-lY,-mH,lJ,s0,s3,sk,sS,tr]
theorem aaZ {T:List Int}{L:List (List Int)}{ops:List Op}{kb at_ i:Nat}(hX:yV X) (hkb:kb < mG L+X.length) (hi:i < ops.length):zM KK (mG L+X.length) (MD 0 0 at_ kb ops i,mJ p T L X)=some (.ret,(MD 0 20 at_ kb ops i,mJ p T L X)):=by
 have h4:=uM L
 have ho:=List.getElem?_eq_getElem hi
 generalize ops[i]=o at ho
 have hii:(i:Int) < (ops.length:Int):=by omega
 have ix:kX 6 (.slice (Rw Op.cells ops) .no) (.int .i64 (i:Int))=some (.pptr o.cells):=by
  have e:Rw Op.cells ops=ops.map Op.cells:=rfl
  rw [e]
  unfold kX
  simp [ho,Op.cells]
 have lp:kW true 6 (mJ p T L X) (.pptr o.cells)=some (.agg o.cells):=by simp [Op.cells]
 have an:mH 6 (mJ p T L X) (.agg [.int .i64 0,.int .i64 0,.int .i64 0,.int .i64 0,.int .i64 0,.int .i64 0])=some (.ptr (mG L+X.length) 0,mJ p T L X++[.cells [.int .i64 0,.int .i64 0,.int .i64 0,.int .i64 0,.int .i64 0,.int .i64 0]]):=by
  simp [oJ]
 have st:lT 6 (mJ p T L X++[.cells [.int .i64 0,.int .i64 0,.int .i64 0,.int .i64 0,.int .i64 0,.int .i64 0]]) (.ptr (mG L+X.length) 0) (.agg o.cells)=some (mJ p T L X++[.cells o.cells]):=by
  have:List.set (mJ p T L X++[.cells [.int .i64 0,.int .i64 0,.int .i64 0,.int .i64 0,.int .i64 0,.int .i64 0]]) (mG L+X.length) (.cells o.cells)=mJ p T L X++[.cells o.cells]:=by
   rw [List.set_append_right _ _ (by rw [oJ]; exact Nat.le_refl _),oJ,Nat.sub_self]; rfl
  rw [←this]
  rw [lY,yU]
  simp [Op.cells,putCells,pV]
 have s0:∀h,kS.oL (mG L+X.length) h (.ptr 0 0)=.ptr 0 0:=fun h=>lW (by omega)
 have s3:∀h,kS.oL (mG L+X.length) h (.ptr 3 0)=.ptr 3 0:=fun h=>lW (by omega)
 have sk:∀h,kS.oL (mG L+X.length) h (.ptr kb 0)=.ptr kb 0:=fun h=>lW hkb
 have tr:nW (mG L+X.length) (mJ p T L X++[.cells o.cells]) (List.take (mG L+X.length) (mJ p T L X++[.cells o.cells]))=some (mJ p T L X):=rF hX
 generalize hz:[kS.int .i64 0,.int .i64 0,.int .i64 0,.int .i64 0,.int .i64 0,.int .i64 0]=z0 at *
 generalize hS:kS.slice (Rw Op.cells ops) Tok.no=S at *
 have sS:∀m h,kS.oL m h S=S:=by intro m h; rw [←hS]; rfl
 generalize o.cells=oc at *
 unfold zM MD
 rw [hS]
 simp -implicitDefEqProofs [hz,-lH,-lV,-lY,-mH,lJ,hii,ix,lp,an,st,s0,s3,sk,sS,tr]
theorem ah5 (hX:yV X) {N0:Nat}{ops:List Op}{kb at_:Nat}(hkb:kb < N0+X.length) (hok:∀o∈ops,Xl p o) (hlen:ops.length≤2000000):∀(d i n:Nat) (T:List Int) (L:List (List Int)),ops.length=i+d→n≤100000000→uZ p T L→mG L=N0 →
  match HU p.arrays n (ops.drop i) ⟨T,L⟩ with
  | none=>∃(n':Int) (i':Nat) (T':List Int) (L':List (List Int)),uZ p T' L'∧mQ (zM KK (N0+X.length)) (MD n 0 at_ kb ops i,mJ p T L X)=some (.ret,(MD n' 20 at_ kb ops i',mJ p T' L' X))
  | some none=>∃(n':Int) (i':Nat) (T':List Int) (L':List (List Int)),uZ p T' L'∧mQ (zM KK (N0+X.length)) (MD n 0 at_ kb ops i,mJ p T L X)=some (.ret,(MD n' 19 at_ kb ops i',mJ p T' L' X))
  | some (some q)=>uZ p q.2.temps q.2.arrs∧q.1≤n∧mQ (zM KK (N0+X.length)) (MD n 0 at_ kb ops i,mJ p T L X)=some (.exit 2,(MD q.1 0 at_ kb ops ops.length,mJ p q.2.temps q.2.arrs X)):=by
 intro d
 induction d with
 | zero =>
  intro i n T L hi hn hR hN
  obtain rfl:i=ops.length:=by omega
  rw [List.drop_length]
  simp only [HU]
  refine⟨hR,Nat.le_refl _,?_⟩
  subst hN
  exact nH (ah6 hX hkb n)
 | succ d ih =>
  intro i n T L hi hn hR hN
  have hil:i < ops.length:=by omega
  rw [List.drop_eq_getElem_cons hil]
  subst hN
  cases n with
  | zero =>
   simp only [HU]
   exact⟨0,i,T,L,hR,vM (aaZ hX hkb hil)⟩
  | succ n =>
   simp only [HU]
   have hst:=aaY (p:=p) (X:=X) (T:=T) (L:=L) hX hR (ops:=ops) (kb:=kb) (at_:=at_) hkb (i:=i) (o:=ops[i]) (List.getElem?_eq_getElem hil) (hok _ (List.getElem_mem hil)) hlen n (by omega)
   cases hr:xF uJ p.arrays ops[i] ⟨T,L⟩ with
   | none =>
    rw [hr] at hst
    exact⟨n,i,T,L,hR,vM hst⟩
   | some s =>
    rw [hr] at hst
    have hs:=hR.step hr
    have:=ih (i+1) n s.temps s.arrs (by omega) (by omega) hs (hR.N hs)
    have hgo:mQ (zM KK (mG L+X.length)) (MD ((n+1:Nat):Int) 0 at_ kb ops i,mJ p T L X)=mQ (zM KK (mG L+X.length)) (MD n 0 at_ kb ops (i+1),mJ p s.temps s.arrs X):=oU hst
    rw [hgo]
    simp only
    have e:(⟨s.temps,s.arrs⟩:Sx)=s:=rfl
    rw [e] at this
    cases hq:HU p.arrays n (List.drop (i+1) ops) s with
    | none=>rw [hq] at this; exact this
    | some q =>
     cases q with
     | none=>rw [hq] at this; exact this
     | some q =>
      rw [hq] at this
      obtain⟨a,b,c⟩:=this
      exact⟨a,by omega,c⟩
end
end Go.Proofs.YtkeoalhglkfbkaaDoor


namespace Go.Proofs.YtkeoalhglkfbkaaDoor
open Go Hk
theorem arN {p:IR}{o:Op}(h:JB p o=true):Xl p o:=by
 unfold JB at h
 simp only [Bool.and_eq_true,List.all_eq_true,Bool.or_eq_true,decide_eq_true_eq] at h
 obtain⟨hf,hi,hu,_,hd,hm⟩:=h
 have hk:1≤o.kind∧o.kind≤19:=by
  revert hf
  unfold mM
  (repeat' split) <;> first | (intro h; omega) | (intro h; cases h)
 refine⟨⟨fun t ht=>?_,fun hdst=>?_⟩,hk,fun h18=>?_⟩
 ·have:=hu t ht
  simp only [mO,Bool.and_eq_true,decide_eq_true_eq] at this
  exact⟨this.1,by omega⟩
 ·rcases hd with hd | hd
  ·rw [hdst] at hd; cases hd
  ·simp only [mO,Bool.and_eq_true,decide_eq_true_eq] at hd
   exact⟨hd.1,by omega⟩
 ·have h0:=QP hi
  unfold De at hm
  rw [if_pos (by omega)] at hm
  simp only [Bool.and_eq_true,decide_eq_true_eq] at hm
  exact⟨h0,by omega⟩
theorem adB {p:IR}{x:Term}(h:wN (p:=p) x=true):HT p.temps p.blocks.length x∨x.kind=3:=by
 unfold wN at h
 split at h
 ·rename_i h1
  simp only [Bool.and_eq_true,decide_eq_true_eq,mO] at h
  exact .inl (.inl ⟨h1,by omega⟩)
 ·split at h
  ·rename_i h1
   simp only [Bool.and_eq_true,decide_eq_true_eq,mO] at h
   exact .inl (.inr (.inl ⟨h1,h.1.1,by omega,by omega,by omega⟩))
  ·simp only [decide_eq_true_eq] at h
   rw [h]; exact .inr rfl
end Go.Proofs.YtkeoalhglkfbkaaDoor


namespace Go.Proofs.YtkeoalhglkfbkaaDoor
open Go Hk
section
variable {p:IR}{EU:List (List Int)→List UInt8}
theorem VJ {T:List Int}{L:List (List Int)}{X:List mI}:kW false 1 (mJ p T L X) (.ptr 0 2)=some (.slice (Rw lR.cells p.blocks) .no):=by
 have h4:=uM L
 have:nC (mJ p T L X) 0=some p.cells:=by
  unfold nC
  rw [tJ (by omega)]
  rfl
 rw [lH,this]; rfl
theorem Sr {b:lR}:yV [.cells b.cells,.front 0 0]:=by
 intro c hc m h
 simp only [List.mem_cons,List.not_mem_nil,or_false] at hc
 rcases hc with rfl | rfl
 ·simp [oQ,lR.cells]
 ·rfl
theorem aaW {T:List Int}{L:List (List Int)}{b:lR}:∃h1,mH 5 (mJ p T L []) (.agg [.slice [] .nil,.int .i64 0,.int .i64 0,.int .i64 0,.int .i64 0])=some (.ptr (mG L) 0,h1)∧lT 5 h1 (.ptr (mG L) 0) (.agg b.cells)=some (mJ p T L [.cells b.cells,.front 0 0]):=by
 have hl:(mJ p T L []).length=mG L:=by rw [oJ]; simp
 refine⟨mJ p T L [.cells [.slice [] (.own (mG L+1)),.int .i64 0,.int .i64 0,.int .i64 0,.int .i64 0],.front 0 0],?_,?_⟩
 ·simp [hl,mJ]
 ·have hg:nC (mJ p T L [.cells [.slice [] (.own (mG L+1)),.int .i64 0,.int .i64 0,.int .i64 0,.int .i64 0],.front 0 0]) (mG L)=some [.slice [] (.own (mG L+1)),.int .i64 0,.int .i64 0,.int .i64 0,.int .i64 0]:=by
   unfold nC mJ
   rw [List.getElem?_append_right (by simp)]
   simp
  have hs:List.set (mJ p T L [.cells [.slice [] (.own (mG L+1)),.int .i64 0,.int .i64 0,.int .i64 0,.int .i64 0],.front 0 0]) (mG L) (.cells b.cells)=mJ p T L [.cells b.cells,.front 0 0]:=by
   unfold mJ
   rw [List.set_append_right _ _ (by simp)]
   simp
  rw [lY,hg,←hs]
  simp [lR.cells,putCells,pV]
end
end Go.Proofs.YtkeoalhglkfbkaaDoor


namespace Go.Proofs.YtkeoalhglkfbkaaDoor
open Go Hk
section
variable {p:IR}{EU:List (List Int)→List UInt8}
def LN (n:Int) (s:List UInt8) (e:Int) (at_:Int):List kS:=[.int .i64 n,.ptr 0 0,.str s,.int .i64 e,.ptr 3 0,.int .i64 at_]
theorem W9 (h104:∀T L X,yV X→uZ p T L→KK 104 [.ptr 3 0] (mJ p T L X)=some (.ret (.str (EU L)),mJ p T L X))
  (hok:∀b∈p.blocks,(∀o∈b.ops,Xl p o)∧(HT p.temps p.blocks.length b.term∨b.term.kind=3)∧b.ops.length≤2000000) {T:List Int}{L:List (List Int)}(hR:uZ p T L) {at_:Nat}{b:lR}(hb:p.blocks[at_]?=some b) {n:Nat}(hn:n≤100000000) :
  match HU p.arrays n b.ops ⟨T,L⟩ with
  | none=>∃n' T' L',uZ p T' L'∧wF KK (mG L) (LN n [] 0 at_,mJ p T L [])=some (.ret,(LN n' [] 20 at_,mJ p T' L' []))
  | some none=>∃n' T' L',uZ p T' L'∧wF KK (mG L) (LN n [] 0 at_,mJ p T L [])=some (.ret,(LN n' [] 19 at_,mJ p T' L' []))
  | some (some (0,s))=>∃n' T' L',uZ p T' L'∧wF KK (mG L) (LN n [] 0 at_,mJ p T L [])=some (.ret,(LN n' [] 20 at_,mJ p T' L' []))
  | some (some (k+1,s))=>if b.term.kind=3 then ∃n' T' L',uZ p T' L'∧wF KK (mG L) (LN n [] 0 at_,mJ p T L [])=some (.ret,(LN n' (EU s.arrs) 0 at_,mJ p T' L' []))
   else uZ p s.temps s.arrs∧k < n∧wF KK (mG L) (LN n [] 0 at_,mJ p T L [])=some (.normal,(LN k [] 0 (rS b.term s.temps),mJ p s.temps s.arrs [])):=by
 have h4:=uM L
 obtain⟨ok1,ok2,ok3⟩:=hok b (List.mem_of_getElem? hb)
 obtain⟨h1,an,st⟩:=aaW (p:=p) (T:=T) (L:=L) (b:=b)
 have hops:=ah5 (p:=p) (X:=[.cells b.cells,.front 0 0]) Sr (N0:=mG L) (ops:=b.ops) (kb:=mG L) (at_:=at_) (by simp) ok1 ok3 b.ops.length 0 n T L (by omega) hn hR rfl
 rw [List.drop_zero] at hops
 have n2:([mI.cells b.cells,.front 0 0]:List mI).length=2:=rfl
 rw [n2] at hops
 have n0:((0:Nat):Int)=0:=rfl
 have hl:(mJ p T L [.cells b.cells,.front 0 0]).length=mG L+2:=by rw [oJ]; rfl
 have bl:=VJ (p:=p) (T:=T) (L:=L) (X:=[])
 have hna:¬(at_:Int)=-1:=by omega
 have f2:kV 2 (.ptr 0 0)=some (.ptr 0 2):=rfl
 have ix:kX 5 (.slice (Rw lR.cells p.blocks) .no) (.int .i64 (at_:Int))=some (.pptr b.cells):=by
  have e:Rw lR.cells p.blocks=p.blocks.map lR.cells:=rfl
  rw [e]
  unfold kX
  simp [hb,lR.cells]
 have lp:kW true 5 (mJ p T L []) (.pptr b.cells)=some (.agg b.cells):=by simp [lR.cells]
 have fk:∀i,kV i (.ptr (mG L) 0)=some (.ptr (mG L) i):=by intro o; simp [kV]
 have fk1:∀i j,kV i (.ptr (mG L) j)=some (.ptr (mG L) (j+i)):=fun i j=>rfl
 have ldb:∀T' L' i,mG L'=mG L→kW false 1 (mJ p T' L' [.cells b.cells,.front 0 0]) (.ptr (mG L) i)=b.cells[i]?:=by
  intro T' L' i hN
  have:nC (mJ p T' L' [.cells b.cells,.front 0 0]) (mG L)=some b.cells:=by
   unfold nC mJ
   rw [List.getElem?_append_right (by simp [hN])]
   simp [hN]
  rw [lH,this]; rfl
 have ld0:=ldb T L 0 rfl
 have c0:b.cells[0]?=some (.slice (Rw Op.cells b.ops) .no):=rfl
 have ln:lS (.slice (Rw Op.cells b.ops) .no)=some (.int .i64 (b.ops.length:Int)):=by
  have e:Rw Op.cells b.ops=b.ops.map Op.cells:=rfl
  rw [e]; simp
 have s0:∀h,kS.oL (mG L) h (.ptr 0 0)=.ptr 0 0:=fun h=>lW (by omega)
 have s3:∀h,kS.oL (mG L) h (.ptr 3 0)=.ptr 3 0:=fun h=>lW (by omega)
 have trb:∀T' L',mG L'=mG L→nW (mG L) (mJ p T' L' [.cells b.cells,.front 0 0]) (List.take (mG L) (mJ p T' L' [.cells b.cells,.front 0 0]))=some (mJ p T' L' []):=by
  intro T' L' hN
  have:=rF (p:=p) (T:=T') (L:=L') (X:=[]) (Y:=[.cells b.cells,.front 0 0]) (fun _ h=>by simp at h)
  rw [oO] at this
  simpa [hN] using this
 cases hq:HU p.arrays n b.ops ⟨T,L⟩ with
 | none =>
  rw [hq] at hops
  obtain⟨n',i',T',L',hR',e⟩:=hops
  refine⟨n',T',L',hR',?_⟩
  have tr:=trb T' L' (hR.N hR')
  unfold MD at e
  rw [n0] at e
  generalize b.cells=bc at *
  generalize hS:kS.slice (Rw Op.cells b.ops) Tok.no=S at *
  generalize hBS:kS.slice (Rw lR.cells p.blocks) Tok.no=BS at *
  unfold wF LN
  simp -implicitDefEqProofs [-lH,-lV,-lY,-mH,lJ,hna,f2,bl,ix,lp,an,st,fk,ld0,c0,ln,hl,e,s0,s3,tr]
 | some q =>
  cases q with
  | none =>
   rw [hq] at hops
   obtain⟨n',i',T',L',hR',e⟩:=hops
   refine⟨n',T',L',hR',?_⟩
   have tr:=trb T' L' (hR.N hR')
   unfold MD at e
   rw [n0] at e
   generalize b.cells=bc at *
   generalize hS:kS.slice (Rw Op.cells b.ops) Tok.no=S at *
   generalize hBS:kS.slice (Rw lR.cells p.blocks) Tok.no=BS at *
   unfold wF LN
   simp -implicitDefEqProofs [-lH,-lV,-lY,-mH,lJ,hna,f2,bl,ix,lp,an,st,fk,ld0,c0,ln,hl,e,s0,s3,tr]
  | some q =>
   rw [hq] at hops
   obtain⟨hR',hle,e⟩:=hops
   obtain⟨k,s⟩:=q
   have tr:=trb s.temps s.arrs (hR.N hR')
   have ldt:∀i,kW false 1 (mJ p s.temps s.arrs [.cells b.cells,.front 0 0]) (.ptr (mG L) i)=b.cells[i]?:=fun i=>ldb _ _ i (hR.N hR')
   cases k with
   | zero =>
    refine⟨0,s.temps,s.arrs,hR',?_⟩
    unfold MD at e
    rw [n0] at e
    simp only [n0] at e
    generalize b.cells=bc at *
    generalize hS:kS.slice (Rw Op.cells b.ops) Tok.no=S at *
    generalize hBS:kS.slice (Rw lR.cells p.blocks) Tok.no=BS at *
    unfold wF LN
    simp -implicitDefEqProofs [-lH,-lV,-lY,-mH,lJ,hna,f2,bl,ix,lp,an,st,fk,ld0,c0,ln,hl,e,s0,s3,tr]
   | succ k =>
    have g0:kV 0 (.ptr (mG L) 1)=some (.ptr (mG L) 1):=rfl
    have c1:b.cells[1]?=some (.int .i64 b.term.kind):=rfl
    have ld1:=ldt 1
    have w0:¬((k+1:Nat):Int)=0:=by omega
    have w1:IntKind.i64.wrap (((k+1:Nat):Int) - 1)=(k:Int):=by rw [wrap64 (by omega) (by omega)]; omega
    have k104:=h104 s.temps s.arrs [.cells b.cells,.front 0 0] Sr hR'
    have unt:kS.k8 (.agg b.term.cells)=.agg b.term.cells:=rfl
    have lt:kW true 4 (mJ p s.temps s.arrs [.cells b.cells,.front 0 0]) (.ptr (mG L) 1)=some (.agg b.term.cells):=by
     have:nC (mJ p s.temps s.arrs [.cells b.cells,.front 0 0]) (mG L)=some b.cells:=by
      unfold nC mJ
      rw [List.getElem?_append_right (by simp [hR.N hR'])]
      simp [hR.N hR']
     rw [lV,this]; simp [lR.cells,Term.cells]
    unfold MD at e
    rw [n0] at e
    simp only
    by_cases h3:b.term.kind=3
    ·rw [if_pos h3]
     refine⟨k,s.temps,s.arrs,hR',?_⟩
     have h3:=eq_true h3
     generalize ((k+1:Nat):Int)=k1 at *
     generalize b.cells=bc at *
     generalize hS:kS.slice (Rw Op.cells b.ops) Tok.no=S at *
     generalize hBS:kS.slice (Rw lR.cells p.blocks) Tok.no=BS at *
     unfold wF LN
     simp -implicitDefEqProofs [-lH,-lV,-lY,-mH,lJ,hna,f2,bl,ix,lp,an,st,fk,g0,ld0,ld1,c0,c1,ln,hl,e,s0,s3,tr,w0,w1,h3,k104]
    ·rw [if_neg h3]
     refine⟨hR',by omega,?_⟩
     have k105:=aAX (p:=p) (T:=s.temps) (L:=s.arrs) (X:=[.cells b.cells,.front 0 0]) Sr b.term (by
      rcases ok2 with ok2 | ok2
      ·rcases ok2 with ⟨a,_⟩ | ⟨a,b1,b2,_⟩ | a
       ·exact .inl a
       ·exact .inr ⟨a,b1,by rw [hR'.temps]; exact b2⟩
       ·exact absurd a h3
      ·exact absurd ok2 h3)
     generalize ((k+1:Nat):Int)=k1 at *
     generalize rS b.term s.temps=nx at *
     generalize b.term.cells=tc_ at *
     generalize b.cells=bc at *
     generalize hS:kS.slice (Rw Op.cells b.ops) Tok.no=S at *
     generalize hBS:kS.slice (Rw lR.cells p.blocks) Tok.no=BS at *
     unfold wF LN
     simp -implicitDefEqProofs [-lH,-lV,-lY,-mH,lJ,hna,f2,bl,ix,lp,an,st,fk,g0,ld0,ld1,c0,c1,ln,hl,e,s0,s3,tr,w0,w1,h3,lt,unt,k105]
end
end Go.Proofs.YtkeoalhglkfbkaaDoor


namespace Go.Proofs.YtkeoalhglkfbkaaDoor
open Go Hk
section
variable {p:IR}{EU:List (List Int)→List UInt8}
def Sm (EU:List (List Int)→List UInt8):Out→List UInt8×Int
 | .budget=>([],20)
 | .trap=>([],19)
 | .done a=>(EU a,0)
theorem aaX {T:List Int}{L:List (List Int)}(n:Int):wF KK (mG L) (LN n [] 0 (-1),mJ p T L [])=some (.exit 0,(LN n [] 0 (-1),mJ p T L [])):=by
 have h4:=uM L
 have s0:∀h,kS.oL (mG L) h (.ptr 0 0)=.ptr 0 0:=fun h=>lW (by omega)
 have s3:∀h,kS.oL (mG L) h (.ptr 3 0)=.ptr 3 0:=fun h=>lW (by omega)
 have tr:nW (mG L) (mJ p T L []) (List.take (mG L) (mJ p T L []))=some (mJ p T L []):=by
  have:=rF (p:=p) (T:=T) (L:=L) (X:=[]) (Y:=[]) (fun _ h=>by simp at h)
  simpa using this
 unfold wF LN
 simp -implicitDefEqProofs [-lH,-lV,-lY,-mH,lJ,s0,s3,tr]
theorem ah7 (h104 : ∀ T L X, yV X → uZ p T L → KK 104 [.ptr 3 0] (mJ p T L X) = some (.ret (.str (EU L)), mJ p T L X))
    (hok : ∀ b ∈ p.blocks, (∀ o ∈ b.ops, Xl p o) ∧ (HT p.temps p.blocks.length b.term ∨ b.term.kind = 3) ∧ b.ops.length ≤ 2000000) (hlow : ∀ b ∈ p.blocks, -1 ≤ b.term.yes ∧ -1 ≤ b.term.no) {N0 : Nat} : ∀ (n : Nat) (T : List Int) (L : List (List Int)) (at_ : Nat) (b : lR), n ≤ 100000000 → uZ p T L → mG L = N0 → p.blocks[at_]? = some b →
    ∃ (n' : Int) (at' : Int) (T' : List Int) (L' : List (List Int)), uZ p T' L' ∧
      (mQ (wF KK N0) (LN n [] 0 at_, mJ p T L []) = some (.ret, (LN n' (Sm EU (C8 uJ p.arrays p.blocks n b.term b.ops ⟨T, L⟩)).1 (Sm EU (C8 uJ p.arrays p.blocks n b.term b.ops ⟨T, L⟩)).2 at', mJ p T' L' [])) ∨
       C8 uJ p.arrays p.blocks n b.term b.ops ⟨T, L⟩ = .trap ∧ mQ (wF KK N0) (LN n [] 0 at_, mJ p T L []) = some (.exit 0, (LN n' [] 0 at', mJ p T' L' []))) := by
  intro n
  induction n using Nat.strongRecOn with
  | ind n ih =>
    intro T L at_ b hn hR hN hb
    subst hN
    have hr := W9 h104 hok hR hb hn
    rw [U4]
    cases hq : HU p.arrays n b.ops ⟨T, L⟩ with
    | none =>
      rw [hq] at hr
      obtain ⟨n', T', L', hR', e⟩ := hr
      exact ⟨n', at_, T', L', hR', .inl (vM e)⟩
    | some q =>
      cases q with
      | none =>
        rw [hq] at hr
        obtain ⟨n', T', L', hR', e⟩ := hr
        exact ⟨n', at_, T', L', hR', .inl (vM e)⟩
      | some q =>
        obtain ⟨k, s⟩ := q
        rw [hq] at hr
        cases k with
        | zero =>
          obtain ⟨n', T', L', hR', e⟩ := hr
          exact ⟨n', at_, T', L', hR', .inl (vM (by simpa [C8, Sm] using e))⟩
        | succ k =>
          simp only at hr
          by_cases h3 : b.term.kind = 3
          · rw [if_pos h3] at hr
            obtain ⟨n', T', L', hR', e⟩ := hr
            exact ⟨n', at_, T', L', hR', .inl (vM (by simpa [C8, Sm, h3] using e))⟩
          · rw [if_neg h3] at hr
            obtain ⟨hR', hlt, e⟩ := hr
            simp only [C8, h3, if_false]
            rw [oU e]
            have hrng : -1 ≤ rS b.term s.temps ∧ rS b.term s.temps < p.blocks.length := by
              obtain ⟨_, ok2, _⟩ := hok b (List.mem_of_getElem? hb)
              obtain ⟨l1, l2⟩ := hlow b (List.mem_of_getElem? hb)
              rcases ok2 with ok2 | ok2
              · unfold rS
                rcases ok2 with ⟨a, c⟩ | ⟨a, _, _, c, c'⟩ | a
                · rw [if_pos a]; exact ⟨l1, c⟩
                · rw [if_neg (by omega)]
                  split
                  · exact ⟨l1, c⟩
                  · split
                    · exact ⟨l2, c'⟩
                    · exact ⟨by omega, by omega⟩
                · exact absurd a h3
              · exact absurd ok2 h3
            by_cases hneg : rS b.term s.temps < 0
            · rw [if_pos hneg]
              have hm1 : rS b.term s.temps = -1 := by omega
              rw [hm1]
              refine ⟨k, -1, s.temps, s.arrs, hR', .inr ⟨rfl, ?_⟩⟩
              have := nH (aaX (p := p) (T := s.temps) (L := s.arrs) (k : Int))
              rw [hR.N hR'] at this
              exact this
            · rw [if_neg hneg]
              cases hb2 : p.blocks[(rS b.term s.temps).toNat]? with
              | none => exact absurd hb2 (by rw [List.getElem?_eq_getElem (by omega)]; simp)
              | some b2 =>
                have hnx : ((rS b.term s.temps).toNat : Int) = rS b.term s.temps := by omega
                have := ih k hlt s.temps s.arrs (rS b.term s.temps).toNat b2 (by omega) hR' (hR.N hR') hb2
                rw [hnx] at this
                exact this
end
end Go.Proofs.YtkeoalhglkfbkaaDoor


namespace Go.Proofs.YtkeoalhglkfbkaaDoor
open Go Hk
theorem ZD {h:kU}{a:Nat}(hb:qV h a):a < h.length:=by
 rcases hb with ⟨_,h⟩ | ⟨_,h⟩ | ⟨_,_,_,h⟩ <;> exact(List.getElem?_eq_some_iff.1 h).1
theorem QN:∀(ids:List Nat) (h:kU),(rG ids h).length=h.length
 | [],_=>rfl
 | i::r,h=>by
  have e:rG (i::r) h=rG r (uT h i):=rfl
  rw [e,QN r]
  unfold uT
  split <;> simp
theorem RH (ids:List Nat) (h:kU):oA ids h (rG ids h)=h:=by
 apply List.ext_getElem?
 intro k
 rcases L9 h ids (rG ids h) k (fun a _ hb=>by rw [QN]; exact ZD hb) with ⟨_,_,e⟩ | ⟨n,e⟩
 ·exact e
 ·rw [e]
  rcases yZ ids h k with ⟨a,b,_⟩ | ⟨_,e2⟩
  ·exact absurd ⟨a,b⟩ n
  ·exact e2
noncomputable def A5 (a:Int):List UInt8:=(anX a).choose
theorem VY (a:Int):(A5 a).length=4:=(anX a).choose_spec.1
theorem aBv (a:Int) (h:kU):KK 167 [.int .i64 a] h=some (.ret (.str (A5 a)),h):=(anX a).choose_spec.2 h
def bC (b:List UInt8):List kS:=b.map fun x=>.int .u8 (x.toNat:Int)
def HZ (b:List UInt8) (i:Nat) (s:List UInt8):List UInt8:=b.take i++s++b.drop (i+s.length)
theorem abW {b s:List UInt8}{i:Nat}(h:i+s.length≤b.length):(HZ b i s).length=b.length:=by
 unfold HZ; simp; omega
theorem anI (b s:List UInt8) (i:Nat):putCells (bC b) i (s.map fun x=>.int .u8 (x.toNat:Int))=bC (HZ b i s):=by
 simp [putCells,bC,HZ,List.map_take,List.map_drop]
noncomputable def AQ (a:mL):List Int→Nat→List UInt8→List UInt8
 | [],_,b=>b
 | v::r,i,b=>AQ a r (i+1) (HZ b (a.off+i * a.elem).toNat ((A5 v).take a.elem.toNat))
theorem akJ (n:Nat) (b:List UInt8):∀m h,oQ m h (.vec n 1 (bC b))=some (.vec n 1 (bC b)):=by
 intro m h
 show(m_ m h (bC b)).map _=_
 rw [xG]
 ·rfl
 ·intro c hc
  unfold bC at hc
  obtain⟨x,_,rfl⟩:=List.mem_map.1 hc
  exact⟨rfl,rfl⟩
section
variable {p:IR}{T:List Int}{L:List (List Int)}{X:List mI}
def pB (p:IR) (T:List Int) (L:List (List Int)) (X:List mI) (n:Nat) (b:List UInt8) (Y:List mI):kU:=mJ p T L (X++(.vec n 1 (bC b)::Y))
def stW (k:Nat) (n N0:Nat) (p:IR) (len i:Nat):List kS:=[.ptr 3 0,.str [],.vslice N0 n 0 n 1,.ptr (N0+1) 0,.slice (Rw mL.cells p.arrays) .no,.int .i64 (p.arrays.length:Int),.int .i64 (k:Int),sJ k len,.int .i64 (len:Int),.int .i64 (i:Int)]
theorem Qc {n:Nat}{b:List UInt8}{Y:List mI}:(pB p T L X n b Y)[mG L+X.length]?=some (.vec n 1 (bC b)):=by
 unfold pB mJ
 rw [List.getElem?_append_right (by simp)]
 simp
theorem G0 {n:Nat}{b:List UInt8}{y:mI}{Y:List mI}:(pB p T L X n b (y::Y))[mG L+X.length+1]?=some y:=by
 unfold pB mJ
 rw [List.getElem?_append_right (by simp; omega)]
 have:mG L+X.length+1 - ((List.range (mG L)).map (zF p T L)).length=X.length+1:=by simp; omega
 rw [this,List.getElem?_append_right (by omega)]
 simp
theorem Yx {n:Nat}{b c:List UInt8}{Y:List mI}:(pB p T L X n b Y).set (mG L+X.length) (.vec n 1 (bC c))=pB p T L X n c Y:=by
 unfold pB mJ
 rw [List.set_append_right _ _ (by simp)]
 congr 1
 simp
theorem JT {n:Nat}{b:List UInt8}{Y:List mI}:(pB p T L X n b Y).length=mG L+X.length+1+Y.length:=by
 unfold pB; rw [oJ]; simp; omega
theorem Wq (hX:yV X) {k:Nat}(hk:k < L.length) {a:mL}(hs:oR a=true) (hlen:((L.getD k []).length:Int)=a.len) {n:Nat}(ho:0≤a.off) (hn:a.off+a.elem * a.len≤n) (hn2:n≤65536) {b:List UInt8}(hb:b.length=n) {i:Nat}{v:Int}(hi:(L.getD k [])[i]?=some v) :
  GA KK (mG L+X.length+2) (stW k n (mG L+X.length) p (L.getD k []).length i,pB p T L X n b [.cells a.cells]) =
   some (.normal,stW k n (mG L+X.length) p (L.getD k []).length (i+1),pB p T L X n (HZ b (a.off+i * a.elem).toNat ((A5 v).take a.elem.toNat)) [.cells a.cells]):=by
 have h4:=uM L
 have hil:i < (L.getD k []).length:=(List.getElem?_eq_some_iff.1 hi).1
 have hii:(i:Int) < ((L.getD k []).length:Int):=by omega
 have he:a.elem=1∨a.elem=4:=by
  simp only [oR,Bool.and_eq_true,Bool.or_eq_true,decide_eq_true_eq] at hs; exact hs.1
 have hl1:a.len≤16384:=by
  simp only [oR,Bool.and_eq_true,Bool.or_eq_true,decide_eq_true_eq] at hs; exact hs.2.2
 have hmul:(i:Int) * a.elem+a.elem≤a.elem * a.len∧0≤(i:Int) * a.elem:=by
  rcases he with he | he <;> rw [he] <;> omega
 have ix:kX 1 (sJ k (L.getD k []).length) (.int .i64 (i:Int))=some (.vptr (6+3 * k) (L.getD k []).length i):=by
  unfold sJ
  rw [qL,if_pos ⟨by omega,by omega,rfl⟩]; simp
 have ld:kW false 1 (pB p T L X n b [.cells a.cells]) (.vptr (6+3 * k) (L.getD k []).length i)=some (.int .i64 v):=by
  have:=UM (p:=p) (T:=T) (L:=L) (X:=X++[.vec n 1 (bC b),.cells a.cells]) hk (a:=(i:Int)) (by omega) hii
  rw [Int.toNat_natCast] at this
  unfold pB
  rw [this]
  unfold tg
  rw [Int.toNat_natCast,List.getD_eq_getElem?_getD,hi]; rfl
 have la:∀o,kW false 1 (pB p T L X n b [.cells a.cells]) (.ptr (mG L+X.length+1) o)=a.cells[o]?:=by
  intro o
  rw [lH]
  unfold nC
  rw [G0]; rfl
 have fa:∀o,kV o (.ptr (mG L+X.length+1) 0)=some (.ptr (mG L+X.length+1) o):=by intro o; simp [kV]
 have c0:a.cells[0]?=some (.int .i64 a.elem):=rfl
 have c3:a.cells[3]?=some (.int .i64 a.off):=rfl
 have w1:IntKind.i64.wrap ((i:Int) * a.elem)=(i:Int) * a.elem:=wrap64 (by omega) (by omega)
 have w2:IntKind.i64.wrap (a.off+(i:Int) * a.elem)=a.off+(i:Int) * a.elem:=wrap64 (by omega) (by omega)
 have w3:IntKind.i64.wrap (a.off+(i:Int) * a.elem+a.elem)=a.off+(i:Int) * a.elem+a.elem:=wrap64 (by omega) (by omega)
 have w4:IntKind.i64.wrap ((i:Int)+1)=((i+1:Nat):Int):=by rw [wrap64 (by omega) (by omega)]; rfl
 have hlo:(0:Int)≤a.off+(i:Int) * a.elem:=by omega
 obtain⟨lo,hloe⟩:∃lo:Nat,(lo:Int)=a.off+(i:Int) * a.elem:=⟨(a.off+(i:Int) * a.elem).toNat,by omega⟩
 obtain⟨en,hen⟩:∃en:Nat,(en:Int)=a.elem:=⟨a.elem.toNat,by omega⟩
 have hsl:nX 1 (.vslice (mG L+X.length) n 0 n 1) (some (.int .i64 (a.off+(i:Int) * a.elem))) (some (.int .i64 (a.off+(i:Int) * a.elem+a.elem)))=some (.vslice (mG L+X.length) n lo en 1):=by
  rw [←hloe,←hen]
  have e1:pG (some (.int .i64 (lo:Int))) 0=some lo:=by simp [pG]
  have e2:pG (some (.int .i64 ((lo:Int)+(en:Int)))) n=some (lo+en):=by
   have:(0:Int)≤(lo:Int)+(en:Int):=by omega
   simp [pG,this]; omega
  simp only [nX,e1,e2]
  rw [if_pos ⟨by omega,by omega,trivial⟩,if_pos (.inr (by omega))]
  have:lo+en - lo=en:=by omega
  rw [this]; simp
 have k1:=aBv v
 have cp:G8 (pB p T L X n b [.cells a.cells]) (.vslice (mG L+X.length) n lo en 1) (.str (A5 v))=some (.int .i64 ((min (A5 v).length en:Nat):Int),pB p T L X n (HZ b (a.off+i * a.elem).toNat ((A5 v).take a.elem.toNat)) [.cells a.cells]):=by
  have e1:(a.off+(i:Int) * a.elem).toNat=lo:=by omega
  have e2:a.elem.toNat=en:=by omega
  rw [e1,e2]
  have hg:mZ (pB p T L X n b [.cells a.cells]) (mG L+X.length) n=some (1,bC b):=by
   unfold mZ
   rw [Qc]; simp
  unfold G8
  simp only [hg]
  have hbl:(bC b).length=n:=by unfold bC; simp [hb]
  rw [if_pos ⟨by rw [hbl]; omega,trivial⟩,anI,Yx]
 have tr:∀c,mS (mG L+X.length+2) (pB p T L X n c [.cells a.cells])=some (pB p T L X n c [.cells a.cells]):=by
  intro c
  have hXo:yV (X++[.vec n 1 (bC c),.cells a.cells]):=by
   intro x hx m h
   rcases List.mem_append.1 hx with hx | hx
   ·exact hX x hx m h
   ·simp only [List.mem_cons,List.not_mem_nil,or_false] at hx
    rcases hx with rfl | rfl
    ·exact akJ _ _ _ _
    ·simp [oQ,mL.cells]
  have:=rF (p:=p) (T:=T) (L:=L) (Y:=[]) hXo
  rw [List.append_nil] at this
  unfold pB
  simpa [Nat.add_assoc] using this
 have tr:=tr (HZ b (a.off+i * a.elem).toNat ((A5 v).take a.elem.toNat))
 have s3:∀h,kS.oL (mG L+X.length+2) h (.ptr 3 0)=.ptr 3 0:=fun h=>lW (by omega)
 have sa:∀h,kS.oL (mG L+X.length+2) h (.ptr (mG L+X.length+1) 0)=.ptr (mG L+X.length+1) 0:=fun h=>lW (by omega)
 have sv:∀h,kS.oL (mG L+X.length+2) h (.vslice (mG L+X.length) n 0 n 1)=.vslice (mG L+X.length) n 0 n 1:=fun h=>uA (by omega)
 have sr:∀h,kS.oL (mG L+X.length+2) h (sJ k (L.getD k []).length)=sJ k (L.getD k []).length:=by
  intro h
  have:=BL hk
  exact uA (by omega)
 have uh:∀ids,oA ids (pB p T L X n b [.cells a.cells]) (rG ids (pB p T L X n b [.cells a.cells]))=pB p T L X n b [.cells a.cells]:=fun ids=>RH ids _
 have trt:nW (mG L+X.length+2) (pB p T L X n (HZ b (a.off+i * a.elem).toNat ((A5 v).take a.elem.toNat)) [.cells a.cells]) (List.take (mG L+X.length+2) (pB p T L X n (HZ b (a.off+i * a.elem).toNat ((A5 v).take a.elem.toNat)) [.cells a.cells]))=some (pB p T L X n (HZ b (a.off+i * a.elem).toNat ((A5 v).take a.elem.toNat)) [.cells a.cells]):=tr
 unfold GA stW
 generalize sJ k (L.getD k []).length=row at *
 generalize (L.getD k []).length=ll at *
 generalize mG L+X.length=N0 at *
 generalize pB p T L X n (HZ b (a.off+i * a.elem).toNat ((A5 v).take a.elem.toNat)) [.cells a.cells]=H2 at *
 generalize pB p T L X n b [.cells a.cells]=H1 at *
 generalize a.cells=ac at *
 generalize hS:kS.slice (Rw mL.cells p.arrays) Tok.no=S at *
 have sS:∀m h,kS.oL m h S=S:=by intro m h; rw [←hS]; rfl
 simp -implicitDefEqProofs [-Hq,-DW,-lH,-lV,-lY,-mH,-oC,-lG,-nR,lJ,hii,ix,ld,fa,la,c0,c3,w1,w2,w3,w4,hsl,k1,uh,cp,s3,sa,sv,sr,sS,trt]
end
end Go.Proofs.YtkeoalhglkfbkaaDoor


namespace Go.Proofs.YtkeoalhglkfbkaaDoor
open Go Hk
noncomputable def zO (L:List (List Int)):List mL→Nat→List UInt8→List UInt8
 | [],_,b=>b
 | a::r,k,b=>zO L r (k+1) (if a.kind=2 then AQ a (L.getD k []) 0 b else b)
noncomputable def EU (arrays:List mL) (out:Int) (L:List (List Int)):List UInt8:=zO L arrays 0 (List.replicate out.toNat 0)
section
variable {p:IR}{T:List Int}{L:List (List Int)}{X:List mI}
theorem Ss {a:mL}(hs:oR a=true) (v:Int):(((A5 v).take a.elem.toNat).length:Int)=a.elem:=by
 have he:a.elem=1∨a.elem=4:=by
  simp only [oR,Bool.and_eq_true,Bool.or_eq_true,decide_eq_true_eq] at hs; exact hs.1
 rw [List.length_take,VY]
 omega
theorem NY (hX:yV X) {n:Nat}{b:List UInt8}{Y:List mI}(hY:yV Y):yV (X++(.vec n 1 (bC b)::Y)):=by
 intro x hx m h
 rcases List.mem_append.1 hx with hx | hx
 ·exact hX x hx m h
 ·rcases List.mem_cons.1 hx with rfl | hx
  ·exact akJ _ _ _ _
  ·exact hY x hx m h
theorem ZO (hX:yV X) {k:Nat}(hk:k < L.length) {a:mL}(hs:oR a=true) (hlen:((L.getD k []).length:Int)=a.len) {n:Nat}(ho:0≤a.off) (hn:a.off+a.elem * a.len≤n) (hn2:n≤65536) :
  ∀(d i:Nat) (b:List UInt8),(L.getD k []).length=i+d→b.length=n →
  (AQ a ((L.getD k []).drop i) i b).length=n ∧
  mQ (GA KK (mG L+X.length+2)) (stW k n (mG L+X.length) p (L.getD k []).length i,pB p T L X n b [.cells a.cells]) =
   some (.exit 2,(stW k n (mG L+X.length) p (L.getD k []).length (L.getD k []).length,pB p T L X n (AQ a ((L.getD k []).drop i) i b) [.cells a.cells])):=by
 intro d
 induction d with
 | zero =>
  intro i b hi hb
  obtain rfl:i=(L.getD k []).length:=by omega
  rw [List.drop_length]
  refine⟨hb,?_⟩
  simp only [AQ]
  refine nH ?_
  have h4:=uM L
  have tr:mS (mG L+X.length+2) (pB p T L X n b [.cells a.cells])=some (pB p T L X n b [.cells a.cells]):=by
   have:=rF (p:=p) (T:=T) (L:=L) (Y:=[]) (NY hX (n:=n) (b:=b) (Y:=[.cells a.cells]) (by intro x hx m h; simp only [List.mem_singleton] at hx; subst hx; simp [oQ,mL.cells]))
   rw [List.append_nil] at this
   unfold pB
   simpa [Nat.add_assoc] using this
  have s3:∀h,kS.oL (mG L+X.length+2) h (.ptr 3 0)=.ptr 3 0:=fun h=>lW (by omega)
  have sa:∀h,kS.oL (mG L+X.length+2) h (.ptr (mG L+X.length+1) 0)=.ptr (mG L+X.length+1) 0:=fun h=>lW (by omega)
  have sv:∀h,kS.oL (mG L+X.length+2) h (.vslice (mG L+X.length) n 0 n 1)=.vslice (mG L+X.length) n 0 n 1:=fun h=>uA (by omega)
  have sr:∀h,kS.oL (mG L+X.length+2) h (sJ k (L.getD k []).length)=sJ k (L.getD k []).length:=by
   intro h
   have:=BL hk
   exact uA (by omega)
  have trt:nW (mG L+X.length+2) (pB p T L X n b [.cells a.cells]) (List.take (mG L+X.length+2) (pB p T L X n b [.cells a.cells]))=some (pB p T L X n b [.cells a.cells]):=tr
  unfold GA stW
  generalize sJ k (L.getD k []).length=row at *
  generalize (L.getD k []).length=ll at *
  generalize mG L+X.length=N0 at *
  generalize pB p T L X n b [.cells a.cells]=H1 at *
  generalize hS:kS.slice (Rw mL.cells p.arrays) Tok.no=S at *
  have sS:∀m h,kS.oL m h S=S:=by intro m h; rw [←hS]; rfl
  simp -implicitDefEqProofs [-lH,-lV,-lY,-mH,-oC,-lG,-nR,lJ,s3,sa,sv,sr,sS,trt]
 | succ d ih =>
  intro i b hi hb
  have hil:i < (L.getD k []).length:=by omega
  have hst:=Wq (p:=p) (T:=T) hX hk hs hlen ho hn hn2 hb (List.getElem?_eq_getElem hil)
  rw [List.drop_eq_getElem_cons hil]
  generalize (L.getD k [])[i]=v at *
  have hlv:=Ss hs v
  have he:a.elem=1∨a.elem=4:=by
   simp only [oR,Bool.and_eq_true,Bool.or_eq_true,decide_eq_true_eq] at hs; exact hs.1
  have hmul:(i:Int) * a.elem+a.elem≤a.elem * a.len∧0≤(i:Int) * a.elem:=by
   rcases he with he | he <;> rw [he] <;> omega
  have hpl:(HZ b (a.off+i * a.elem).toNat ((A5 v).take a.elem.toNat)).length=n:=by
   rw [abW (by omega),hb]
  obtain⟨g1,g2⟩:=ih (i+1) _ (by omega) hpl
  rw [oU hst]
  simp only [AQ]
  exact⟨g1,g2⟩
def stV (k n N0:Nat) (p:IR):List kS:=[.ptr 3 0,.str [],.vslice N0 n 0 n 1,.slice (Rw mL.cells p.arrays) .no,.int .i64 (p.arrays.length:Int),.int .i64 (k:Int)]
def Ye (n:Nat) (a:mL):Prop:=oR a=true∧(a.kind=2→0≤a.off∧a.off+a.elem * a.len≤n)
theorem Tc (hX:yV X) (hLA:L.length=p.arrays.length) {k:Nat}{a:mL}(ha:p.arrays[k]?=some a) (hlen:((L.getD k []).length:Int)=a.len) {n:Nat}(hok:Ye n a) (hn2:n≤65536) (hk2:p.arrays.length≤2000000) {b:List UInt8}(hb:b.length=n) :
  (if a.kind=2 then AQ a (L.getD k []) 0 b else b).length=n ∧
  En KK (mG L+X.length+1) (stV k n (mG L+X.length) p,pB p T L X n b []) =
   some (.normal,(stV (k+1) n (mG L+X.length) p,pB p T L X n (if a.kind=2 then AQ a (L.getD k []) 0 b else b) [])):=by
 have h4:=uM L
 have hk:k < p.arrays.length:=(List.getElem?_eq_some_iff.1 ha).1
 have hkk:(k:Int) < (p.arrays.length:Int):=by omega
 have hkL:k < L.length:=by omega
 have hLn:L≠[]:=by intro h; rw [h] at hkL; simp at hkL
 have ix:kX 4 (.slice (Rw mL.cells p.arrays) .no) (.int .i64 (k:Int))=some (.pptr a.cells):=by
  have e:Rw mL.cells p.arrays=p.arrays.map mL.cells:=rfl
  rw [e]
  unfold kX
  simp [ha,mL.cells]
 have lp:kW true 4 (pB p T L X n b []) (.pptr a.cells)=some (.agg a.cells):=by simp [mL.cells]
 have an:mH 4 (pB p T L X n b []) (.agg [.int .i64 0,.int .i64 0,.int .i64 0,.int .i64 0])=some (.ptr (mG L+X.length+1) 0,pB p T L X n b [.cells [.int .i64 0,.int .i64 0,.int .i64 0,.int .i64 0]]):=by
  have:pB p T L X n b []++[.cells [.int .i64 0,.int .i64 0,.int .i64 0,.int .i64 0]]=pB p T L X n b [.cells [.int .i64 0,.int .i64 0,.int .i64 0,.int .i64 0]]:=by
   unfold pB; rw [oO]; simp
  simp [JT,this]
 have st:lT 4 (pB p T L X n b [.cells [.int .i64 0,.int .i64 0,.int .i64 0,.int .i64 0]]) (.ptr (mG L+X.length+1) 0) (.agg a.cells)=some (pB p T L X n b [.cells a.cells]):=by
  have hg:nC (pB p T L X n b [.cells [.int .i64 0,.int .i64 0,.int .i64 0,.int .i64 0]]) (mG L+X.length+1)=some [.int .i64 0,.int .i64 0,.int .i64 0,.int .i64 0]:=by
   unfold nC; rw [G0]
  have hs:(pB p T L X n b [.cells [.int .i64 0,.int .i64 0,.int .i64 0,.int .i64 0]]).set (mG L+X.length+1) (.cells a.cells)=pB p T L X n b [.cells a.cells]:=by
   unfold pB mJ
   rw [List.set_append_right _ _ (by simp; omega)]
   congr 1
   have:mG L+X.length+1 - ((List.range (mG L)).map (zF p T L)).length=X.length+1:=by simp; omega
   rw [this,List.set_append_right _ _ (by omega)]
   have:X.length+1 - X.length=1:=by omega
   rw [this]; rfl
  rw [lY,hg,←hs]
  simp [mL.cells,putCells,pV]
 have la:∀o,kW false 1 (pB p T L X n b [.cells a.cells]) (.ptr (mG L+X.length+1) o)=a.cells[o]?:=by
  intro o
  rw [lH]
  unfold nC
  rw [G0]; rfl
 have fa:∀o,kV o (.ptr (mG L+X.length+1) 0)=some (.ptr (mG L+X.length+1) o):=by intro o; simp [kV]
 have c2:a.cells[2]?=some (.int .i64 a.kind):=rfl
 have nc:lX (.ptr 3 0)=some (.ptr 3 0):=rfl
 have f6:kV 6 (.ptr 3 0)=some (.ptr 3 6):=rfl
 have r6:kW false 1 (pB p T L X n b [.cells a.cells]) (.ptr 3 6)=some (.vslice 4 L.length 0 L.length 1):=ML hLn
 have rr:kW false 1 (pB p T L X n b [.cells a.cells]) (.vptr 4 L.length k)=some (sJ k (L.getD k []).length):=Qd hkL
 have xi:kX 1 (.vslice 4 L.length 0 L.length 1) (.int .i64 (k:Int))=some (.vptr 4 L.length k):=by
  rw [qL,if_pos ⟨by omega,by omega,rfl⟩]; simp
 have lr:lS (sJ k (L.getD k []).length)=some (.int .i64 ((L.getD k []).length:Int)):=rfl
 have hl:(pB p T L X n b [.cells a.cells]).length=mG L+X.length+2:=by rw [JT]; rfl
 have w4:IntKind.i64.wrap ((k:Int)+1)=((k+1:Nat):Int):=by rw [wrap64 (by omega) (by omega)]; rfl
 have s3:∀h,kS.oL (mG L+X.length+1) h (.ptr 3 0)=.ptr 3 0:=fun h=>lW (by omega)
 have sv:∀h,kS.oL (mG L+X.length+1) h (.vslice (mG L+X.length) n 0 n 1)=.vslice (mG L+X.length) n 0 n 1:=fun h=>uA (by omega)
 have trt:∀c,nW (mG L+X.length+1) (pB p T L X n c [.cells a.cells]) (List.take (mG L+X.length+1) (pB p T L X n c [.cells a.cells]))=some (pB p T L X n c []):=by
  intro c
  have:=rF (p:=p) (T:=T) (L:=L) (Y:=[.cells a.cells]) (NY hX (n:=n) (b:=c) (Y:=[]) (by intro x hx; simp at hx))
  rw [oO] at this
  unfold pB
  simpa [Nat.add_assoc] using this
 by_cases h2:a.kind=2
 ·obtain⟨hs,hok⟩:=hok
  obtain⟨ho,hn⟩:=hok h2
  obtain⟨g1,g2⟩:=ZO (p:=p) (T:=T) hX hkL hs hlen ho hn hn2 _ 0 b (Nat.zero_add _).symm hb
  rw [List.drop_zero] at g1 g2
  rw [if_pos h2]
  refine⟨g1,?_⟩
  have trt1:=trt (AQ a (L.getD k []) 0 b)
  clear trt
  have h2:=eq_true h2
  unfold stW at g2
  have n0:((0:Nat):Int)=0:=rfl
  rw [n0] at g2
  unfold En stV
  generalize sJ k (L.getD k []).length=row at *
  generalize (L.getD k []).length=ll at *
  generalize mG L+X.length=N0 at *
  generalize pB p T L X n (AQ a (L.getD k []) 0 b) [.cells a.cells]=H2 at *
  generalize pB p T L X n (AQ a (L.getD k []) 0 b) []=H3 at *
  generalize pB p T L X n b [.cells a.cells]=H1 at *
  generalize pB p T L X n b []=H0 at *
  generalize a.cells=ac at *
  generalize hS:kS.slice (Rw mL.cells p.arrays) Tok.no=S at *
  have sS:∀m h,kS.oL m h S=S:=by intro m h; rw [←hS]; rfl
  generalize ((k+1:Nat):Int)=k1 at *
  simp -implicitDefEqProofs [-lH,-lV,-lY,-mH,-oC,-lG,-nR,lJ,hkk,ix,lp,an,st,la,fa,c2,h2,nc,f6,r6,rr,xi,lr,hl,g2,w4,s3,sv,sS,trt1]
 ·rw [if_neg h2]
  refine⟨hb,?_⟩
  have trt1:=trt b
  clear trt
  unfold En stV
  generalize mG L+X.length=N0 at *
  generalize pB p T L X n b [.cells a.cells]=H1 at *
  generalize pB p T L X n b []=H0 at *
  generalize a.cells=ac at *
  generalize hS:kS.slice (Rw mL.cells p.arrays) Tok.no=S at *
  have sS:∀m h,kS.oL m h S=S:=by intro m h; rw [←hS]; rfl
  generalize ((k+1:Nat):Int)=k1 at *
  simp -implicitDefEqProofs [-lH,-lV,-lY,-mH,-oC,-lG,-nR,lJ,hkk,ix,lp,an,st,la,fa,c2,h2,hl,w4,s3,sv,sS,trt1]
theorem ZN (hX:yV X) (hLA:L.length=p.arrays.length) (hlen:∀k a,p.arrays[k]?=some a→((L.getD k []).length:Int)=a.len) {n:Nat}(hok:∀a∈p.arrays,Ye n a) (hn2:n≤65536) (hk2:p.arrays.length≤2000000) :
  ∀(d k:Nat) (b:List UInt8),p.arrays.length=k+d→b.length=n →
  (zO L (p.arrays.drop k) k b).length=n ∧
  mQ (En KK (mG L+X.length+1)) (stV k n (mG L+X.length) p,pB p T L X n b []) =
   some (.exit 0,(stV p.arrays.length n (mG L+X.length) p,pB p T L X n (zO L (p.arrays.drop k) k b) [])):=by
 intro d
 induction d with
 | zero =>
  intro k b hi hb
  obtain rfl:k=p.arrays.length:=by omega
  rw [List.drop_length]
  refine⟨hb,?_⟩
  simp only [zO]
  refine nH ?_
  have h4:=uM L
  have s3:∀h,kS.oL (mG L+X.length+1) h (.ptr 3 0)=.ptr 3 0:=fun h=>lW (by omega)
  have sv:∀h,kS.oL (mG L+X.length+1) h (.vslice (mG L+X.length) n 0 n 1)=.vslice (mG L+X.length) n 0 n 1:=fun h=>uA (by omega)
  have trt:nW (mG L+X.length+1) (pB p T L X n b []) (List.take (mG L+X.length+1) (pB p T L X n b []))=some (pB p T L X n b []):=by
   have:=rF (p:=p) (T:=T) (L:=L) (Y:=[]) (NY hX (n:=n) (b:=b) (Y:=[]) (by intro x hx; simp at hx))
   rw [List.append_nil] at this
   unfold pB
   simpa [Nat.add_assoc] using this
  unfold En stV
  generalize mG L+X.length=N0 at *
  generalize pB p T L X n b []=H1 at *
  generalize hS:kS.slice (Rw mL.cells p.arrays) Tok.no=S at *
  have sS:∀m h,kS.oL m h S=S:=by intro m h; rw [←hS]; rfl
  simp -implicitDefEqProofs [-lH,-lV,-lY,-mH,-oC,-lG,-nR,lJ,s3,sv,sS,trt]
 | succ d ih =>
  intro k b hi hb
  have hk:k < p.arrays.length:=by omega
  have ha:=List.getElem?_eq_getElem hk
  obtain⟨g1,g2⟩:=Tc (p:=p) (T:=T) hX hLA ha (hlen k _ ha) (hok _ (List.getElem_mem hk)) hn2 hk2 hb
  rw [List.drop_eq_getElem_cons hk]
  obtain⟨e1,e2⟩:=ih (k+1) _ (by omega) g1
  rw [oU g2]
  simp only [zO]
  exact⟨e1,e2⟩
theorem Fl:∀b:List UInt8,bytesOf (b.map fun x=>[kS.int .u8 (x.toNat:Int)])=some b
 | []=>rfl
 | x::r=>by
  simp only [List.map_cons,bytesOf,Fl r]
  simp
theorem aAW (hX:yV X) (hLA:L.length=p.arrays.length) (hlen:∀k a,p.arrays[k]?=some a→((L.getD k []).length:Int)=a.len) (ho:0≤p.out∧p.out≤65536) (hok:∀a∈p.arrays,Ye p.out.toNat a) (hk2:p.arrays.length≤2000000) :
  KK 104 [.ptr 3 0] (mJ p T L X)=some (.ret (.str (EU p.arrays p.out L)),mJ p T L X):=by
 refine mR (agF _ _ _) ?_
 have h4:=uM L
 have nc:lX (.ptr 3 0)=some (.ptr 3 0):=rfl
 have f0:kV 0 (.ptr 3 0)=some (.ptr 3 0):=rfl
 have f1:kV 1 (.ptr 3 0)=some (.ptr 3 1):=rfl
 have f4:kV 4 (.ptr 3 0)=some (.ptr 3 4):=rfl
 have r4:kW false 1 (mJ p T L X) (.ptr 3 4)=some (.int .i64 p.out):=by rw [lH,BJ]; rfl
 have mk:nM 1 1 [.int .u8 0] (.int .i64 p.out) (mJ p T L X)=some (.vslice (mG L+X.length) p.out.toNat 0 p.out.toNat 1,pB p T L X p.out.toNat (List.replicate p.out.toNat 0) []):=by
  unfold nM pB
  dsimp only
  rw [if_pos ⟨ho.1,by omega,by omega⟩,oJ,←oO]
  have:(List.replicate p.out.toNat [kS.int .u8 0]).flatten=bC (List.replicate p.out.toNat 0):=by
   unfold bC
   rw [List.map_replicate]
   generalize p.out.toNat=n
   induction n with
   | zero=>rfl
   | succ n ih=>rw [List.replicate_succ,List.flatten_cons,ih,List.replicate_succ]; rfl
  rw [this]
 have r1:kW false 1 (pB p T L X p.out.toNat (List.replicate p.out.toNat 0) []) (.ptr 3 1)=some (.slice (Rw mL.cells p.arrays) .no):=MM
 have ln:lS (.slice (Rw mL.cells p.arrays) .no)=some (.int .i64 (p.arrays.length:Int)):=by
  have e:Rw mL.cells p.arrays=p.arrays.map mL.cells:=rfl
  rw [e]; simp
 have hl:(pB p T L X p.out.toNat (List.replicate p.out.toNat 0) []).length=mG L+X.length+1:=by rw [JT]; rfl
 obtain⟨g1,g2⟩:=ZN (p:=p) (T:=T) hX hLA hlen hok (by omega) hk2 p.arrays.length 0 (List.replicate p.out.toNat 0) (by omega) (by simp)
 rw [List.drop_zero] at g1 g2
 have n0:((0:Nat):Int)=0:=rfl
 unfold stV at g2
 rw [n0] at g2
 have by_:wV (pB p T L X p.out.toNat (zO L p.arrays 0 (List.replicate p.out.toNat 0)) []) (.vslice (mG L+X.length) p.out.toNat 0 p.out.toNat 1)=some (.str (EU p.arrays p.out L)):=by
  have hg:mZ (pB p T L X p.out.toNat (zO L p.arrays 0 (List.replicate p.out.toNat 0)) []) (mG L+X.length) p.out.toNat=some (1,bC (zO L p.arrays 0 (List.replicate p.out.toNat 0))):=by
   unfold mZ
   rw [Qc]; simp
  unfold EU
  generalize zO L p.arrays 0 (List.replicate p.out.toNat 0)=b at *
  have hbl:(bC b).length=p.out.toNat:=by unfold bC; simp [g1]
  have hpr:nB (bC b)=some (bC b):=CI (fun c hc=>by
   unfold bC at hc
   obtain⟨x,_,rfl⟩:=List.mem_map.1 hc
   exact⟨_,_,rfl⟩)
  unfold wV sR
  dsimp only
  rw [hg]
  dsimp only
  have hd:List.take (p.out.toNat * 1) (List.drop 0 (bC b))=bC b:=by rw [List.drop_zero,List.take_of_length_le (by omega)]
  have hr:rowsOf p.out.toNat 1 (bC b)=b.map fun x=>[kS.int .u8 (x.toNat:Int)]:=by
   rw [←hbl,AS]; unfold bC; simp
  simp only [hd,hpr,hr,Fl]
  rw [if_pos ⟨trivial,by omega⟩]
  dsimp only
  rw [Fl]
  rfl
 have fin:∀s,mX (mG L+X.length) (.str s) (pB p T L X p.out.toNat (zO L p.arrays 0 (List.replicate p.out.toNat 0)) [])=some (.ret (.str s),mJ p T L X):=by
  intro s
  unfold pB
  rw [←oO]
  exact BK hX (fun _ _=>rfl) rfl
 have hl0:(mJ p T L X).length=mG L+X.length:=oJ
 generalize pB p T L X p.out.toNat (zO L p.arrays 0 (List.replicate p.out.toNat 0)) []=H2 at *
 generalize pB p T L X p.out.toNat (List.replicate p.out.toNat 0) []=H1 at *
 generalize hRH:mJ p T L X=H0 at *
 generalize hS:kS.slice (Rw mL.cells p.arrays) Tok.no=S at *
 generalize mG L+X.length=N0 at *
 unfold axX
 simp -implicitDefEqProofs [-lH,-lV,-lY,-mH,-oC,-lG,-nR,-Bp,nc,f0,f1,f4,r4,mk,r1,ln,hl,g2,by_,fin,hl0]
end
end Go.Proofs.YtkeoalhglkfbkaaDoor


namespace Go.Proofs.YtkeoalhglkfbkaaDoor
open Go Hk
theorem ajS {a b:Int}(ha:0≤a∧a < 4294967296) (hb:0≤b∧b < 4294967296):0≤tor .i64 a b∧tor .i64 a b < 4294967296:=by
 obtain⟨x,rfl⟩:∃x:Nat,(x:Int)=a:=⟨a.toNat,by omega⟩
 obtain⟨y,rfl⟩:∃y:Nat,(y:Int)=b:=⟨b.toNat,by omega⟩
 unfold tor
 have e:IntKind.i64.bits=64:=rfl
 rw [e]
 have h:((BitVec.ofInt 64 (x:Int) ||| BitVec.ofInt 64 (y:Int)).toNat) < 2 ^ 32:=by
  rw [BitVec.toNat_or]
  refine Nat.or_lt_two_pow ?_ ?_
  ·rw [BitVec.ofInt_natCast,BitVec.toNat_ofNat]
   exact Nat.lt_of_le_of_lt (Nat.mod_le _ _) (by omega)
  ·rw [BitVec.ofInt_natCast,BitVec.toNat_ofNat]
   exact Nat.lt_of_le_of_lt (Nat.mod_le _ _) (by omega)
 rw [wrap64 (by omega) (by omega)]
 omega
theorem EG {s:List UInt8}{n:Int}{i:Nat}(hi:i < 4) (hs:s.length=4) (hn:0≤n∧n < 4294967296):∃n',Bg s (n,(i:Int))=some (.n,(n',((i+1:Nat):Int)))∧0≤n'∧n' < 4294967296:=by
 have hx:s[i]?=some s[i]:=List.getElem?_eq_getElem (by omega)
 generalize s[i]=c at hx
 have hc:c.toNat < 256:=c.toNat_lt
 have w0:IntKind.i64.wrap (c.toNat:Int)=c.toNat:=wrap64 (by omega) (by omega)
 have w1:IntKind.i64.wrap (8 * (i:Int))=8 * (i:Int):=wrap64 (by omega) (by omega)
 have w2:IntKind.i64.wrap ((i:Int)+1)=((i+1:Nat):Int):=by rw [wrap64 (by omega) (by omega)]; rfl
 have h1:decide ((i:Int) < 4)=true:=by simp; omega
 have h2:Ur s (i:Int)=some ((c.toNat:Nat):Int):=by
  unfold Ur
  rw [if_pos (by omega),Int.toNat_natCast,hx]; rfl
 obtain⟨v,hv,v0,v1⟩:∃v,RF .i64 (c.toNat:Int) (8 * (i:Int))=some v∧0≤v∧v < 4294967296:=by
  unfold RF
  rw [if_neg (by omega)]
  rcases (show i=0∨i=1∨i=2∨i=3 by omega) with rfl | rfl | rfl | rfl
  ·have e:(2:Int) ^ (min (8 * ((0:Nat):Int)).toNat IntKind.i64.bits)=1:=by decide
   rw [e,wrap64 (by omega) (by omega)]; exact⟨_,rfl,by omega,by omega⟩
  ·have e:(2:Int) ^ (min (8 * ((1:Nat):Int)).toNat IntKind.i64.bits)=256:=by decide
   rw [e,wrap64 (by omega) (by omega)]; exact⟨_,rfl,by omega,by omega⟩
  ·have e:(2:Int) ^ (min (8 * ((2:Nat):Int)).toNat IntKind.i64.bits)=65536:=by decide
   rw [e,wrap64 (by omega) (by omega)]; exact⟨_,rfl,by omega,by omega⟩
  ·have e:(2:Int) ^ (min (8 * ((3:Nat):Int)).toNat IntKind.i64.bits)=16777216:=by decide
   rw [e,wrap64 (by omega) (by omega)]; exact⟨_,rfl,by omega,by omega⟩
 refine⟨tor .i64 n v,?_,ajS hn ⟨v0,v1⟩⟩
 unfold Bg
 simp only [h1,h2,w0,w1,w2,hv,mE]
 rfl
noncomputable def Mc (s:List UInt8):Int:=match t165 s with
 | some (v,_)=>v
 | none=>0
theorem NF {s:List UInt8}(hs:s.length=4):t165 s=some (Mc s,true)∧0≤Mc s:=by
 obtain⟨n1,e1,a1⟩:=EG (s:=s) (n:=0) (i:=0) (by omega) hs (by omega)
 obtain⟨n2,e2,a2⟩:=EG (s:=s) (n:=n1) (i:=1) (by omega) hs a1
 obtain⟨n3,e3,a3⟩:=EG (s:=s) (n:=n2) (i:=2) (by omega) hs a2
 obtain⟨n4,e4,a4⟩:=EG (s:=s) (n:=n3) (i:=3) (by omega) hs a3
 have e5:Bg s (n4,((4:Nat):Int))=some (.x 0,(n4,((4:Nat):Int))):=rfl
 have lp:vB (Bg s) (0,0)=some (.x 0,(n4,((4:Nat):Int))):=by
  have e0:((0:Nat):Int)=0:=rfl
  rw [e0] at e1
  rw [rJ e1,rJ e2,rJ e3,rJ e4]
  exact qQ e5 (by simp)
 have h4:(!decide (((s.length:Nat):Int)=4))=false:=by simp; omega
 have:t165 s=some (n4,true):=by
  unfold t165
  rw [lp,h4]
  rfl
 refine⟨?_,?_⟩
 ·unfold Mc; rw [this]
 ·unfold Mc; rw [this]; exact a4.1
theorem aBu {s:List UInt8}(hs:s.length=4) (h:kU):KK 165 [.str s] h=some (.ret (.tuple [.int .i64 (Mc s),.bool true]),h):=(aB2 s h).trans (by rw [(NF hs).1]; rfl)
noncomputable def C4 (a:mL) (inp:List UInt8) (i:Nat):Int :=
 if a.elem=4 then Mc ((inp.drop (a.off+i * a.elem).toNat).take 4) else(((inp.getD (a.off+i * a.elem).toNat 0).toNat:Nat):Int)
noncomputable def tN (a:mL) (inp:List UInt8) (n i:Nat):List Int:=(List.range n).map fun j=>if j < i then C4 a inp j else 0
noncomputable def AT (a:mL) (inp:List UInt8):List Int:=if a.kind=1 then tN a inp a.len.toNat a.len.toNat else List.replicate a.len.toNat 0
theorem Ef {a:mL}{inp:List UInt8}{n i:Nat}:(tN a inp n i).length=n:=by simp [tN]
theorem SH {a:mL}{inp:List UInt8}{n:Nat}:tN a inp n 0=List.replicate n 0:=by
 unfold tN
 simp [List.map_const']
theorem MY {a:mL}{inp:List UInt8}{n i:Nat}:(tN a inp n i).set i (C4 a inp i)=tN a inp n (i+1):=by
 apply List.ext_getElem?
 intro k
 unfold tN
 rw [List.getElem?_set,List.getElem?_map,List.getElem?_map]
 by_cases hk:k < n
 ·rw [List.getElem?_range hk]
  by_cases h:i=k
  ·subst h; simp [hk]
  ·rw [if_neg h]
   simp only [Option.map_some,Option.some.injEq]
   by_cases h2:k < i
   ·rw [if_pos h2,if_pos (by omega)]
   ·rw [if_neg h2,if_neg (by omega)]
 ·have:(List.range n)[k]?=none:=List.getElem?_eq_none_iff.2 (by simp; omega)
  rw [this]
  by_cases h:i=k
  ·rw [if_pos h,if_neg (by simp; omega)]; rfl
  ·rw [if_neg h]; rfl
theorem X7 (a:mL) (inp:List UInt8) (i:Nat) (h:a.elem=4→((inp.drop (a.off+i * a.elem).toNat).take 4).length=4):0≤C4 a inp i:=by
 unfold C4
 split
 ·rename_i h4; exact(NF (h h4)).2
 ·omega
def PU (inp:List UInt8) (a:mL):Prop:=oR a=true∧(a.kind=1→0≤a.off∧a.off+a.elem * a.len≤inp.length)
section
variable {p:IR}{T:List Int}{L:List (List Int)}
def BE (p:IR) (T:List Int) (L:List (List Int)) (a:mL) (l:List Int):kU:=mJ p T L [.cells a.cells,Vc (ci .i64) 1 l]
theorem UO {a:mL}{l:List Int}:(BE p T L a l)[mG L]?=some (.cells a.cells):=by
 unfold BE mJ
 rw [List.getElem?_append_right (by simp)]
 simp
theorem YB {a:mL}{l:List Int}:(BE p T L a l)[mG L+1]?=some (Vc (ci .i64) 1 l):=by
 unfold BE mJ
 rw [List.getElem?_append_right (by simp)]
 simp
theorem UP {a:mL}{l:List Int}{n i:Nat}{v:Int}(hl:l.length=n) (hi:i < n):lT 1 (BE p T L a l) (.vptr (mG L+1) n i) (.int .i64 v)=some (BE p T L a (l.set i v)):=by
 have hg:mZ (BE p T L a l) (mG L+1) n=some (1,l.map (kS.int .i64)):=by
  unfold mZ
  rw [YB]
  unfold Vc
  rw [w6]
  simp [hl]
 have hset:(BE p T L a l).set (mG L+1) (.vec n 1 ((l.set i v).map (kS.int .i64)))=BE p T L a (l.set i v):=by
  unfold BE mJ
  rw [List.set_append_right _ _ (by simp)]
  congr 1
  have:mG L+1 - ((List.range (mG L)).map (zF p T L)).length=1:=by simp
  rw [this]
  unfold Vc
  rw [w6,w6]
  simp [hl,List.map_set]
 rw [lC,hg,←hset]
 simp only [Option.bind_some]
 rw [if_pos ⟨rfl,by simp; omega,by rfl⟩]
 have hp:putCells (l.map (kS.int .i64)) i (kS.cells (.int .i64 v))=(l.set i v).map (kS.int .i64):=by
  rw [List.map_set]
  simp only [putCells,kS.cells]
  rw [List.set_eq_take_append_cons_drop,if_pos (by simp; omega)]
  simp
 rw [hp]
def stI (inp:List UInt8) (n N0:Nat) (p:IR) (k i:Nat):List kS:=[.str inp,.nilptr,.ptr 3 0,.ptr N0 0,.vslice (N0+1) n 0 n 1,.slice (Rw mL.cells p.arrays) .no,.int .i64 (p.arrays.length:Int),.int .i64 (k:Int),.int .i64 (n:Int),.int .i64 (i:Int)]
theorem Wo {a:mL}{inp:List UInt8}(ha:PU inp a) (hk1:a.kind=1) (hinp:inp.length≤65536) {m k i:Nat}(hi:i < a.len.toNat) :
  A8 KK m (stI inp a.len.toNat (mG L) p k i,BE p T L a (tN a inp a.len.toNat i)) =
   some (.normal,(stI inp a.len.toNat (mG L) p k (i+1),BE p T L a (tN a inp a.len.toNat (i+1)))):=by
 obtain⟨hs,hin⟩:=ha
 obtain⟨ho,hn⟩:=hin hk1
 have he:a.elem=1∨a.elem=4:=by
  simp only [oR,Bool.and_eq_true,Bool.or_eq_true,decide_eq_true_eq] at hs; exact hs.1
 have hl1:1≤a.len∧a.len≤16384:=by
  simp only [oR,Bool.and_eq_true,Bool.or_eq_true,decide_eq_true_eq] at hs; exact hs.2
 have hmul:(i:Int) * a.elem+a.elem≤a.elem * a.len∧0≤(i:Int) * a.elem:=by
  rcases he with he | he <;> rw [he] <;> omega
 have hii:(i:Int) < ((a.len.toNat:Nat):Int):=by omega
 have la:∀l o,kW false 1 (BE p T L a l) (.ptr (mG L) o)=a.cells[o]?:=by
  intro l o
  rw [lH]
  unfold nC
  rw [UO]; rfl
 have fa:∀o,kV o (.ptr (mG L) 0)=some (.ptr (mG L) o):=by intro o; simp [kV]
 have c0:a.cells[0]?=some (.int .i64 a.elem):=rfl
 have c2:a.cells[2]?=some (.int .i64 a.kind):=rfl
 have c3:a.cells[3]?=some (.int .i64 a.off):=rfl
 have w1:IntKind.i64.wrap ((i:Int) * a.elem)=(i:Int) * a.elem:=wrap64 (by omega) (by omega)
 have w2:IntKind.i64.wrap (a.off+(i:Int) * a.elem)=a.off+(i:Int) * a.elem:=wrap64 (by omega) (by omega)
 have w3:IntKind.i64.wrap (a.off+(i:Int) * a.elem+4)=a.off+(i:Int) * a.elem+4:=wrap64 (by omega) (by omega)
 have w4:IntKind.i64.wrap ((i:Int)+1)=((i+1:Nat):Int):=by rw [wrap64 (by omega) (by omega)]; rfl
 have hlt:(a.off+(i:Int) * a.elem).toNat < inp.length:=by omega
 have hsi:Ur inp (a.off+(i:Int) * a.elem)=some (((inp.getD (a.off+i * a.elem).toNat 0).toNat:Nat):Int):=by
  unfold Ur
  rw [if_pos (by omega),List.getD_eq_getElem?_getD,List.getElem?_eq_getElem hlt]; rfl
 generalize hbv:inp.getD (a.off+i * a.elem).toNat 0=bv at hsi
 have hb:bv.toNat < 256:=bv.toNat_lt
 have wb:IntKind.i64.wrap (bv.toNat:Int)=(bv.toNat:Int):=wrap64 (by omega) (by omega)
 have cv:rR .i64 (.int .u8 (bv.toNat:Int))=some (.int .i64 (bv.toNat:Int)):=by simp [wb]
 have ix:kX 1 (.vslice (mG L+1) a.len.toNat 0 a.len.toNat 1) (.int .i64 (i:Int))=some (.vptr (mG L+1) a.len.toNat i):=by
  rw [qL,if_pos ⟨by omega,by omega,rfl⟩]; simp
 have st1:lT 1 (BE p T L a (tN a inp a.len.toNat i)) (.vptr (mG L+1) a.len.toNat i) (.int .i64 (bv.toNat:Int))=some (BE p T L a ((tN a inp a.len.toNat i).set i (bv.toNat:Int))):=UP Ef hi
 by_cases h4:a.elem=4
 ·have hwa:C4 a inp i=Mc ((inp.drop (a.off+i * a.elem).toNat).take 4):=by unfold C4; rw [if_pos h4]
  have hs4:((inp.drop (a.off+i * a.elem).toNat).take 4).length=4:=by
   rw [List.length_take,List.length_drop]; omega
  have k1:=aBu hs4
  rw [←hwa] at k1
  have sl:Jo inp (some (a.off+(i:Int) * a.elem)) (some (a.off+(i:Int) * a.elem+4))=some ((inp.drop (a.off+i * a.elem).toNat).take 4):=by
   generalize hq:a.off+(i:Int) * a.elem=q at *
   have e1:L5 (some q) 0=some q.toNat:=by unfold L5; dsimp only; rw [if_pos (by omega)]
   have e2:L5 (some (q+4)) inp.length=some (q.toNat+4):=by
    unfold L5; dsimp only; rw [if_pos (by omega)]
    have:(q+4).toNat=q.toNat+4:=by omega
    rw [this]
   unfold Jo
   simp only [e1,e2]
   rw [if_pos ⟨by omega,by omega⟩]
   have:q.toNat+4 - q.toNat=4:=by omega
   rw [this]
  have st2:lT 1 (BE p T L a ((tN a inp a.len.toNat i).set i (bv.toNat:Int))) (.vptr (mG L+1) a.len.toNat i) (.int .i64 (C4 a inp i))=some (BE p T L a (tN a inp a.len.toNat (i+1))):=by
   rw [UP (by simp [Ef]) hi,List.set_set,MY]
  have la1:=la (tN a inp a.len.toNat i)
  have la2:=la ((tN a inp a.len.toNat i).set i (bv.toNat:Int))
  have k1e:=eq_true hk1
  unfold A8 stI
  generalize BE p T L a (tN a inp a.len.toNat (i+1))=H3 at *
  generalize BE p T L a ((tN a inp a.len.toNat i).set i (bv.toNat:Int))=H2 at *
  generalize BE p T L a (tN a inp a.len.toNat i)=H1 at *
  generalize a.cells=ac at *
  generalize hS:kS.slice (Rw mL.cells p.arrays) Tok.no=S at *
  generalize List.take 4 (List.drop (a.off+(i:Int) * a.elem).toNat inp)=s4 at *
  generalize ((a.len.toNat:Nat):Int)=nn at *
  have h4e:=eq_true h4
  simp -implicitDefEqProofs [-lH,-lV,-lY,-mH,-oC,-lG,-nR,-lC,-tL,-vC,hii,fa,la1,la2,c0,c2,c3,k1e,w1,w2,w3,w4,hsi,cv,ix,st1,h4e,sl,k1,st2]
 ·have hwa:C4 a inp i=(bv.toNat:Int):=by unfold C4; rw [if_neg h4,hbv]
  rw [←hwa] at st1
  rw [MY] at st1
  rw [←hwa] at cv
  have la1:=la (tN a inp a.len.toNat i)
  have la2:=la (tN a inp a.len.toNat (i+1))
  have k1e:=eq_true hk1
  rw [←hwa] at hsi
  unfold A8 stI
  generalize BE p T L a (tN a inp a.len.toNat (i+1))=H3 at *
  generalize BE p T L a (tN a inp a.len.toNat i)=H1 at *
  generalize a.cells=ac at *
  generalize hS:kS.slice (Rw mL.cells p.arrays) Tok.no=S at *
  generalize ((a.len.toNat:Nat):Int)=nn at *
  have h4e:=eq_false h4
  simp -implicitDefEqProofs [-lH,-lV,-lY,-mH,-oC,-lG,-nR,-lC,-tL,-vC,hii,fa,la1,la2,c0,c2,c3,k1e,w1,w2,w4,hsi,cv,ix,st1,h4e]
theorem Wn {a:mL}{inp:List UInt8}(ha:PU inp a) (hinp:inp.length≤65536) {m k:Nat} :
  ∃i',mQ (A8 KK m) (stI inp a.len.toNat (mG L) p k 0,BE p T L a (List.replicate a.len.toNat 0))=some (.exit 2,(stI inp a.len.toNat (mG L) p k i',BE p T L a (AT a inp))):=by
 have hs:=ha.1
 have hl1:1≤a.len∧a.len≤16384:=by
  simp only [oR,Bool.and_eq_true,Bool.or_eq_true,decide_eq_true_eq] at hs; exact hs.2
 by_cases hk1:a.kind=1
 ·unfold AT
  rw [if_pos hk1,←SH (a:=a) (inp:=inp)]
  refine⟨a.len.toNat,?_⟩
  have key:∀d i,a.len.toNat=i+d→mQ (A8 KK m) (stI inp a.len.toNat (mG L) p k i,BE p T L a (tN a inp a.len.toNat i))=some (.exit 2,(stI inp a.len.toNat (mG L) p k a.len.toNat,BE p T L a (tN a inp a.len.toNat a.len.toNat))):=by
   intro d
   induction d with
   | zero =>
    intro i hi
    obtain rfl:i=a.len.toNat:=by omega
    refine nH ?_
    unfold A8 stI
    generalize BE p T L a (tN a inp a.len.toNat a.len.toNat)=H1 at *
    generalize ((a.len.toNat:Nat):Int)=nn at *
    simp -implicitDefEqProofs
   | succ d ih =>
    intro i hi
    rw [oU (Wo ha hk1 hinp (by omega))]
    exact ih (i+1) (by omega)
  exact key _ 0 (Nat.zero_add _).symm
 ·unfold AT
  rw [if_neg hk1]
  refine⟨0,nH ?_⟩
  have hii:(0:Int) < ((a.len.toNat:Nat):Int):=by omega
  have la:∀o,kW false 1 (BE p T L a (List.replicate a.len.toNat 0)) (.ptr (mG L) o)=a.cells[o]?:=by
   intro o
   rw [lH]
   unfold nC
   rw [UO]; rfl
  have fa:∀o,kV o (.ptr (mG L) 0)=some (.ptr (mG L) o):=by intro o; simp [kV]
  have c2:a.cells[2]?=some (.int .i64 a.kind):=rfl
  unfold A8 stI
  generalize BE p T L a (List.replicate a.len.toNat 0)=H1 at *
  generalize a.cells=ac at *
  generalize ((a.len.toNat:Nat):Int)=nn at *
  have n0:((0:Nat):Int)=0:=rfl
  rw [n0]
  simp -implicitDefEqProofs [-lH,-lV,-lY,-mH,-oC,-lG,-nR,hii,fa,la,c2,hk1]
end
end Go.Proofs.YtkeoalhglkfbkaaDoor


namespace Go.Proofs.YtkeoalhglkfbkaaDoor
open Go Hk
section
variable {p:IR}{T:List Int}{L:List (List Int)}
theorem Ho {L:List (List Int)}{l:List Int}{i:Nat}(h:i < L.length):(L++[l]).getD i []=L.getD i []:=by
 rw [List.getD_eq_getElem?_getD,List.getD_eq_getElem?_getD,List.getElem?_append_left h]
theorem Du {L:List (List Int)}{l:List Int}:(L++[l]).getD L.length []=l:=by
 rw [List.getD_eq_getElem?_getD,List.getElem?_append_right (Nat.le_refl _)]; simp
def zW (L:List (List Int)):List kS:=(List.range L.length).map fun i=>sJ i (L.getD i []).length
theorem Ud (l:List Int):zW (L++[l])=zW L++[sJ L.length l.length]:=by
 unfold zW
 rw [List.length_append,List.length_singleton,List.range_succ,List.map_append]
 congr 1
 ·apply List.map_congr_left
  intro i hi
  rw [Ho (List.mem_range.1 hi)]
 ·simp only [List.map_cons,List.map_nil,Du]
theorem VK {a:mL}{l:List Int}(ha:p.arrays[L.length]?=some a) :
  ((mJ p T L [.cells a.cells,Vc (ci .i64) 1 l,.vec 1 1 [sJ L.length l.length]]).set 4 (.vec (L.length+1) 1 (zW (L++[l])))).set 3 (.cells (Rcl p T (L++[l])))=mJ p T (L++[l]) []:=by
 have h5:=Sb L
 have hN:mG (L++[l])=mG L+3:=by unfold mG; rw [List.length_append,List.length_singleton]; omega
 have hne:L++[l]≠[]:=by simp
 have hNe:mG L=5+3 * L.length:=rfl
 apply List.ext_getElem?
 intro k
 rw [List.getElem?_set]
 by_cases k3:3=k
 ·subst k3
  rw [if_pos rfl,if_pos (by rw [List.length_set,oJ]; omega),tJ (by omega)]
  rfl
 ·rw [if_neg k3,List.getElem?_set]
  by_cases k4:4=k
  ·subst k4
   rw [if_pos rfl,if_pos (by rw [oJ]; omega),tJ (by omega)]
   unfold zF zW
   rw [if_neg (by omega),if_neg (by omega),if_neg (by omega),if_pos rfl,if_neg hne]
   simp
  ·rw [if_neg k4]
   by_cases hk:k < mG L
   ·rw [tJ hk,tJ (by omega)]
    congr 1
    unfold zF
    by_cases e1:k≤1
    ·rw [if_pos e1,if_pos e1]
    ·rw [if_neg e1,if_neg e1]
     by_cases e2:k=2
     ·rw [if_pos e2,if_pos e2]
     ·have k3':¬k=3:=by omega
      have k4':¬k=4:=by omega
      simp only [if_neg e2,if_neg k3',if_neg k4']
      by_cases e5:k % 3=2
      ·simp only [if_pos e5]
      ·simp only [if_neg e5]
       by_cases e6:k % 3=0
       ·simp only [if_pos e6]
        rw [Ho (by omega)]
       ·simp only [if_neg e6]
        rw [Ho (by omega)]
   ·by_cases hk3:k < mG L+3
    ·rw [tJ (L:=L++[l]) (by omega)]
     unfold mJ
     rw [List.getElem?_append_right (by simp; omega)]
     simp only [List.length_map,List.length_range]
     rcases (show k=mG L∨k=mG L+1∨k=mG L+2 by omega) with e | e | e
     ·have q:k - mG L=0:=by omega
      rw [q]
      have q2:(k - 5) / 3=L.length:=by omega
      unfold zF
      rw [if_neg (by omega),if_neg (by omega),if_neg (by omega),if_neg (by omega),if_pos (by omega),q2,List.getD_eq_getElem?_getD,ha]
      rfl
     ·have q:k - mG L=1:=by omega
      rw [q]
      have q2:(k - 6) / 3=L.length:=by omega
      unfold zF
      rw [if_neg (by omega),if_neg (by omega),if_neg (by omega),if_neg (by omega),if_neg (by omega),if_pos (by omega),q2,Du]
      rfl
     ·have q:k - mG L=2:=by omega
      rw [q]
      have q2:(k - 7) / 3=L.length:=by omega
      unfold zF
      rw [if_neg (by omega),if_neg (by omega),if_neg (by omega),if_neg (by omega),if_neg (by omega),if_neg (by omega),q2,Du]
      rfl
    ·rw [List.getElem?_eq_none (by rw [oJ]; simp; omega),List.getElem?_eq_none (by rw [oJ]; simp; omega)]
def stS (inp:List UInt8) (p:IR) (k:Nat):List kS:=[.str inp,.nilptr,.ptr 3 0,.slice (Rw mL.cells p.arrays) .no,.int .i64 (p.arrays.length:Int),.int .i64 (k:Int)]
theorem Tb {a:mL}{inp:List UInt8}(hk2:p.arrays.length≤2000000) (ha:p.arrays[L.length]?=some a) (hin:PU inp a) (hinp:inp.length≤65536) {m:Nat} :
  Gz KK m (stS inp p L.length,mJ p T L [])=some (.normal,(stS inp p (L.length+1),mJ p T (L++[AT a inp]) [])):=by
 have h5:=Sb L
 have hk:L.length < p.arrays.length:=(List.getElem?_eq_some_iff.1 ha).1
 have hkk:(L.length:Int) < (p.arrays.length:Int):=by omega
 have hl1:1≤a.len∧a.len≤16384:=by
  have:=hin.1
  simp only [oR,Bool.and_eq_true,Bool.or_eq_true,decide_eq_true_eq] at this; exact this.2
 have ix:kX 4 (.slice (Rw mL.cells p.arrays) .no) (.int .i64 (L.length:Int))=some (.pptr a.cells):=by
  have e:Rw mL.cells p.arrays=p.arrays.map mL.cells:=rfl
  rw [e]
  unfold kX
  simp [ha,mL.cells]
 have lp:kW true 4 (mJ p T L []) (.pptr a.cells)=some (.agg a.cells):=by simp [mL.cells]
 have an:mH 4 (mJ p T L []) (.agg [.int .i64 0,.int .i64 0,.int .i64 0,.int .i64 0])=some (.ptr (mG L) 0,mJ p T L [.cells [.int .i64 0,.int .i64 0,.int .i64 0,.int .i64 0]]):=by
  simp [oJ,oO]
 have st:lT 4 (mJ p T L [.cells [.int .i64 0,.int .i64 0,.int .i64 0,.int .i64 0]]) (.ptr (mG L) 0) (.agg a.cells)=some (mJ p T L [.cells a.cells]):=by
  have hg:nC (mJ p T L [.cells [.int .i64 0,.int .i64 0,.int .i64 0,.int .i64 0]]) (mG L)=some [.int .i64 0,.int .i64 0,.int .i64 0,.int .i64 0]:=by
   unfold nC mJ
   rw [List.getElem?_append_right (by simp)]
   simp
  have hs:(mJ p T L [.cells [.int .i64 0,.int .i64 0,.int .i64 0,.int .i64 0]]).set (mG L) (.cells a.cells)=mJ p T L [.cells a.cells]:=by
   unfold mJ
   rw [List.set_append_right _ _ (by simp)]
   simp
  rw [lY,hg,←hs]
  simp [mL.cells,putCells,pV]
 have la:kW false 1 (mJ p T L [.cells a.cells]) (.ptr (mG L) 1)=some (.int .i64 a.len):=by
  have hg:nC (mJ p T L [.cells a.cells]) (mG L)=some a.cells:=by
   unfold nC mJ
   rw [List.getElem?_append_right (by simp)]
   simp
  rw [lH,hg]; rfl
 have fa:∀o,kV o (.ptr (mG L) 0)=some (.ptr (mG L) o):=by intro o; simp [kV]
 have mk:nM 1 8 [.int .i64 0] (.int .i64 a.len) (mJ p T L [.cells a.cells])=some (.vslice (mG L+1) a.len.toNat 0 a.len.toNat 1,BE p T L a (List.replicate a.len.toNat 0)):=by
  unfold nM BE
  dsimp only
  rw [if_pos ⟨by omega,by omega,by omega⟩,oJ,oO]
  have:mI.vec a.len.toNat 1 (List.replicate a.len.toNat [kS.int .i64 0]).flatten=Vc (ci .i64) 1 (List.replicate a.len.toNat 0):=by
   unfold Vc
   rw [w6]
   simp only [List.length_replicate,List.map_replicate]
   congr 1
   generalize a.len.toNat=n
   induction n with
   | zero=>rfl
   | succ n ih=>rw [List.replicate_succ,List.flatten_cons,ih,List.replicate_succ]; rfl
  rw [this]
  rfl
 have ln:lS (.vslice (mG L+1) a.len.toNat 0 a.len.toNat 1)=some (.int .i64 ((a.len.toNat:Nat):Int)):=rfl
 obtain⟨i',g⟩:=Wn (p:=p) (T:=T) (L:=L) hin hinp (m:=(BE p T L a (List.replicate a.len.toNat 0)).length) (k:=L.length)
 unfold stI at g
 have n0:((0:Nat):Int)=0:=rfl
 rw [n0] at g
 have hsl:(AT a inp).length=a.len.toNat:=by
  unfold AT; split
  ·exact Ef
  ·simp
 generalize hl:AT a inp=l at *
 have nc:lX (.ptr 3 0)=some (.ptr 3 0):=rfl
 have f6:kV 6 (.ptr 3 0)=some (.ptr 3 6):=rfl
 have r6:kW false 1 (BE p T L a l) (.ptr 3 6)=some (if L=[] then .slice [] (.own 4) else .vslice 4 L.length 0 L.length 1):=by
  unfold BE
  rw [lH,BJ]; rfl
 have bd:pU 1 1 [.slice [] .nil] [(0,.vslice (mG L+1) a.len.toNat 0 a.len.toNat 1)] (BE p T L a l)=some (.vslice (mG L+2) 1 0 1 1,mJ p T L [.cells a.cells,Vc (ci .i64) 1 l,.vec 1 1 [sJ L.length l.length]]):=by
  have e:(kS.vslice (mG L+1) a.len.toNat 0 a.len.toNat 1)=sJ L.length l.length:=by
   unfold sJ mG
   rw [hsl]
   congr 1
   omega
  rw [e]
  have hlen:(BE p T L a l).length=mG L+2:=by unfold BE; rw [oJ]; rfl
  have KI:BE p T L a l++[.vec 1 1 [sJ L.length l.length]]=mJ p T L [.cells a.cells,Vc (ci .i64) 1 l,.vec 1 1 [sJ L.length l.length]]:=by
   unfold BE; rw [oO]; rfl
  rw [←KI,←hlen]
  generalize BE p T L a l=H
  unfold sJ
  rfl
 have ap:nJ 1 24 (mJ p T L [.cells a.cells,Vc (ci .i64) 1 l,.vec 1 1 [sJ L.length l.length]]) (if L=[] then .slice [] (.own 4) else .vslice 4 L.length 0 L.length 1) (.vslice (mG L+2) 1 0 1 1) =
   some (.vslice 4 (L.length+1) 0 (L.length+1) 1,(mJ p T L [.cells a.cells,Vc (ci .i64) 1 l,.vec 1 1 [sJ L.length l.length]]).set 4 (.vec (L.length+1) 1 (zW (L++[l])))):=by
  have hrow:xY 1 (mJ p T L [.cells a.cells,Vc (ci .i64) 1 l,.vec 1 1 [sJ L.length l.length]]) (.vslice (mG L+2) 1 0 1 1)=some [[sJ L.length l.length]]:=by
   have hg:mZ (mJ p T L [.cells a.cells,Vc (ci .i64) 1 l,.vec 1 1 [sJ L.length l.length]]) (mG L+2) 1=some (1,[sJ L.length l.length]):=by
    unfold mZ mJ
    rw [List.getElem?_append_right (by simp)]
    simp
   unfold xY sR Sp
   simp only [hg]
   rfl
  have h4:(mJ p T L [.cells a.cells,Vc (ci .i64) 1 l,.vec 1 1 [sJ L.length l.length]])[4]?=some (zF p T L 4):=tJ (by omega)
  rw [Ud]
  generalize mJ p T L [.cells a.cells,Vc (ci .i64) 1 l,.vec 1 1 [sJ L.length l.length]]=H at *
  by_cases hL:L=[]
  ·subst hL
   rw [if_pos rfl]
   have h4:H[4]?=some (.front 0 0):=h4
   unfold nJ
   simp only [hrow,h4]
   rfl
  ·rw [if_neg hL]
   have hv:mZ H 4 L.length=some (1,zW L):=by
    unfold mZ
    rw [h4]
    unfold zF zW
    simp [hL]
   have hrl:(zW L).length=L.length:=by simp [zW]
   unfold nJ
   simp only [hrow,hv]
   rw [if_pos ⟨trivial,trivial,by simp; omega,by simp; omega⟩,if_neg (by simp),if_neg (by simp)]
   have:List.take (L.length * 1) (zW L)=zW L:=List.take_of_length_le (by omega)
   rw [this]
   rfl
 have s6:lT 1 ((mJ p T L [.cells a.cells,Vc (ci .i64) 1 l,.vec 1 1 [sJ L.length l.length]]).set 4 (.vec (L.length+1) 1 (zW (L++[l])))) (.ptr 3 6) (.vslice 4 (L.length+1) 0 (L.length+1) 1)=some (mJ p T (L++[l]) []):=by
  have hg:nC ((mJ p T L [.cells a.cells,Vc (ci .i64) 1 l,.vec 1 1 [sJ L.length l.length]]).set 4 (.vec (L.length+1) 1 (zW (L++[l])))) 3=some (Rcl p T L):=by
   unfold nC
   rw [List.getElem?_set_ne (by omega),tJ (by omega)]
   rfl
  rw [lY,hg,←VK ha]
  have hne:¬(L++[l]=[]):=by simp
  generalize (mJ p T L [.cells a.cells,Vc (ci .i64) 1 l,.vec 1 1 [sJ L.length l.length]]).set 4 (.vec (L.length+1) 1 (zW (L++[l])))=H
  simp [Rcl,IR.cells,hne,putCells,pV]
 have w4:IntKind.i64.wrap ((L.length:Int)+1)=((L.length+1:Nat):Int):=by rw [wrap64 (by omega) (by omega)]; rfl
 unfold Gz stS
 generalize mJ p T (L++[l]) []=H9 at *
 generalize (mJ p T L [.cells a.cells,Vc (ci .i64) 1 l,.vec 1 1 [sJ L.length l.length]]).set 4 (.vec (L.length+1) 1 (zW (L++[l])))=H8 at *
 generalize mJ p T L [.cells a.cells,Vc (ci .i64) 1 l,.vec 1 1 [sJ L.length l.length]]=H7 at *
 generalize BE p T L a l=H6 at *
 generalize BE p T L a (List.replicate a.len.toNat 0)=H5 at *
 generalize mJ p T L [.cells [.int .i64 0,.int .i64 0,.int .i64 0,.int .i64 0]]=H4 at *
 generalize mJ p T L [.cells a.cells]=H3 at *
 generalize mJ p T L []=H2 at *
 generalize a.cells=ac at *
 generalize hS:kS.slice (Rw mL.cells p.arrays) Tok.no=S at *
 generalize (if L=[] then kS.slice [] (.own 4) else .vslice 4 L.length 0 L.length 1)=arr0 at *
 generalize ((L.length+1:Nat):Int)=k1 at *
 generalize mG L=N0 at *
 generalize ((a.len.toNat:Nat):Int)=nn at *
 generalize hvs:kS.vslice (N0+1) a.len.toNat 0 a.len.toNat 1=vs0 at *
 simp -implicitDefEqProofs [-lH,-lV,-lY,-mH,-oC,-lG,-nR,-lC,-Fe,hkk,ix,lp,an,st,la,fa,mk,ln,g,nc,f6,r6,bd,ap,s6,w4]
noncomputable def qU (arrays:List mL) (inp:List UInt8):List (List Int):=arrays.map fun a=>AT a inp
theorem ZM {inp:List UInt8}(hk2:p.arrays.length≤2000000) (hin:∀a∈p.arrays,PU inp a) (hinp:inp.length≤65536) {m:Nat} :
  ∀(d k:Nat),p.arrays.length=k+d→mQ (Gz KK m) (stS inp p k,mJ p T (qU (p.arrays.take k) inp) [])=some (.exit 0,(stS inp p p.arrays.length,mJ p T (qU p.arrays inp) [])):=by
 intro d
 induction d with
 | zero =>
  intro k hk
  obtain rfl:k=p.arrays.length:=by omega
  rw [List.take_length]
  refine nH ?_
  unfold Gz stS
  simp -implicitDefEqProofs
 | succ d ih =>
  intro k hk
  have hlt:k < p.arrays.length:=by omega
  have hlen:(qU (p.arrays.take k) inp).length=k:=by simp [qU]; omega
  have hr:=Tb (p:=p) (T:=T) (L:=qU (p.arrays.take k) inp) (inp:=inp) (a:=p.arrays[k]) (m:=m) hk2 (by rw [hlen]; exact List.getElem?_eq_getElem hlt) (hin _ (List.getElem_mem hlt)) hinp
  rw [hlen] at hr
  rw [oU hr]
  have:qU (p.arrays.take k) inp++[AT p.arrays[k] inp]=qU (p.arrays.take (k+1)) inp:=by
   unfold qU
   rw [List.take_succ_eq_append_getElem hlt,List.map_append]; rfl
  rw [this]
  exact ih (k+1) (by omega)
theorem aAU {inp:List UInt8}(ht:0≤p.temps∧p.temps≤1048576) (hk2:p.arrays.length≤2000000) (hin:∀a∈p.arrays,PU inp a) (hinp:inp.length≤65536) :
  KK 102 [.agg p.cells,.str inp] [.cells p.cells]=some (.ret (.ptr 3 0),mJ p (List.replicate p.temps.toNat 0) (qU p.arrays inp) []):=by
 refine mR (agE _ _ _ _) ?_
 have al:=ZM (p:=p) (T:=List.replicate p.temps.toNat 0) (inp:=inp) hk2 hin hinp (m:=5) p.arrays.length 0 (by omega)
 have t0:qU (p.arrays.take 0) inp=[]:=rfl
 rw [t0] at al
 have hz:mI.vec p.temps.toNat 1 (List.replicate p.temps.toNat [kS.int .i64 0]).flatten=Vc (ci .i64) 1 (List.replicate p.temps.toNat 0):=by
  unfold Vc
  rw [w6]
  simp only [List.length_replicate,List.map_replicate]
  congr 1
  generalize p.temps.toNat=n
  induction n with
  | zero=>rfl
  | succ n ih=>rw [List.replicate_succ,List.flatten_cons,ih,List.replicate_succ]; rfl
 have mk:nM 1 8 [.int .i64 0] (.int .i64 p.temps) [.cells p.cells,.gone]=some (.vslice 2 p.temps.toNat 0 p.temps.toNat 1,[.cells p.cells,.gone,Vc (ci .i64) 1 (List.replicate p.temps.toNat 0)]):=by
  unfold nM
  dsimp only
  rw [if_pos ⟨by omega,by omega,by omega⟩,hz]
  rfl
 have hh:mJ p (List.replicate p.temps.toNat 0) [] []=[.cells p.cells,.cells p.cells,Vc (ci .i64) 1 (List.replicate p.temps.toNat 0),.cells (p.cells++[.vslice 2 p.temps.toNat 0 p.temps.toNat 1,.slice [] (.own 4)]),.front 0 0]:=by
  unfold mJ
  have:mG []=5:=rfl
  rw [this]
  have:List.range 5=[0,1,2,3,4]:=rfl
  rw [this]
  simp [zF]
 rw [hh] at al
 unfold stS at al
 have n0:((0:Nat):Int)=0:=rfl
 rw [n0] at al
 generalize Vc (ci .i64) 1 (List.replicate p.temps.toNat 0)=VT at *
 have ln:lS (.slice (Rw mL.cells p.arrays) .no)=some (.int .i64 (p.arrays.length:Int)):=by
  have e:Rw mL.cells p.arrays=p.arrays.map mL.cells:=rfl
  rw [e]; simp
 have e2:Rw mL.cells p.arrays=p.arrays.map mL.cells:=rfl
 rw [e2] at al ln
 generalize mJ p (List.replicate p.temps.toNat 0) (qU p.arrays inp) []=HE at *
 unfold axW
 simp only [IR.cells] at *
 simp only [List.cons_append,List.nil_append] at al
 simp -implicitDefEqProofs [mk,ln,al,mY,zG,rG,oA,uT,sD]
end
end Go.Proofs.YtkeoalhglkfbkaaDoor


namespace Go.Proofs.YtkeoalhglkfbkaaDoor
open Go Hk
noncomputable def Dh (p:IR) (inp:List UInt8) (budget:Int):List UInt8×Int :=
 if mN p=0 then
  (if (inp.length:Int)=p.inn∧mO budget 0 67108864=true then(match p.blocks with
   | []=>([],0)
   | b::_=>Sm (EU p.arrays p.out) (C8 uJ p.arrays p.blocks budget.toNat b.term b.ops ⟨List.replicate p.temps.toNat 0,qU p.arrays inp⟩)) else([],2))
 else([],mN p)
theorem MS {inn out:Int}:∀(l:List mL) (e:Int),0≤e→A3 inn out e l=true→∀a∈l,oR a=true∧(a.kind=1→0≤a.off∧a.off+a.elem * a.len≤inn)∧(a.kind=2→0≤a.off∧a.off+a.elem * a.len≤out)
 | [],_,_,_=>fun a ha=>by simp at ha
 | x::r,e,he,h=>by
  simp only [A3,Bool.and_eq_true] at h
  intro a ha
  rcases List.mem_cons.1 ha with rfl | ha
  ·have h1:=h.1
   unfold BN at h1
   split at h1
   ·rename_i hs
    refine⟨hs,fun k1=>?_,fun k2=>?_⟩
    ·rw [if_neg (by omega),if_pos k1] at h1
     simp only [mO,Bool.and_eq_true,decide_eq_true_eq] at h1
     omega
    ·rw [if_neg (by omega),if_neg (by omega),if_pos k2] at h1
     split at h1
     ·rename_i hb
      simp only [mO,Bool.and_eq_true,decide_eq_true_eq] at hb
      omega
     ·cases h1
   ·cases h1
  ·exact MS r _ (Og he) h.2 a ha
theorem Hb {p:IR}(h:mN p=0):(∀b∈p.blocks,(∀o∈b.ops,Xl p o)∧(HT p.temps p.blocks.length b.term∨b.term.kind=3)∧b.ops.length≤2000000)∧(∀b∈p.blocks,-1≤b.term.yes∧-1≤b.term.no) ∧
  (∀a∈p.arrays,oR a=true∧(a.kind=1→0≤a.off∧a.off+a.elem * a.len≤p.inn)∧(a.kind=2→0≤a.off∧a.off+a.elem * a.len≤p.out)):=by
 obtain⟨l0,l,hne,ha,hb⟩:=n_ h
 refine⟨fun b hm=>⟨fun o ho=>arN ((hb b hm).1 o ho),adB (hb b hm).2,?_⟩,fun b hm=>?_,MS _ 0 (Int.le_refl 0) ha⟩
 ·have:=GL hm
  have:=l0.o1
  omega
 ·have ht:=(hb b hm).2
  unfold wN at ht
  split at ht
  ·simp only [Bool.and_eq_true,decide_eq_true_eq,mO] at ht
   omega
  ·split at ht
   ·simp only [Bool.and_eq_true,decide_eq_true_eq,mO] at ht
    omega
   ·simp only [decide_eq_true_eq] at ht
    rw [ht]; exact⟨by decide,by decide⟩
theorem GR {p:IR}{inp:List UInt8}(h:mN p=0) (hi:(inp.length:Int)=p.inn):uZ p (List.replicate p.temps.toNat 0) (qU p.arrays inp):=by
 obtain⟨_,l,_,_,_⟩:=n_ h
 obtain⟨_,_,ha⟩:=Hb h
 refine⟨?_,?_,?_,?_,?_⟩
 ·have:=l.t0; simp; omega
 ·intro x hx
  have:=List.eq_of_mem_replicate hx
  omega
 ·simp [qU]
 ·intro r hr x hx
  unfold qU at hr
  obtain⟨a,ham,rfl⟩:=List.mem_map.1 hr
  obtain⟨hs,h1,_⟩:=ha a ham
  unfold AT at hx
  split at hx
  ·rename_i hk1
   obtain⟨o0,o1⟩:=h1 hk1
   unfold tN at hx
   obtain⟨j,hj,rfl⟩:=List.mem_map.1 hx
   have hj:=List.mem_range.1 hj
   split
   ·refine X7 _ _ _ (fun h4=>?_)
    rw [List.length_take,List.length_drop,h4]
    rw [h4] at o1
    omega
   ·omega
  ·have:=List.eq_of_mem_replicate hx
   omega
 ·intro k a hk
  obtain⟨hs,_⟩:=ha a (List.mem_of_getElem? hk)
  have hl1:1≤a.len:=by
   simp only [oR,Bool.and_eq_true,Bool.or_eq_true,decide_eq_true_eq] at hs; exact hs.2.1
  unfold qU
  rw [List.getD_eq_getElem?_getD,List.getElem?_map,hk]
  simp only [Option.map_some,Option.getD_some]
  unfold AT
  split
  ·rw [Ef]; omega
  ·simp; omega
set_option maxHeartbeats 1000000 in
theorem c51 (p:IR) (inp:List UInt8) (budget:Int) (h:kU):KK 51 [.agg p.cells,.str inp,.int .i64 budget] h=some (.ret (.tuple [.str (Dh p inp budget).1,.int .i64 (Dh p inp budget).2]),h):=by
 refine mD rfl rfl (mR (aqD _ _ _ _ _) ?_)
 have an:mH 5 [] (.agg p.cells)=some (.ptr 0 0,[.cells p.cells]):=by simp [IR.cells]
 have l5:kW true 5 [.cells p.cells] (.ptr 0 0)=some (.agg p.cells):=by simp [IR.cells]
 have un:kS.k8 (.agg p.cells)=.agg p.cells:=rfl
 have k30:=c30 p
 have f3:kV 3 (.ptr 0 0)=some (.ptr 0 3):=rfl
 have l3:kW false 1 [.cells p.cells] (.ptr 0 3)=some (.int .i64 p.inn):=by simp [IR.cells]
 have k68:=Fo budget 0 67108864
 unfold Dh
 by_cases hc:mN p=0
 ·rw [if_pos hc]
  obtain⟨l0,l,hne,_,_⟩:=n_ hc
  obtain⟨r1,r2,r3⟩:=Hb hc
  rw [hc] at k30
  by_cases hi:(inp.length:Int)=p.inn
  ·have e1:lE .neq (.int .i64 (inp.length:Int)) (.int .i64 p.inn)=some (.bool false):=by simp [hi]
   cases hb:mO budget 0 67108864
   ·rw [if_neg (by simp)]
    rw [hb] at k68
    generalize p.cells=pc at *
    unfold m51
    simp -implicitDefEqProofs [-lH,-lV,-lY,-mH,an,l5,un,k30,f3,l3,e1,k68,lM]
   ·rw [if_pos ⟨hi,rfl⟩]
    rw [hb] at k68
    simp only [mO,Bool.and_eq_true,decide_eq_true_eq] at hb
    have k102:=aAU (p:=p) (inp:=inp) ⟨l.t0,l.t1⟩ (by have:=l.a1; omega) (fun a ha=>⟨(r3 a ha).1,fun k1=>by obtain⟨a0,a1⟩:=(r3 a ha).2.1 k1; exact⟨a0,by omega⟩⟩) (by have:=l.i1; omega)
    obtain⟨b,rb,hbl⟩:∃b rb,p.blocks=b::rb:=by
     cases hbl:p.blocks with
     | nil=>exact absurd hbl hne
     | cons b rb=>exact⟨b,rb,rfl⟩
    have hR:=GR (inp:=inp) hc hi
    have h104:∀T L X,yV X→uZ p T L→KK 104 [.ptr 3 0] (mJ p T L X)=some (.ret (.str (EU p.arrays p.out L)),mJ p T L X):=by
     intro T L X hX hR
     refine aAW hX hR.arrs hR.lens ⟨l.o0,l.o1⟩ (fun a ha=>⟨(r3 a ha).1,fun k2=>?_⟩) (by have:=l.a1; omega)
     obtain⟨a0,a1⟩:=(r3 a ha).2.2 k2
     have:=l.o0
     exact⟨a0,by omega⟩
    obtain⟨n',at',T',L',hR',hg⟩:=ah7 h104 r1 r2 (N0:=mG (qU p.arrays inp)) budget.toNat _ _ 0 b (by omega) hR rfl (by rw [hbl]; rfl)
    have n0:((0:Nat):Int)=0:=rfl
    have nb:((budget.toNat:Nat):Int)=budget:=by omega
    rw [nb,n0] at hg
    unfold LN at hg
    rw [hbl]
    simp only
    rw [hbl] at hg
    have hl:(mJ p (List.replicate p.temps.toNat 0) (qU p.arrays inp) []).length=mG (qU p.arrays inp):=by rw [oJ]; rfl
    generalize mJ p (List.replicate p.temps.toNat 0) (qU p.arrays inp) []=H2 at *
    rcases hg with hg | ⟨htr,hg⟩
    ·generalize Sm (EU p.arrays p.out) (C8 uJ p.arrays (b::rb) budget.toNat b.term b.ops ⟨List.replicate p.temps.toNat 0,qU p.arrays inp⟩)=ans at *
     generalize p.cells=pc at *
     unfold m51
     simp -implicitDefEqProofs [-lH,-lV,-lY,-mH,an,l5,un,k30,f3,l3,e1,k68,k102,hl,hg,lM]
    ·rw [htr]
     simp only [Sm]
     generalize p.cells=pc at *
     unfold m51
     simp -implicitDefEqProofs [-lH,-lV,-lY,-mH,an,l5,un,k30,f3,l3,e1,k68,k102,hl,hg,lM]
  ·rw [if_neg (by simp [hi])]
   have e1:lE .neq (.int .i64 (inp.length:Int)) (.int .i64 p.inn)=some (.bool true):=by simp [hi]
   generalize p.cells=pc at *
   unfold m51
   simp -implicitDefEqProofs [-lH,-lV,-lY,-mH,an,l5,un,k30,f3,l3,e1,k68,lM]
 ·rw [if_neg hc]
  generalize p.cells=pc at *
  unfold m51
  simp -implicitDefEqProofs [-lH,-lV,-lY,-mH,an,l5,un,k30,hc,lM]
end Go.Proofs.YtkeoalhglkfbkaaDoor
