/-
  The texts WG.LV0, WG.LV, one behind another. No conditions.
-/
import Derived.Test.YtlddmnojanpdoaaGreatDoorPSga1
import Derived.Test.YtlddmnojanpdoaaGreatDoorPSg1
import Derived.Test.YtlddmnojanpdoaaGreatDoorPLg1
set_option linter.unusedVariables false
set_option linter.unusedSimpArgs false
set_option linter.all false
namespace Go.Proofs.YtlddmnojanpdoaaGreatDoor
section
open Go Hk
def YR:List UInt8:=[102,110,32,102,40,41,123,120,61,40,49,43,40,50,42,121,41,41,59,125]
def exR : List (List kP) := [[.int .i64 3, .int .i64 0, .int .i64 0, .str [102, 110]], [.int .i64 1, .int .i64 3, .int .i64 0, .str [102]], [.int .i64 4, .int .i64 4, .int .i64 0, .str [40]], [.int .i64 4, .int .i64 5, .int .i64 0, .str [41]], [.int .i64 4, .int .i64 6, .int .i64 0, .str [123]], [.int .i64 1, .int .i64 7, .int .i64 0, .str [120]],
 [.int .i64 4, .int .i64 8, .int .i64 0, .str [61]], [.int .i64 4, .int .i64 9, .int .i64 0, .str [40]], [.int .i64 2, .int .i64 10, .int .i64 1, .str []], [.int .i64 4, .int .i64 11, .int .i64 0, .str [43]], [.int .i64 4, .int .i64 12, .int .i64 0, .str [40]], [.int .i64 2, .int .i64 13, .int .i64 2, .str []], [.int .i64 4, .int .i64 14, .int .i64 0, .str [42]], [.int .i64 1, .int .i64 15, .int .i64 0, .str [121]], [.int .i64 4, .int .i64 16, .int .i64 0, .str [41]], [.int .i64 4, .int .i64 17, .int .i64 0, .str [41]], [.int .i64 4, .int .i64 18, .int .i64 0, .str [59]], [.int .i64 4, .int .i64 19, .int .i64 0, .str [125]], [.int .i64 0, .int .i64 20, .int .i64 0, .str []]]
def exL:List kP:=[.slice exR .no,.int .i64 0,.int .i64 0,.int .i64 0,.int .i64 0]
def exH:kT:=[.cells [.slice [] (.own 1)],.front 0 0,.cells [.int .i64 0,.int .i64 0],.cells [.int .i64 0,.int .i64 0],.cells exL,.cells [.slice [] (.own 6)],.front 0 0]
def exF:List kP:=(((nM YR).1.map XF.cells)[0]?).getD []
def aaA:List kP:=[.slice exR .no,.int .i64 18,.int .i64 0,.int .i64 0,.int .i64 0]
def aq2:kT:=[.cells [.slice [] (.own 1)],.front 0 0,.cells [.int .i64 0,.int .i64 0],.cells [.int .i64 0,.int .i64 0],.cells aaA,.cells [.slice [] (.own 6)],.front 0 0]
set_option maxRecDepth 100000 in
theorem aBa:Ta Tryz.prog mV (uN 40) 30 29 [.ptr 4 0] exH=some (.ret (.agg exF),aq2):=by kernel_rfl
theorem k29:KK 29 [.ptr 4 0] exH=some (.ret (.agg exF),aq2):=Pj 40 30 29 _ _ _ aBa
theorem ay9:oT YR=([⟨3,0,0,[102,110]⟩,⟨1,3,0,[102]⟩,⟨4,4,0,[40]⟩,⟨4,5,0,[41]⟩,⟨4,6,0,[123]⟩,⟨1,7,0,[120]⟩,⟨4,8,0,[61]⟩,⟨4,9,0,[40]⟩,⟨2,10,1,[]⟩,⟨4,11,0,[43]⟩,⟨4,12,0,[40]⟩,⟨2,13,2,[]⟩,⟨4,14,0,[42]⟩,⟨1,15,0,[121]⟩,⟨4,16,0,[41]⟩,⟨4,17,0,[41]⟩,⟨4,18,0,[59]⟩,⟨4,19,0,[125]⟩,⟨0,20,0,[]⟩],0,0):=by kernel_rfl
theorem Yi:(nM YR).1.map XF.cells=[exF]∧(nM YR).2=(0,0):=by constructor <;> kernel_rfl
end
section
open Go Hk
def aq3:List (List kP):=match exF with
 | [_,_,_,_,_,_,_,.slice b _]=>b
 | _=>[]
theorem Z_:exF=[.int .i64 3,.str [102],.slice [] .no,.bool false,.int .i64 0,.int .i64 0,.int .i64 0,.slice aq3 .no]:=by kernel_rfl
theorem aD2:lH 4 (.slice exR .no) (.int .i64 0)=some (.pptr [.int .i64 3,.int .i64 0,.int .i64 0,.str [102,110]]):=by kernel_rfl
theorem ay8:lH 4 (.slice exR .no) (.int .i64 18)=some (.pptr [.int .i64 0,.int .i64 20,.int .i64 0,.str []]):=by kernel_rfl
def Xi:kT:=[.cells [.slice [] (.own 1)],.front 0 0,.cells [.int .i64 0,.int .i64 0],.cells [.int .i64 0,.int .i64 0],.cells aaA,.cells [.slice [exF] (.own 6)],.front 1 8]
theorem aEk:mQ (CS KK 7) ([.ptr 0 0,.ptr 2 0,.ptr 4 0,.ptr 5 0],Xi)=some (.exit 0,[.ptr 0 0,.ptr 2 0,.ptr 4 0,.ptr 5 0],Xi):=by
 have q:∀h k,k < 7→kP.m_ 7 h (.ptr k 0)=.ptr k 0:=fun h k hk=>lN hk
 rw [nA]
 generalize hF:exF=F
 simp -implicitDefEqProofs [CS,Xi,aaA,exL,hF,ay8,q,lA,mI]
theorem aEj:mQ (CS KK 7) ([.ptr 0 0,.ptr 2 0,.ptr 4 0,.ptr 5 0],exH)=some (.exit 0,[.ptr 0 0,.ptr 2 0,.ptr 4 0,.ptr 5 0],Xi):=by
 have q:∀h k,k < 7→kP.m_ 7 h (.ptr k 0)=.ptr k 0:=fun h k hk=>lN hk
 have k:=k29
 have e:=aEk
 rw [nA]
 simp only [exH,aq2,Xi,aaA,exL,Z_] at k e ⊢
 have hb:∀h:kT,lB 1 8 [.int .i64 0,.str [],.slice [] .nil,.bool false,.int .i64 0,.int .i64 0,.int .i64 0,.slice [] .nil] [(0,.agg [.int .i64 3,.str [102],.slice [] .no,.bool false,.int .i64 0,.int .i64 0,.int .i64 0,.slice aq3 .no])] h =
  some (.slice [[.int .i64 3,.str [102],.slice [] .no,.bool false,.int .i64 0,.int .i64 0,.int .i64 0,.slice aq3 .no]] (.own h.length),h++[.front 1 8]):=fun _=>(rfl)
 have b2:∀(x0 x1 x2 x3 x4 x5:lR) (u:List lR) (t:Tok) (F:List kP),F.length=8→mN 8 104 (x0::x1::x2::x3::x4::x5::.front 0 0::u) (.slice [] (.own 6)) (.slice [F] t)=some (.slice [F] (.own 6),x0::x1::x2::x3::x4::x5::.front 1 8::u):=by
  intro x0 x1 x2 x3 x4 x5 u t F hF
  simp [mN,qU,hF]
 simp -implicitDefEqProofs [CS,k,e,aD2,hb,b2,lZ,lL,putCells,q,lA,mI]
theorem k12 (h:kT):KK 12 [.str YR] h=some (.ret (.tuple [.agg [.slice [exF] .no],.agg [.int .i64 0,.int .i64 0]]),h):=by
 refine lK rfl rfl (lJ (abN _ _ _) ?_)
 have h28:=c28 YR
 have e:=aEj
 rw [ay9] at h28
 have h28:∀h,KK 28 [.str YR] h=some (.ret (.tuple [.slice exR .no,.agg [.int .i64 0,.int .i64 0]]),h):=h28
 simp only [exH,Xi,aaA,exL,Z_] at e ⊢
 simp -implicitDefEqProofs [m12,h28,e,lZ,lL,putCells,kS]
end
end Go.Proofs.YtlddmnojanpdoaaGreatDoor
