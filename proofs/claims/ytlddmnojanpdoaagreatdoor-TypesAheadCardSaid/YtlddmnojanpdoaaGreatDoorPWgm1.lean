/-
  The texts WG.KL, WG.KM, one behind another. No conditions.
-/
import Derived.Test.YtlddmnojanpdoaaGreatDoorPSga1
import Derived.Test.YtlddmnojanpdoaaGreatDoorPSg1
import Derived.Test.YtlddmnojanpdoaaGreatDoorPLg1
set_option linter.unusedVariables false
set_option linter.unusedSimpArgs false
set_option linter.all false
namespace Go.Proofs.YtlddmnojanpdoaaGreatDoor
section
open Go Hk
def rdL (R:List (List kM)) (n:Int):List kM:=[.slice R .no,.int .i64 n,.int .i64 0,.int .i64 0,.int .i64 0]
def rdH (R:List (List kM)) (n:Int):kP:=[.cells [.slice [] (.own 1)],.front 0 0,.cells [.int .i64 0,.int .i64 0],.cells [.int .i64 0,.int .i64 0],.cells (rdL R n),.cells [.slice [] (.own 6)],.front 0 0]
def adB (R:List (List kM)) (n:Int) (F:List kM):kP:=[.cells [.slice [] (.own 1)],.front 0 0,.cells [.int .i64 0,.int .i64 0],.cells [.int .i64 0,.int .i64 0],.cells (rdL R n),.cells [.slice [F] (.own 6)],.front 1 8]
def fnC (p e l b:Int) (name:List UInt8) (ps bs:List (List kM)) (has:Bool):List kM:=[.int .i64 p,.str name,.slice ps .no,.bool has,.int .i64 e,.int .i64 l,.int .i64 b,.slice bs .no]
section
variable {R:List (List kM)}{n:Int}{a b c d q:Int}{t u:List UInt8}{p e l m:Int}{name:List UInt8}{ps bs:List (List kM)}{has:Bool}
theorem aKe (F:List kM) (hn:kX 4 (.slice R .no) (.int .i64 n)=some (.pptr [.int .i64 0,.int .i64 a,.int .i64 b,.str t])):mI (Dk KK 7) ([.ptr 0 0,.ptr 2 0,.ptr 4 0,.ptr 5 0],adB R n F)=some (.exit 0,[.ptr 0 0,.ptr 2 0,.ptr 4 0,.ptr 5 0],adB R n F):=by
 have q:∀h k,k < 7→kM.mO 7 h (.ptr k 0)=.ptr k 0:=fun h k hk=>lC hk
 rw [lZ]
 simp -implicitDefEqProofs [Dk,adB,rdL,hn,q,kS,l9]
theorem aKd (hn:kX 4 (.slice R .no) (.int .i64 n)=some (.pptr [.int .i64 0,.int .i64 a,.int .i64 b,.str t])) (h0:kX 4 (.slice R .no) (.int .i64 0)=some (.pptr [.int .i64 3,.int .i64 c,.int .i64 d,.str u]))
  (k:KK 29 [.ptr 4 0] (rdH R 0)=some (.ret (.agg (fnC p e l m name ps bs has)),rdH R n)):mI (Dk KK 7) ([.ptr 0 0,.ptr 2 0,.ptr 4 0,.ptr 5 0],rdH R 0)=some (.exit 0,[.ptr 0 0,.ptr 2 0,.ptr 4 0,.ptr 5 0],adB R n (fnC p e l m name ps bs has)):=by
 have q:∀h k,k < 7→kM.mO 7 h (.ptr k 0)=.ptr k 0:=fun h k hk=>lC hk
 have e:=aKe (fnC p e l m name ps bs has) hn
 rw [lZ]
 simp only [rdH,adB,rdL,fnC] at k e ⊢
 have hb:∀(h:kP) (p e l b:Int) (name:List UInt8) (ps bs:List (List kM)) (has:Bool),kW 1 8 [.int .i64 0,.str [],.slice [] .nil,.bool false,.int .i64 0,.int .i64 0,.int .i64 0,.slice [] .nil] [(0,.agg [.int .i64 p,.str name,.slice ps .no,.bool has,.int .i64 e,.int .i64 l,.int .i64 b,.slice bs .no])] h =
  some (.slice [[.int .i64 p,.str name,.slice ps .no,.bool has,.int .i64 e,.int .i64 l,.int .i64 b,.slice bs .no]] (.own h.length),h++[.front 1 8]):=fun _ _ _ _ _ _ _ _ _=>(rfl)
 have b2:∀(x0 x1 x2 x3 x4 x5:lE) (u:List lE) (t:Tok) (F:List kM),F.length=8→mG 8 104 (x0::x1::x2::x3::x4::x5::.front 0 0::u) (.slice [] (.own 6)) (.slice [F] t)=some (.slice [F] (.own 6),x0::x1::x2::x3::x4::x5::.front 1 8::u):=by
  intro x0 x1 x2 x3 x4 x5 u t F hF
  simp [mG,pY,hF]
 simp -implicitDefEqProofs [Dk,k,e,h0,hb,b2,lK,lD,putCells,q,kS,l9]
theorem aJY {s:List UInt8}(h28:∀h,KK 28 [.str s] h=some (.ret (.tuple [.slice R .no,.agg [.int .i64 0,.int .i64 0]]),h)) (hn:kX 4 (.slice R .no) (.int .i64 n)=some (.pptr [.int .i64 0,.int .i64 a,.int .i64 b,.str t])) (h0:kX 4 (.slice R .no) (.int .i64 0)=some (.pptr [.int .i64 3,.int .i64 c,.int .i64 d,.str u]))
  (k:KK 29 [.ptr 4 0] (rdH R 0)=some (.ret (.agg (fnC p e l m name ps bs has)),rdH R n)) (h:kP):KK 12 [.str s] h=some (.ret (.tuple [.agg [.slice [fnC p e l m name ps bs has] .no],.agg [.int .i64 0,.int .i64 0]]),h):=by
 refine lA rfl rfl (k9 (ah0 _ _ _) ?_)
 have e:=aKd hn h0 k
 simp only [rdH,adB,rdL,fnC] at e ⊢
 simp -implicitDefEqProofs [m12,h28,e,lK,lD,putCells,kN]
end
end
section
open Go Hk
def YE (w:List UInt8):List UInt8:=[102,110,32,109,97,105,110,40,115,101,99,32,107,58,32,117,56,91,52,93,44,32,111,117,116,32]++w++[32,111,58,32,117,51,50,91,49,93,41,32,123,32,111,91,48,93,32,61,32,107,91,48,93,59,32,125]
def tkX (w:List UInt8):List Token:=[⟨3,0,0,[102,110]⟩,⟨1,3,0,[109,97,105,110]⟩,⟨4,7,0,[40]⟩,⟨3,8,0,[115,101,99]⟩,⟨1,12,0,[107]⟩,⟨4,13,0,[58]⟩,⟨3,15,0,[117,56]⟩,⟨4,17,0,[91]⟩,⟨2,18,4,[]⟩,⟨4,19,0,[93]⟩,⟨4,20,0,[44]⟩,⟨3,22,0,[111,117,116]⟩,⟨3,26,0,w⟩,⟨1,30,0,[111]⟩,⟨4,31,0,[58]⟩,⟨3,33,0,[117,51,50]⟩,⟨4,36,0,[91]⟩,⟨2,37,1,[]⟩,⟨4,38,0,[93]⟩,⟨4,39,0,[41]⟩,⟨4,41,0,[123]⟩,⟨1,43,0,[111]⟩,⟨4,44,0,[91]⟩,⟨2,45,0,[]⟩,⟨4,46,0,[93]⟩,⟨4,48,0,[61]⟩,⟨1,50,0,[107]⟩,⟨4,51,0,[91]⟩,⟨2,52,0,[]⟩,⟨4,53,0,[93]⟩,⟨4,54,0,[59]⟩,⟨4,56,0,[125]⟩,⟨0,57,0,[]⟩]
def prX (w:List UInt8):XF:=match (mW (YE w)).1 with
 | [f]=>f
 | _=>⟨0,[],[],false,⟨0,0,0⟩,[]⟩
def Js:List UInt8:=[112,117,98]
def G7:List UInt8:=[115,101,99]
theorem aKb:oI (YE Js)=(tkX Js,0,0):=by kernel_rfl
theorem aKc:oI (YE G7)=(tkX G7,0,0):=by kernel_rfl
theorem aKK:mW (YE Js)=([prX Js],0,0):=by kernel_rfl
theorem aKL:mW (YE G7)=([prX G7],0,0):=by kernel_rfl
set_option maxRecDepth 100000 in
theorem aKY:Tg Tryz.prog mJ (tW 40) 30 29 [.ptr 4 0] (rdH ((tkX Js).map Token.cells) 0)=some (.ret (.agg (prX Js).cells),rdH ((tkX Js).map Token.cells) 32):=by kernel_rfl
set_option maxRecDepth 100000 in
theorem aKZ:Tg Tryz.prog mJ (tW 40) 30 29 [.ptr 4 0] (rdH ((tkX G7).map Token.cells) 0)=some (.ret (.agg (prX G7).cells),rdH ((tkX G7).map Token.cells) 32):=by kernel_rfl
theorem aE6 {w:List UInt8}(hl:oI (YE w)=(tkX w,0,0)) (hr:Tg Tryz.prog mJ (tW 40) 30 29 [.ptr 4 0] (rdH ((tkX w).map Token.cells) 0)=some (.ret (.agg (prX w).cells),rdH ((tkX w).map Token.cells) 32)) (h:kP) :
  KK 12 [.str (YE w)] h=some (.ret (.tuple [.agg [.slice [(prX w).cells] .no],.agg [.int .i64 0,.int .i64 0]]),h):=by
 have h28:=c28 (YE w)
 rw [hl] at h28
 exact aJY (R:=(tkX w).map Token.cells) (n:=32) (a:=57) (b:=0) (t:=[]) (c:=0) (d:=0) (u:=[102,110]) h28 (by kernel_rfl) (by kernel_rfl) (Rz 40 30 29 _ _ _ hr) h
end
end Go.Proofs.YtlddmnojanpdoaaGreatDoor
