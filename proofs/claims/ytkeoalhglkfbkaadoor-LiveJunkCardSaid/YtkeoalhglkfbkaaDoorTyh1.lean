/-
  The texts TY.Q1, TY.H1, TY.H2, TY.H3, TY.H4, TY.H5, TY.H6, one behind another. No conditions.
-/
import Derived.Test.YtkeoalhglkfbkaaDoorIxa1
import Derived.Test.YtkeoalhglkfbkaaDoorVt1
set_option linter.unusedVariables false
set_option linter.unusedSimpArgs false
set_option linter.unusedSectionVars false
set_option linter.all false

namespace Hk.PQ
variable {α:Type}{key:α→Int}
end Hk.PQ


namespace Go.Proofs.YtkeoalhglkfbkaaDoor
open Go Hk
@[simp] theorem aeY {f:Nat}{x y:List kS}:sK (.func f x y)=some (f,x,y):=(rfl)
@[simp] theorem asX {f m:Nat}{h:Hk.kU}:kS.oH m h (.func f [] [])=.func f [] []:=(rfl)
@[simp] theorem Qw {f:Nat}{x y:List kS}:kS.mV (.func f x y)=true:=(rfl)
def rd (S:List Int) (j:Nat):Int:=S.getD j 0
theorem CJ {S:List Int}{j:Nat}(h:j < S.length):S[j]?=some (rd S j):=by unfold rd; rw [List.getD_eq_getElem?_getD,List.getElem?_eq_getElem h]; rfl
@[simp high] theorem aCY {c:mI}{C:Hk.kU}{S:List Int}{n j:Nat}{v:Int}(h:S.length=n) (hj:j < n):lT 1 (c::Vc (ci .i64) 1 S::C) (.vptr 1 n j) (.int .i64 v)=some (c::Vc (ci .i64) 1 (S.set j v)::C):=by
 subst h
 have:=Fk (enc:=ci .i64) (sz:=1) (h:=c::Vc (ci .i64) 1 S::C) (id:=1) (tot:=S.length) (j:=j) (xs:=S) (v:=.int .i64 v) v (fun _=>rfl) rfl (by omega) rfl rfl
 rw [Nat.mul_one] at this
 rw [this,sN,if_pos rfl,List.getElem?_eq_getElem hj,mE,AY,if_pos ⟨rfl,hj⟩]
 rfl
@[simp high] theorem aCX {c:mI}{C:Hk.kU}{S:List Int}{n j:Nat}(h:S.length=n) (hj:j < n):kW false 1 (c::Vc (ci .i64) 1 S::C) (.vptr 1 n j)=some (.int .i64 (rd S j)):=by
 subst h
 rw [oC]
 have e:(c::Vc (ci .i64) 1 S::C:Hk.kU)[1]?=some (Vc (ci .i64) 1 S):=rfl
 rw [e,atN (fun _=>rfl),sN,if_pos rfl,CJ hj]
 rfl
def Still (C:Hk.kU):Prop:=∀m h,nW m h C=some C
section
variable {C:Hk.kU}(hC:Still C) {S:List Int}{n i:Nat}
include hC
end
section
variable {S:List Int}{n i:Nat}{x:Int}
end
end Go.Proofs.YtkeoalhglkfbkaaDoor


namespace Hk.PQ
end Hk.PQ
namespace Go.Proofs.YtkeoalhglkfbkaaDoor
open Go Hk
end Go.Proofs.YtkeoalhglkfbkaaDoor


namespace Go.Proofs.YtkeoalhglkfbkaaDoor
open Go Hk
structure rD where
 slot:Int
 last:Int
def rD.cells (x:rD):List kS:=[.int .i64 x.slot,.int .i64 x.last]
theorem rD.tI (x:rD):x.cells=[.int .i64 x.slot,.int .i64 x.last]:=(rfl)
attribute [simp] rD.tI
def rt (S:List rD) (j:Nat):rD:=S.getD j ⟨0,0⟩
theorem DL {S:List rD}{j:Nat}(h:j < S.length):S[j]?=some (rt S j):=by unfold rt; rw [List.getD_eq_getElem?_getD,List.getElem?_eq_getElem h]; rfl
@[simp high] theorem aAx {c:mI}{C:Hk.kU}{S:List rD}{n j:Nat}{u v:Int}(h:S.length=n) (hj:j < n):lT 2 (c::Vc rD.cells 2 S::C) (.vptr 1 n (j * 2)) (.agg [.int .i64 u,.int .i64 v])=some (c::Vc rD.cells 2 (S.set j ⟨u,v⟩)::C):=by
 subst h
 have:=Fk (enc:=rD.cells) (sz:=2) (h:=c::Vc rD.cells 2 S::C) (id:=1) (tot:=S.length) (j:=j) (xs:=S) (v:=.agg [.int .i64 u,.int .i64 v]) ⟨u,v⟩ (fun _=>rfl) rfl (by omega) rfl rfl
 rw [this,sN,if_pos rfl,List.getElem?_eq_getElem hj,mE,AY,if_pos ⟨rfl,hj⟩]
 rfl
@[simp high] theorem aAv {c:mI}{C:Hk.kU}{S:List rD}{n j:Nat}(h:S.length=n) (hj:j < n):kW true 2 (c::Vc rD.cells 2 S::C) (.vptr 1 n (j * 2))=some (.agg [.int .i64 (rt S j).slot,.int .i64 (rt S j).last]):=by
 subst h
 rw [oC]
 have e:(c::Vc rD.cells 2 S::C:Hk.kU)[1]?=some (Vc rD.cells 2 S):=rfl
 rw [e,atO (enc:=rD.cells) (sz:=2) (fun _=>rfl) (by omega),sN,if_pos rfl,DL hj]
 rfl
section
variable {C:Hk.kU}(hC:Still C) {S:List rD}{n i:Nat}
include hC
end
end Go.Proofs.YtkeoalhglkfbkaaDoor


namespace Go.Proofs.YtkeoalhglkfbkaaDoor
open Go Hk
section
variable {S:List rD}{n i:Nat}{x:rD}
end
end Go.Proofs.YtkeoalhglkfbkaaDoor


namespace Go.Proofs.YtkeoalhglkfbkaaDoor
open Go Hk
end Go.Proofs.YtkeoalhglkfbkaaDoor


namespace Go.Proofs.YtkeoalhglkfbkaaDoor
open Go Hk
def FV (S:List Int):mI:=if S=[] then .front 0 0 else Vc (ci .i64) 1 S
def UV (S:List rD):mI:=if S=[] then .front 0 0 else Vc rD.cells 2 S
section
variable {id:Nat}{S:List Int}{U:List rD}{n:Nat}
end
section
variable {b0 b1 b2 b3 b4 b5 b8 b9:mI}{S:List Int}{U:List rD}{n:Nat}
end
end Go.Proofs.YtkeoalhglkfbkaaDoor
