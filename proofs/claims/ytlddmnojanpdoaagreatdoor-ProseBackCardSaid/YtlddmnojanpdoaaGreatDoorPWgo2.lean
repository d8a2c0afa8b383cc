/-
  The texts WG.OA, one behind another. No conditions.
-/
import Derived.Test.YtlddmnojanpdoaaGreatDoorPRg1
set_option linter.unusedVariables false
set_option linter.unusedSimpArgs false
set_option linter.all false
open Int renaming cast_ofNat_Int → ae8
namespace Go.Proofs.YtlddmnojanpdoaaGreatDoor
section
open Go Hk
def hS2 (F G:List XF):kT:=[.cells [.slice (F.map XF.cells) .no],.cells [.slice (G.map XF.cells) .no]]
theorem X6 (F G:List XF) (hF:F.length≤70000) (hG:G.length=F.length) (h1:∀(i:Nat) (h:i < F.length) (h':i < G.length),Fq (-1) F[i] G[i]):∀(n i:Nat),F.length < i+n→i≤F.length →
  mQ (F6 KK 2) ([.ptr 0 0,.ptr 1 0,.bool false,.int .i64 (-1),.int .i64 (i:Int)],hS2 F G)=some (.exit 0,[.ptr 0 0,.ptr 1 0,.bool false,.int .i64 (-1),.int .i64 (F.length:Int)],hS2 F G):=by
 have htr:mI 2 (hS2 F G)=some (hS2 F G):=by simp [hS2,mI]
 have hsp0:∀h,kP.m_ 2 h (.ptr 0 0)=.ptr 0 0:=fun h=>lN (by omega)
 have hsp1:∀h,kP.m_ 2 h (.ptr 1 0)=.ptr 1 0:=fun h=>lN (by omega)
 have hx:∀x:XF,List.take 8 (List.map kP.tP x.cells)=x.cells:=fun _=>rfl
 simp only [hS2] at htr ⊢
 intro n
 induction n with
 | zero=>intro i a1 a2; omega
 | succ n ih =>
  intro i a1 a2
  rw [nA]
  by_cases hi:i < F.length
  ·have w1:=vR (a:=i) (by omega)
   have hn:=ih (i+1) (by omega) hi
   simp only [Int.natCast_add,ae8] at hn
   have hi2:i < G.length:=by omega
   have hc:=c53 _ _ _ (h1 i hi hi2)
   simp -implicitDefEqProofs [F6,hi,hi2,hc,hx,lA,htr,hsp0,hsp1,w1,hn]
  ·have he:i=F.length:=by omega
   subst he
   simp -implicitDefEqProofs [F6,lA,htr,hsp0,hsp1]
theorem aDK (F G:List XF) (hF:F.length≤70000) (hG:G.length=F.length) (h1:∀(i:Nat) (h:i < F.length) (h':i < G.length),Fq (-1) F[i] G[i]) (h:kT):KK 26 [.agg [.slice (F.map XF.cells) .no],.agg [.slice (G.map XF.cells) .no],.bool false] h=some (.ret (.bool true),h):=by
 refine lK rfl rfl (lJ (abY _ _ _ _ _) ?_)
 have hl:=X6 F G hF hG h1 (F.length+1) 0 (by omega) (Nat.zero_le _)
 simp only [hS2,ae8] at hl
 simp -implicitDefEqProofs [m26,hl,hG,kS]
end
end Go.Proofs.YtlddmnojanpdoaaGreatDoor
