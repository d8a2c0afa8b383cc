/-
  The texts RG.M, RG.A, RG.B, RG.C, RG.D, RG.E, RG.F, RG.G, RG.H, RG.I, RG.J, RG.K, RG.L, RG.N, RG.O, RG.Q, RG.R, RG.S, RG.P, one behind another. No conditions.
-/
import Derived.Test.YtlddmnojanpdoaaGreatDoorPLg1
import Derived.Test.YtlddmnojanpdoaaGreatDoorPSg1
set_option linter.unusedVariables false
set_option linter.unusedSimpArgs false
set_option linter.all false
open List renaming length_nil → am3
namespace Go.Proofs.YtlddmnojanpdoaaGreatDoor
section
open Go Hk

end
section
open Go Hk
def wT (L:List Token):Prop:=∀a,(tk L a).kind=3→nT (tk L a).text=none
section
variable (L:List Token) (un:PM XE)
end
section
variable {L:List Token}{un:PM XE}
variable (hK:rE L) (hW:wT L) (hg:mE L 1 (fun d=>d) un)
include hK
include hW hg
end
end
section
open Go Hk
section
variable {A B C:List lR}{L:List Token}{a d er p k:Nat}
end
end
section
open Go Hk
section
variable {L:List Token}(hL:L.length≤131072)
include hL
end
end
section
open Go Hk
section
variable {L:List Token}{α β:Type}{x:PM α}{a d e p a1 e1 p1 a2 e2 p2:Nat}{v:α}{w:β}
end
def xI (e:Nat) (t:Token) (w:List UInt8):Bool:=decide (e=0) && isS t w
section
variable {L:List Token}(hL:L.length≤131072) (hK:rE L)
include hL hK
end
end
section
open Go Hk
section
variable {L:List Token}(hL:L.length≤131072) (hK:rE L)
include hL hK
end
end
section
open Go Hk
section
variable {A B C:List lR}{L:List Token}{a d er p k:Nat}{x y:XE}{t:Tok}
end
def hx (A B:List lR) (x:XE):List lR:=[.cells [.int .i64 0,.int .i64 0,.int .i64 0,.str [],.slice [] (.own (HN A B+1))],.front 0 0,.cells x.cells,.front 0 0]
section
variable {L:List Token}(hL:L.length≤131072) (hK:rE L) (hW:wT L)
include hL hK
end
end
section
open Go Hk
section
variable {L:List Token}(hL:L.length≤131072) (hK:rE L) (hW:wT L)
include hL hK hW
end
end
section
open Go Hk
section
variable {L:List Token}(hL:L.length≤131072) (hK:rE L) (hW:wT L)
include hL hK
end
end
section
open Go Hk
section
variable {L:List Token}(hL:L.length≤131072) (hK:rE L) (hW:wT L)
include hL hK
end
end
section
open Go Hk
section
variable {L:List Token}(hL:L.length≤131072) (hK:rE L) (hW:wT L)
include hL hK
end
end
section
open Go Hk
section
variable {L:List Token}(hL:L.length≤131072) (hK:rE L) (hW:wT L)
include hL hK
include hW
end
end
section
open Go Hk
section
variable {L:List Token}(hL:L.length≤131072) (hK:rE L) (hW:wT L)
include hL hK hW
end
end
section
open Go Hk
section
variable {A B C:List lR}{L:List Token}{a d er p k:Nat}{t:Tok}{r:List kP}
end
section
variable {L:List Token}(hL:L.length≤131072) (hK:rE L) (hW:wT L)
include hL hK hW
end
end
section
open Go Hk
section
variable {L:List Token}(hL:L.length≤131072) (hK:rE L) (hW:wT L)
include hL hK hW
end
end
section
open Go Hk
section
variable {L:List Token}(hL:L.length≤131072) (hK:rE L) (hW:wT L)
include hL hK
include hW
end
end
section
open Go Hk
section
variable {A B C:List lR}{L:List Token}{a d er p k:Nat}{x y:XP}{t:Tok}
end
section
variable {L:List Token}(hL:L.length≤131072) (hK:rE L) (hW:wT L)
include hL hK
include hW
end
end
section
open Go Hk
section
variable {L:List Token}(hL:L.length≤131072) (hK:rE L) (hW:wT L)
include hL hK hW
end
end
section
open Go Hk
theorem Yt {s:List UInt8}{F:List XF}{p:Nat}(h1:nM s=(F,0,p)):Bd (Fq ((0:Nat):Int)) F F∧F.length≤70000:=by
 obtain⟨l,e1,e2,a1,d1,e3⟩:=Hi h1
 have n1:=De s
 have p1:=G4 s
 rw [e1] at n1 p1
 simp only [List.length_append,List.length_cons,am3] at n1
 have hs:s.length≤65536:=by
  by_cases h:65536 < s.length
  ·have:(oT s).2.1=8∨(oT s).2.1≠0:=by
    right
    unfold oT
    rw [if_pos h]
    simp
   rw [e1] at this
   simp at this
  ·omega
 have k1:rE (l++[(⟨0,s.length,0,[]⟩:Token)]):=B_
 have hz:∀i,i < l.length→(tk (l++[(⟨0,s.length,0,[]⟩:Token)]) i).kind≠0:=by
  intro i hi
  have:tk (l++[(⟨0,s.length,0,[]⟩:Token)]) i=tk l i:=by simp [tk,List.getElem?_append_left hi]
  rw [this]; exact e2 _ (ME hi)
 obtain⟨hd2,i,i1,i2,i3⟩:=Ep k1 (N:=l.length) (by simp) hz (fun i hi=>rfl) _ _ _ _ _ _ _ (Nat.zero_le _) e3
 simp only [am3,Nat.zero_add] at i1 i2
 obtain⟨_,V',u1,F',u2,u3⟩:=J7 (RD k1 fun x hx=>by have:=p1 x hx; omega) [] 131073 [] [] rfl 0 (by simp) 0 F a1 d1 e3
 simp only [List.append_nil,List.nil_append,Nat.add_zero,Nat.zero_add] at u1 u2
 rw [e3] at u1
 cases u1
 subst u2
 exact⟨u3,by omega⟩
end
end Go.Proofs.YtlddmnojanpdoaaGreatDoor
