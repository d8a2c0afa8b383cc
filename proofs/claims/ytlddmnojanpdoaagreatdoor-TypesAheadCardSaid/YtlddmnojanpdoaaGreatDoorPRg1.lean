/-
  The texts RG.M, RG.A, RG.B, RG.C, RG.D, RG.E, RG.F, RG.G, RG.H, RG.I, RG.J, RG.K, RG.L, RG.N, RG.O, RG.Q, RG.R, RG.S, one behind another. No conditions.
-/
import Derived.Test.YtlddmnojanpdoaaGreatDoorPLg1
import Derived.Test.YtlddmnojanpdoaaGreatDoorPSg2
set_option linter.unusedVariables false
set_option linter.unusedSimpArgs false
set_option linter.all false
namespace Go.Proofs.YtlddmnojanpdoaaGreatDoor
section
open Go Hk

end
section
open Go Hk
def wQ (L:List Token):Prop:=∀a,(tk L a).kind=3→nV (tk L a).text=none
section
variable (L:List Token) (un:PM XE)
end
section
variable {L:List Token}{un:PM XE}
variable (hK:rF L) (hW:wQ L) (hg:mB L 1 (fun d=>d) un)
include hK
include hW hg
end
end
section
open Go Hk
section
variable {A B C:List lE}{L:List Token}{a d er p k:Nat}
end
end
section
open Go Hk
section
variable {L:List Token}(hL:L.length≤131072)
include hL
end
end
section
open Go Hk
section
variable {L:List Token}{α β:Type}{x:PM α}{a d e p a1 e1 p1 a2 e2 p2:Nat}{v:α}{w:β}
end
def xJ (e:Nat) (t:Token) (w:List UInt8):Bool:=decide (e=0) && isS t w
section
variable {L:List Token}(hL:L.length≤131072) (hK:rF L)
include hL hK
end
end
section
open Go Hk
section
variable {L:List Token}(hL:L.length≤131072) (hK:rF L)
include hL hK
end
end
section
open Go Hk
section
variable {A B C:List lE}{L:List Token}{a d er p k:Nat}{x y:XE}{t:Tok}
end
def hx (A B:List lE) (x:XE):List lE:=[.cells [.int .i64 0,.int .i64 0,.int .i64 0,.str [],.slice [] (.own (HN A B+1))],.front 0 0,.cells x.cells,.front 0 0]
section
variable {L:List Token}(hL:L.length≤131072) (hK:rF L) (hW:wQ L)
include hL hK
end
end
section
open Go Hk
section
variable {L:List Token}(hL:L.length≤131072) (hK:rF L) (hW:wQ L)
include hL hK hW
end
end
section
open Go Hk
section
variable {L:List Token}(hL:L.length≤131072) (hK:rF L) (hW:wQ L)
include hL hK
end
end
section
open Go Hk
section
variable {L:List Token}(hL:L.length≤131072) (hK:rF L) (hW:wQ L)
include hL hK
end
end
section
open Go Hk
section
variable {L:List Token}(hL:L.length≤131072) (hK:rF L) (hW:wQ L)
include hL hK
end
end
section
open Go Hk
section
variable {L:List Token}(hL:L.length≤131072) (hK:rF L) (hW:wQ L)
include hL hK
include hW
end
end
section
open Go Hk
section
variable {L:List Token}(hL:L.length≤131072) (hK:rF L) (hW:wQ L)
include hL hK hW
end
end
section
open Go Hk
section
variable {A B C:List lE}{L:List Token}{a d er p k:Nat}{t:Tok}{r:List kM}
end
section
variable {L:List Token}(hL:L.length≤131072) (hK:rF L) (hW:wQ L)
include hL hK hW
end
end
section
open Go Hk
section
variable {L:List Token}(hL:L.length≤131072) (hK:rF L) (hW:wQ L)
include hL hK hW
end
end
section
open Go Hk
section
variable {L:List Token}(hL:L.length≤131072) (hK:rF L) (hW:wQ L)
include hL hK
include hW
end
end
section
open Go Hk
section
variable {A B C:List lE}{L:List Token}{a d er p k:Nat}{x y:XP}{t:Tok}
end
section
variable {L:List Token}(hL:L.length≤131072) (hK:rF L) (hW:wQ L)
include hL hK
include hW
end
end
section
open Go Hk
section
variable {L:List Token}(hL:L.length≤131072) (hK:rF L) (hW:wQ L)
include hL hK hW
end
end
end Go.Proofs.YtlddmnojanpdoaaGreatDoor
