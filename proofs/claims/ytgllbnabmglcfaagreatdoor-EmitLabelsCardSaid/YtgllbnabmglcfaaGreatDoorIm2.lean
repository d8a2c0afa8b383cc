/-
  The texts IM.R2, IM.R3, one behind another. No conditions.
-/
import Derived.Test.YtgllbnabmglcfaaGreatDoorIm1
set_option linter.unusedVariables false
set_option linter.unusedSimpArgs false
set_option linter.all false
namespace Go.Proofs.YtgllbnabmglcfaaGreatDoor
section
open Go Hk Go.Proofs.Wd
section
variable {p:IR}(hp:A_ p) (hl:∀b∈p.blocks,qZ b.term=uE b.term) (t:Int) {src:List Int}(hsrc:∀f∈src,0≤f)
include hp hl hsrc
open Classical in
end
end
section
open Go Hk Go.Proofs.Wd
section
variable {p:IR}(hp:A_ p) (hl:∀b∈p.blocks,qZ b.term=uE b.term)
include hp hl
open Classical in
open Classical in
open Classical in
end
end
end Go.Proofs.YtgllbnabmglcfaaGreatDoor
