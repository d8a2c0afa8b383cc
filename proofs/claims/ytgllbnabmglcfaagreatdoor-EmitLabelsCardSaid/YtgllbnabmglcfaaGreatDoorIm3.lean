/-
  The texts IM.S1, IM.S2, IM.S3, IM.S4, IM.S5, one behind another. No conditions.
-/
import Derived.Test.YtgllbnabmglcfaaGreatDoorIm2
set_option linter.unusedVariables false
set_option linter.unusedSimpArgs false
set_option linter.all false
open List renaming mem_map → au6
open Nat renaming le_trans → ax9
namespace Go.Proofs.YtgllbnabmglcfaaGreatDoor
section
open Go Hk Go.Proofs.Wd

end
section
open Go Hk Go.Proofs.Wd
section
variable {b:mU}{L:List Int}{E:lT}
end
end
section
open Go Hk Go.Proofs.Wd

end
section
open Go Hk Go.Proofs.Wd
theorem C5 {n:Nat}{f:Nat→Bool}:(zs ((List.range n).filter f)).length≤n:=by
 rw [Ob]
 exact ax9 (List.length_filter_le _ _) (by simp)
theorem U_ (p:IR):(∀z∈Aa p,z.length≤2000000)∧(Aa p).length≤2000000:=by
 unfold Aa
 split
 ·rename_i h
  have lp:=(Ae h).1
  have h1:=lp.temps
  have h2:=lp.nb
  refine⟨fun z hz=>?_,by simp;omega⟩
  obtain⟨k,_,rfl⟩:=au6.1 hz
  exact ax9 C5 (by omega)
 ·simp
theorem Va (p:IR):(∀z∈Ab p,z.length≤2000000)∧(Ab p).length≤2000000:=by
 unfold Ab
 split
 ·rename_i h
  have lp:=(Ae h).1
  have h1:=lp.temps
  have h2:=lp.nb
  refine⟨fun z hz=>?_,by simp;omega⟩
  obtain⟨k,_,rfl⟩:=au6.1 hz
  exact ax9 C5 (by omega)
 ·simp
end
section
open Go Hk Go.Proofs.Wd
theorem ZT {n:Nat}{P:Nat→Prop} [DecidablePred P] {t:Int}:t∈zs ((List.range n).filter fun t=>decide (P t))↔0≤t∧t.toNat<n∧P t.toNat:=by
 unfold zs
 simp only [au6,List.mem_filter,List.mem_range,decide_eq_true_eq]
 constructor
 ·rintro⟨a,⟨h1,h2⟩,rfl⟩
  exact⟨by omega,by simpa using h1,by simpa using h2⟩
 ·rintro⟨h1,h2,h3⟩
  exact⟨t.toNat,⟨h2,h3⟩,by omega⟩
theorem AH {p:IR}{k:Nat}{t:Int}:t∈wN p k↔0≤t∧t<p.temps∧Reach p.blocks t k:=by
 classical
 unfold wN
 rw [ZT]
 constructor
 ·rintro⟨h1,h2,h3⟩
  rw [show((t.toNat:Nat):Int)=t by omega] at h3
  exact⟨h1,by omega,h3⟩
 ·rintro⟨h1,h2,h3⟩
  rw [show((t.toNat:Nat):Int)=t by omega]
  exact⟨h1,by omega,h3⟩
theorem uO {p:IR}{k:Nat}{b:mU}(hb:p.blocks[k]?=some b) {t:Int}:t∈sE p k↔0≤t∧t<p.temps∧EX p.blocks t b.term:=by
 classical
 unfold sE
 rw [ZT]
 constructor
 ·rintro⟨h1,h2,b',h3,h4⟩
  rw [hb] at h3;cases h3
  rw [show((t.toNat:Nat):Int)=t by omega] at h4
  exact⟨h1,by omega,h4⟩
 ·rintro⟨h1,h2,h3⟩
  refine⟨h1,by omega,b,hb,?_⟩
  rw [show((t.toNat:Nat):Int)=t by omega]
  exact h3
end
end Go.Proofs.YtgllbnabmglcfaaGreatDoor
