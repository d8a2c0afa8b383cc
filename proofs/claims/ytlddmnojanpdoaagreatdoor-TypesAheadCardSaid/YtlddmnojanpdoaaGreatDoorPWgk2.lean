/-
  The texts WG.KA, one behind another. No conditions.
-/
import Derived.Test.YtlddmnojanpdoaaGreatDoorPWgt2
import Derived.Test.YtlddmnojanpdoaaGreatDoorPWgb1
import Derived.Test.YtlddmnojanpdoaaGreatDoorPWgn1
set_option linter.unusedVariables false
set_option linter.unusedSimpArgs false
set_option linter.all false
namespace Go.Proofs.YtlddmnojanpdoaaGreatDoor
section
open Go Hk
theorem RN {l:List GF}(hw:J5 l≤4400000000) (h:l.all o0=true):∀g∈l,Tp g:=fun g hg=>by
 have h1:=IA hg
 have h2:=IB g.params
 have h3:=DQ g.body
 unfold wF at h1
 exact⟨List.all_eq_true.1 h g hg,by omega,by omega⟩
structure Yb (l:List GF):Prop where
 w:J5 l≤4400000000
 d:∀f∈l,FA f.body≤67
 a:l.all o0=true
 n:qJ (l.map vB)≤64
theorem yD (s:List UInt8):Yb (mP s):=by
 have h:=zU s
 have w:=Fb s
 exact⟨by have:=h.1; unfold mP; omega,fun f hf=>by have:=h.2 f hf; omega,w.1,w.2⟩
theorem Yb.O0 {l:List GF}(h:Yb l) (H:kP):KK 14 [.agg [.slice (l.map GF.cells) .no]] H=some (.ret (.tuple [.str (qE l).1,.int .i64 (qE l).2]),H):=by
 obtain⟨h1,h2,h3,h4⟩:=NZ h.w h.d
 exact c14 _ h1 h2 h3 h4 H
theorem Yb.len {l:List GF}(h:Yb l):l.length≤4400000000:=by have:=Iz l; have:=h.w; omega
theorem Yb.c20 {l:List GF}(h:Yb l) (H:kP):KK 20 [.agg [.slice (l.map GF.cells) .no]] H=some (.ret (.agg [.int .i64 (rD l).1,.int .i64 (rD l).2]),H) :=
 Go.Proofs.YtlddmnojanpdoaaGreatDoor.c20 h.O0 (fun _=>RN h.w h.a) (by have:=h.len; omega) H
theorem Yb.c22 {l:List GF}(h:Yb l) (H:kP):KK 22 [.agg [.slice (l.map GF.cells) .no]] H=some (.ret (.int .i64 (Bx l)),H) :=
 Go.Proofs.YtlddmnojanpdoaaGreatDoor.c22 h.O0 (fun _=>RN h.w h.a) (by have:=h.len; omega) H
end
end Go.Proofs.YtlddmnojanpdoaaGreatDoor
