/-
  The texts WG.KA, one behind another. No conditions.
-/
import Derived.Test.YtlddmnojanpdoaaGreatDoorPWgt1
import Derived.Test.YtlddmnojanpdoaaGreatDoorPWgb1
import Derived.Test.YtlddmnojanpdoaaGreatDoorPWgn1
set_option linter.unusedVariables false
set_option linter.unusedSimpArgs false
set_option linter.all false
open List renaming all_eq_true → ae8
namespace Go.Proofs.YtlddmnojanpdoaaGreatDoor
section
open Go Hk
mutual
theorem aG6:∀x:GS,wS x.op=wS x
 | .mk k p m name ty args body els has=>by simp only [GS.op,wS,SR body,SR els]
theorem SR:∀l:List GS,FZ (GS.ops l)=FZ l
 | []=>rfl
 | x::r=>by simp only [GS.ops,FZ,aG6 x,SR r]
end
mutual
theorem aEz:∀x:GS,dS x.op=dS x
 | .mk k p m name ty args body els has=>by simp only [GS.op,dS,Rg body,Rg els]
theorem Rg:∀l:List GS,Fw (GS.ops l)=Fw l
 | []=>rfl
 | x::r=>by simp only [GS.ops,Fw,aEz x,Rg r]
end
theorem ak4:∀l:List GP,VD (l.map GP.op)=VD l
 | []=>rfl
 | x::r=>by simp only [List.map_cons,VD,ak4 r]; rfl
theorem aG5 (f:GF):wF f.op=wF f:=by simp only [wF,GF.op,ak4,SR]
theorem ak2:∀l:List GF,J1 (l.map GF.op)=J1 l
 | []=>rfl
 | x::r=>by simp only [List.map_cons,J1,aG5,ak2 r]
theorem Rz {l:List GF}(hw:J1 l≤4400000000) (h:l.all o0=true):∀g∈l,Te g:=fun g hg=>by
 have h1:=Iw hg
 have h2:=Ix g.params
 have h3:=DM g.body
 unfold wF at h1
 exact⟨ae8.1 h g hg,by omega,by omega⟩
structure XW (l:List GF):Prop where
 w:J1 l≤4400000000
 d:∀f∈l,Fw f.body≤67
 a:l.all o0=true
 n:qJ (l.map vA)≤64
theorem XW.op {l:List GF}(h:XW l):XW (l.map GF.op):=by
 have h2:(l.map GF.op).map vA=l.map vA:=by
  rw [List.map_map]
  exact List.map_congr_left fun f _=>by show qJ (nX (GS.ops f.body))+1=_; rw [DG]; rfl
 refine⟨by rw [ak2]; exact h.w,fun f hf=>?_,?_,by rw [h2]; exact h.n⟩
 ·obtain⟨g,hg,rfl⟩:=List.mem_map.1 hf
  show Fw (GS.ops g.body)≤67
  rw [Rg]; exact h.d g hg
 ·rw [List.all_map,ae8]
  exact fun f hf=>VG (ae8.1 h.a f hf)
theorem yB (s:List UInt8):XW (mQ s):=by
 have h:=zR s
 have w:=E8 s
 exact⟨by have:=h.1; unfold mQ; omega,fun f hf=>by have:=h.2 f hf; omega,w.1,w.2⟩
theorem XW.OQ {l:List GF}(h:XW l) (H:kP):KK 14 [.agg [.slice (l.map GF.cells) .no]] H=some (.ret (.tuple [.str (qE l).1,.int .i64 (qE l).2]),H):=by
 obtain⟨h1,h2,h3,h4⟩:=NT h.w h.d
 exact c14 _ h1 h2 h3 h4 H
theorem XW.len {l:List GF}(h:XW l):l.length≤4400000000:=by have:=Iv l; have:=h.w; omega
theorem XW.c20 {l:List GF}(h:XW l) (H:kP):KK 20 [.agg [.slice (l.map GF.cells) .no]] H=some (.ret (.agg [.int .i64 (rD l).1,.int .i64 (rD l).2]),H) :=
 Go.Proofs.YtlddmnojanpdoaaGreatDoor.c20 h.OQ (fun _=>Rz h.w h.a) (by have:=h.len; omega) H
theorem XW.c22 {l:List GF}(h:XW l) (H:kP):KK 22 [.agg [.slice (l.map GF.cells) .no]] H=some (.ret (.int .i64 (Bt l)),H) :=
 Go.Proofs.YtlddmnojanpdoaaGreatDoor.c22 h.OQ (fun _=>Rz h.w h.a) (by have:=h.len; omega) H
theorem XW.c27 {l:List GF}(h:XW l) (H:kP):KK 27 [.agg [.slice (l.map GF.cells) .no]] H=some (.ret (.agg [.slice ((l.map GF.op).map GF.cells) .no]),H) :=
 Go.Proofs.YtlddmnojanpdoaaGreatDoor.c27 l h.len (fun f hf=>⟨(Rz h.w h.a f hf).2.1,(Rz h.w h.a f hf).2.2⟩) H
end
end Go.Proofs.YtlddmnojanpdoaaGreatDoor
