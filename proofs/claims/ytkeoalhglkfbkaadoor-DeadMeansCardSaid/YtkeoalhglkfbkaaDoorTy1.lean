/-
  The texts TY.R24, TY.R28, TY.W18, one behind another. No conditions.
-/
import Derived.Test.YtkeoalhglkfbkaaDoorTyr1
import Derived.Test.YtkeoalhglkfbkaaDoorIx2
import Derived.Test.YtkeoalhglkfbkaaDoorIxa1
import Derived.Test.YtkeoalhglkfbkaaDoorIxu1
set_option linter.unusedVariables false
set_option linter.unusedSimpArgs false
set_option linter.unusedSectionVars false
set_option linter.all false

namespace Go.Proofs.YtkeoalhglkfbkaaDoor
open Go Hk
theorem C3 {p:IR}(h0:mN p=0) {i:Nat}{b:lR}(hb:p.blocks[i]?=some b):∀(post pre:List Op),b.ops=pre++post→∀t,pA post b.term (nN p.blocks b.term) t→0≤t∧t < p.temps:=by
 obtain⟨hp,_⟩:=qJ h0
 have hm:=List.mem_of_getElem? hb
 intro post
 induction post with
 | nil =>
  intro pre _ t ht
  rcases ht with ⟨h1,h2⟩ | ⟨j,_,h2⟩
  ·have:=hp.term b hm h1
   rw [h2] at this; exact this
  ·exact Bb hp h2
 | cons o r ih =>
  intro pre e t ht
  rw [rL] at ht
  rcases ht with h1 | ⟨h1,_⟩
  ·exact hp.use b hm o (by rw [e]; simp) t h1
  ·exact ih (pre++[o]) (by rw [e]; simp) t h1
theorem Lq {p:IR}(h0:mN p=0):∀b∈p.blocks,abN p.temps p.blocks.length b:=by
 obtain⟨r1,_,_⟩:=Hb h0
 intro b hb
 obtain⟨g1,g2,_⟩:=r1 b hb
 refine⟨fun o ho=>(g1 o ho).1,?_⟩
 rcases g2 with g2 | g2
 ·exact g2
 ·exact .inr (.inr g2)
theorem ajC {p:IR}{a a':List lR}(hs:Step a a') (h0:mN (wB p a)=0) {b b':lR}(hb:a[0]?=some b) (hb':a'[0]?=some b') {n:Nat}{s:Sx}(hl:(s.temps.length:Int)=p.temps) (hne:C8 uJ p.arrays a n b.term b.ops s≠.budget) :
  C8 uJ p.arrays a' n b'.term b'.ops s=C8 uJ p.arrays a n b.term b.ops s:=by
 obtain⟨i,b0,pre,o,post,h1,h2,h3,h4,rfl⟩:=hs
 have hi:i < a.length:=(List.getElem?_eq_some_iff.1 h1).1
 have hok:=Lq h0
 have hnn:=fun(i:Nat) (b:lR) (h:a[i]?=some b) (pre post:List Op) (e:b.ops=pre++post) (t:Int)=>C3 h0 (i:=i) (b:=b) h post pre e t
 by_cases h:i=0
 ·subst h
  rw [hb] at h1; cases h1
  rw [List.getElem?_set_self hi] at hb'
  cases hb'
  exact U5 GV hb h2 h3 h4 hok hnn n n 0 b [] b.ops (pre++post) s s (Nat.le_refl _) hb rfl (.inr ⟨rfl,pre,h2,rfl⟩) rfl hl rfl (fun _ _=>rfl) hne
 ·rw [List.getElem?_set_ne h,hb] at hb'
  cases hb'
  exact U5 GV h1 h2 h3 h4 hok hnn n n 0 b [] b.ops b.ops s s (Nat.le_refl _) hb rfl (.inl rfl) rfl hl rfl (fun _ _=>rfl) hne
theorem ajB {p:IR}{a q:List lR}(hs:vK a q):mN (wB p a)=0→∀{b b':lR},a[0]?=some b→q[0]?=some b'→∀{n:Nat}{s:Sx},(s.temps.length:Int)=p.temps→C8 uJ p.arrays a n b.term b.ops s≠.budget →
  C8 uJ p.arrays q n b'.term b'.ops s=C8 uJ p.arrays a n b.term b.ops s:=by
 induction hs with
 | refl a =>
  intro _ b b' hb hb' n s _ _
  rw [hb] at hb'; cases hb'; rfl
 | @head a c q st _ ih =>
  intro h0 b b' hb hb' n s hl hne
  have hsub:=Cg (.head st (.refl _))
  have hc0:mN (wB p c)=0:=x4 (p:=wB p a) hsub h0
  obtain⟨b1,hb1⟩:∃b1,c[0]?=some b1:=⟨_,List.getElem?_eq_getElem (by rw [←hsub.1]; exact(List.getElem?_eq_some_iff.1 hb).1)⟩
  have e:=ajC st h0 hb hb1 hl hne
  rw [←e]
  exact ih hc0 hb1 hb' hl (by rw [e]; exact hne)
theorem Zf {p:IR}{q:List lR}(h0:mN p=0) (hs:vK p.blocks q) (inp:List UInt8) (n:Int):mN (wB p q)=0∧((Dh p inp n).2=20∨Dh (wB p q) inp n=Dh p inp n):=by
 have hsub:=Cg hs
 have hq0:mN (wB p q)=0:=x4 hsub h0
 refine⟨hq0,?_⟩
 unfold Dh
 rw [if_pos h0,if_pos hq0]
 have e1:(wB p q).inn=p.inn:=rfl
 have e2:(wB p q).arrays=p.arrays:=rfl
 have e3:(wB p q).temps=p.temps:=rfl
 have e4:(wB p q).out=p.out:=rfl
 have e5:(wB p q).blocks=q:=rfl
 rw [e1,e2,e3,e4,e5]
 by_cases hc:(inp.length:Int)=p.inn∧mO n 0 67108864=true
 ·rw [if_pos hc,if_pos hc]
  have hR:=GR h0 hc.1
  cases hbl:p.blocks with
  | nil=>exact absurd hbl (n_ h0).2.2.1
  | cons b rb =>
   cases hq:q with
   | nil=>have:=hsub.1; rw [hbl,hq] at this; simp at this
   | cons b' rq =>
    simp only
    rw [←hbl,←hq]
    by_cases hne:C8 uJ p.arrays p.blocks n.toNat b.term b.ops ⟨List.replicate p.temps.toNat 0,qU p.arrays inp⟩=.budget
    ·rw [hne]; exact .inl rfl
    ·have:=ajB (p:=p) hs h0 (b:=b) (b':=b') (by rw [hbl]; rfl) (by rw [hq]; rfl) (n:=n.toNat) (s:=⟨List.replicate p.temps.toNat 0,qU p.arrays inp⟩) hR.temps hne
     rw [this]; exact .inr rfl
 ·rw [if_neg hc,if_neg hc]; exact .inr rfl
end Go.Proofs.YtkeoalhglkfbkaaDoor


namespace Go.Proofs.YtkeoalhglkfbkaaDoor
open Go Hk
theorem c18 (p:IR) (inp:List UInt8) (n:Int) (h:kU):KK 18 [.agg p.cells,.str inp,.int .i64 n] h=some (.ret (.bool true),h):=by
 refine mD rfl rfl (mR (apC _ _ _ _ _) ?_)
 have a0:mH 5 [] (.agg p.cells)=some (.ptr 0 0,[.cells p.cells]):=by simp [IR.cells]
 have l0:∀E,kW true 5 (.cells p.cells::E) (.ptr 0 0)=some (.agg p.cells):=by intro E; simp [IR.cells]
 have u0:(kS.agg p.cells).k8=.agg p.cells:=rfl
 obtain⟨b,g38⟩:=c38 p
 have g39:=c39
 have l00:=l0 []
 by_cases n0:n < 0
 ·simp -implicitDefEqProofs [m18,-lH,-lV,-mH,a0,n0,g39,lM]
 by_cases n1:3000 < n
 ·simp -implicitDefEqProofs [m18,-lH,-lV,-mH,a0,n0,n1,g39,lM]
 cases b with
 | false=>simp -implicitDefEqProofs [m18,-lH,-lV,-mH,a0,l00,u0,n0,n1,g38,g39,lM]
 | true =>
  have a1:mH 5 [.cells p.cells] (.agg [.int .i64 0,.slice [] .nil,.slice [] .nil,.int .i64 0,.int .i64 0])=some (.ptr 1 0,[.cells p.cells,.cells [.int .i64 0,.slice [] (.own 2),.slice [] (.own 3),.int .i64 0,.int .i64 0],.front 0 0,.front 0 0]):=by simp
  have ag12:kV 2 (.ptr 1 0)=some (.ptr 1 2):=rfl
  rcases c40 p with ⟨h0,g40⟩ | ⟨h0,q,hs,hn,g40⟩
  ·have g30:=c30 p
   have st:lT 5 [.cells p.cells,.cells [.int .i64 0,.slice [] (.own 2),.slice [] (.own 3),.int .i64 0,.int .i64 0],.front 0 0,.front 0 0] (.ptr 1 0) (.agg (IR.cells ⟨0,[],[],0,0⟩))=some [.cells p.cells,.cells (IR.cells ⟨0,[],[],0,0⟩),.front 0 0,.front 0 0]:=by simp [IR.cells]
   have l01:=l0 [.cells (IR.cells ⟨0,[],[],0,0⟩),.front 0 0,.front 0 0]
   have lq:kW false 1 [.cells p.cells,.cells (IR.cells ⟨0,[],[],0,0⟩),.front 0 0,.front 0 0] (.ptr 1 2)=some (.slice [] .no):=by simp [IR.cells]
   generalize ([.cells p.cells,.cells [.int .i64 0,.slice [] (.own 2),.slice [] (.own 3),.int .i64 0,.int .i64 0],.front 0 0,.front 0 0]:kU)=X1 at *
   generalize ([.cells p.cells,.cells (IR.cells ⟨0,[],[],0,0⟩),.front 0 0,.front 0 0]:kU)=X2 at *
   generalize mN p=e at *
   simp -implicitDefEqProofs [m18,-lH,-lV,-lY,-mH,a0,a1,n0,n1,l00,l01,lq,ag12,u0,g38,g39,g40,g30,st,h0,lZ,lM]
  ·obtain⟨h1,hrun⟩:=Zf h0 hs inp n
   have g30:=c30 (wB p q)
   rw [h1] at g30
   have g51:=c51 p inp n
   have g51':=c51 (wB p q) inp n
   have st:lT 5 [.cells p.cells,.cells [.int .i64 0,.slice [] (.own 2),.slice [] (.own 3),.int .i64 0,.int .i64 0],.front 0 0,.front 0 0] (.ptr 1 0) (.agg (wB p q).cells)=some [.cells p.cells,.cells (wB p q).cells,.front 0 0,.front 0 0]:=by simp [IR.cells]
   have l01:=l0 [.cells (wB p q).cells,.front 0 0,.front 0 0]
   have l1:kW true 5 [.cells p.cells,.cells (wB p q).cells,.front 0 0,.front 0 0] (.ptr 1 0)=some (.agg (wB p q).cells):=by simp [IR.cells]
   have u1:(kS.agg (wB p q).cells).k8=.agg (wB p q).cells:=rfl
   have us:∀s:List UInt8,(kS.str s).k8=.str s:=fun s=>rfl
   have ui:∀s:Int,(kS.int .i64 s).k8=.int .i64 s:=fun s=>rfl
   generalize (wB p q).cells=qc at *
   generalize ([.cells p.cells,.cells [.int .i64 0,.slice [] (.own 2),.slice [] (.own 3),.int .i64 0,.int .i64 0],.front 0 0,.front 0 0]:kU)=X1 at *
   generalize ([.cells p.cells,.cells qc,.front 0 0,.front 0 0]:kU)=X2 at *
   rcases hrun with hrun | hrun
   ·generalize Dh (wB p q) inp n=r2 at *
    generalize Dh p inp n=r1 at *
    simp -implicitDefEqProofs [m18,-lH,-lV,-lY,-mH,a0,a1,n0,n1,l00,l01,l1,u0,u1,us,ui,g38,g39,g40,g30,g51,g51',hrun,st,lZ,lM]
   ·rw [hrun] at g51'
    generalize Dh p inp n=r1 at *
    by_cases h20:r1.2=20 <;> simp -implicitDefEqProofs [m18,-lH,-lV,-lY,-mH,a0,a1,n0,n1,l00,l01,l1,u0,u1,us,ui,g38,g39,g40,g30,g51,g51',h20,st,lZ,lM]
end Go.Proofs.YtkeoalhglkfbkaaDoor


namespace Go.Proofs.YtkeoalhglkfbkaaDoor
open Go Hk
theorem axR (p:IR) (s:List UInt8) (n:Int) (_:s.length≤maxLen) (_:(Lit.int .i64 n).wf=true):Ji Tryd.prog nA 18 [.agg p.cells,.str s,.int .i64 n] []=some (.ret (.bool true),[]):=abJ rfl (c18 p s n [])
end Go.Proofs.YtkeoalhglkfbkaaDoor
