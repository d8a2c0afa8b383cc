/-
  The texts WG.S3, WG.S4, WG.T, WG.U, WG.V, WG.W, WG.X1, WG.X2, WG.X3, WG.X4, WG.Y, WG.Z, WG.ZA, WG.ZB, WG.ZC, WG.ZD, WG.BA, WG.CA, one behind another. No conditions.
-/
import Derived.Test.YtlddmnojanpdoaaGreatDoorWg1
import Derived.Test.YtlddmnojanpdoaaGreatDoorLg1
set_option linter.unusedVariables false
set_option linter.unusedSimpArgs false
set_option linter.all false
open Bool renaming and_eq_true → ad0, false_eq_true → ac1
open Int renaming natCast_add → ad5
open List renaming all_eq_true → af4, append_nil → am4, eq_nil_of_length_eq_zero → ag4, getElem?_eq_getElem → ab8, getElem?_eq_some_iff → aa8, getElem?_map → af6, length → aa7, length_append → aa6, length_cons → ab0, length_map → al2, length_nil → ab3, map_append → al9, map_cons → af7, map_nil → al1, mem_of_getElem? → ad2, nil_append → ah4
open Nat renaming add_mul → al4, le_refl → ac8, zero_add → al0, zero_le → al7
namespace Go.Proofs.YtlddmnojanpdoaaGreatDoor
section
open Go Hk
set_option maxHeartbeats 40000000 in
set_option maxRecDepth 100000 in
theorem ak0 (x:GS) (hk:x.kind=5) (hs:GE.oC x.args≤4611686018427387904) (hb:xU x.body) (he:xU x.els):EA x:=by
 intro h
 refine lB rfl x.shut (lA (Ae _ _ _) ?_)
 have e0:=agW
 have e1:=Za x.name
 have e2:=X6 x.qZ
 have e3:=ND x.args hs
 have e4:=UX x.ty
 have eb:=hb
 have ee:=he
 unfold xU at eb ee
 rw [q9]
 cases hN:lG x.name false
 ·
  simp -implicitDefEqProofs [oX,lF,mJ,e0,e1,e2,e3,e4,eb,ee,mA,hk,putCells,kK,lP,lJ,mI,oY,hN]
 ·
  cases hU:kZ x.qZ false
  ·
   simp -implicitDefEqProofs [oX,lF,mJ,e0,e1,e2,e3,e4,eb,ee,mA,hk,putCells,kK,lP,lJ,mI,oY,hN,hU]
  ·
   by_cases hL:x.args.length=1
   ·
    have hL':(x.args.length:Int)=1:=by omega
    cases hE:oB x.args
    ·
     simp -implicitDefEqProofs [oX,lF,mJ,e0,e1,e2,e3,e4,eb,ee,mA,hk,putCells,kK,lP,lJ,mI,oY,hN,hU,hL,hL',hE]
    ·
     have eq:=LU (t:=x.ty)
     by_cases hT:x.ty=GT.zero
     ·
      rw [decide_eq_true hT,hT] at eq
      cases hH:x.has
      ·
       by_cases hZ:x.els.length=0
       ·
        cases hP:pJ x.body
        ·
         simp -implicitDefEqProofs [oX,lF,mJ,e0,e1,e2,e3,e4,eb,ee,mA,hk,putCells,kK,lP,lJ,mI,oY,hN,hU,hL,hL',hE,eq,hT,hH,hZ,hP]
        ·
         simp -implicitDefEqProofs [oX,lF,mJ,e0,e1,e2,e3,e4,eb,ee,mA,hk,putCells,kK,lP,lJ,mI,oY,hN,hU,hL,hL',hE,eq,hT,hH,hZ,hP]
       ·
        have hZ':0 < x.els.length:=by omega
        simp -implicitDefEqProofs [oX,lF,mJ,e0,e1,e2,e3,e4,eb,ee,mA,hk,putCells,kK,lP,lJ,mI,oY,hN,hU,hL,hL',hE,eq,hT,hH,hZ,hZ']
      ·
       cases hP:pJ x.body
       ·
        simp -implicitDefEqProofs [oX,lF,mJ,e0,e1,e2,e3,e4,eb,ee,mA,hk,putCells,kK,lP,lJ,mI,oY,hN,hU,hL,hL',hE,eq,hT,hH,hP]
       ·
        simp -implicitDefEqProofs [oX,lF,mJ,e0,e1,e2,e3,e4,eb,ee,mA,hk,putCells,kK,lP,lJ,mI,oY,hN,hU,hL,hL',hE,eq,hT,hH,hP]
     ·
      rw [decide_eq_false hT] at eq
      simp -implicitDefEqProofs [oX,lF,mJ,e0,e1,e2,e3,e4,eb,ee,mA,hk,putCells,kK,lP,lJ,mI,oY,hN,hU,hL,hL',hE,eq,hT]
   ·
    have hL':¬(x.args.length:Int)=1:=by omega
    simp -implicitDefEqProofs [oX,lF,mJ,e0,e1,e2,e3,e4,eb,ee,mA,hk,putCells,kK,lP,lJ,mI,oY,hN,hU,hL,hL']
set_option maxHeartbeats 40000000 in
set_option maxRecDepth 100000 in
theorem ak1 (x:GS) (hk:x.kind=6) (hs:GE.oC x.args≤4611686018427387904) (hb:xU x.body) (he:xU x.els):EA x:=by
 intro h
 refine lB rfl x.shut (lA (Ae _ _ _) ?_)
 have e0:=agX
 have e1:=Za x.name
 have e2:=X6 x.qZ
 have e3:=ND x.args hs
 have e4:=UX x.ty
 have eb:=hb
 have ee:=he
 unfold xU at eb ee
 rw [q9]
 cases hN:lG x.name true
 ·
  simp -implicitDefEqProofs [oX,lF,mJ,e0,e1,e2,e3,e4,eb,ee,mA,hk,putCells,kK,lP,lJ,mI,oY,hN]
 ·
  cases hU:kZ x.qZ true
  ·
   simp -implicitDefEqProofs [oX,lF,mJ,e0,e1,e2,e3,e4,eb,ee,mA,hk,putCells,kK,lP,lJ,mI,oY,hN,hU]
  ·
   by_cases hL:x.args.length=1
   ·
    have hL':(x.args.length:Int)=1:=by omega
    cases hE:oB x.args
    ·
     simp -implicitDefEqProofs [oX,lF,mJ,e0,e1,e2,e3,e4,eb,ee,mA,hk,putCells,kK,lP,lJ,mI,oY,hN,hU,hL,hL',hE]
    ·
     have eq:=LU (t:=x.ty)
     by_cases hT:x.ty=GT.zero
     ·
      rw [decide_eq_true hT,hT] at eq
      cases hH:x.has
      ·
       by_cases hZ:x.els.length=0
       ·
        cases hP:pJ x.body
        ·
         simp -implicitDefEqProofs [oX,lF,mJ,e0,e1,e2,e3,e4,eb,ee,mA,hk,putCells,kK,lP,lJ,mI,oY,hN,hU,hL,hL',hE,eq,hT,hH,hZ,hP]
        ·
         simp -implicitDefEqProofs [oX,lF,mJ,e0,e1,e2,e3,e4,eb,ee,mA,hk,putCells,kK,lP,lJ,mI,oY,hN,hU,hL,hL',hE,eq,hT,hH,hZ,hP]
       ·
        have hZ':0 < x.els.length:=by omega
        simp -implicitDefEqProofs [oX,lF,mJ,e0,e1,e2,e3,e4,eb,ee,mA,hk,putCells,kK,lP,lJ,mI,oY,hN,hU,hL,hL',hE,eq,hT,hH,hZ,hZ']
      ·
       simp -implicitDefEqProofs [oX,lF,mJ,e0,e1,e2,e3,e4,eb,ee,mA,hk,putCells,kK,lP,lJ,mI,oY,hN,hU,hL,hL',hE,eq,hT,hH]
     ·
      rw [decide_eq_false hT] at eq
      simp -implicitDefEqProofs [oX,lF,mJ,e0,e1,e2,e3,e4,eb,ee,mA,hk,putCells,kK,lP,lJ,mI,oY,hN,hU,hL,hL',hE,eq,hT]
   ·
    have hL':¬(x.args.length:Int)=1:=by omega
    simp -implicitDefEqProofs [oX,lF,mJ,e0,e1,e2,e3,e4,eb,ee,mA,hk,putCells,kK,lP,lJ,mI,oY,hN,hU,hL,hL']
end
section
open Go Hk
set_option maxHeartbeats 40000000 in
set_option maxRecDepth 100000 in
theorem ak2 (x:GS) (hk:x.kind=7) (hs:GE.oC x.args≤4611686018427387904) (hb:xU x.body) (he:xU x.els):EA x:=by
 intro h
 refine lB rfl x.shut (lA (Ae _ _ _) ?_)
 have e0:=agY
 have e1:=Za x.name
 have e2:=X6 x.qZ
 have e3:=ND x.args hs
 have e4:=UX x.ty
 have eb:=hb
 have ee:=he
 unfold xU at eb ee
 rw [q9]
 cases hN:lG x.name false
 ·
  simp -implicitDefEqProofs [oX,lF,mJ,e0,e1,e2,e3,e4,eb,ee,mA,hk,putCells,kK,lP,lJ,mI,oY,hN]
 ·
  cases hU:kZ x.qZ false
  ·
   simp -implicitDefEqProofs [oX,lF,mJ,e0,e1,e2,e3,e4,eb,ee,mA,hk,putCells,kK,lP,lJ,mI,oY,hN,hU]
  ·
   by_cases hL:x.args.length=1
   ·
    have hL':(x.args.length:Int)=1:=by omega
    cases hE:oB x.args
    ·
     simp -implicitDefEqProofs [oX,lF,mJ,e0,e1,e2,e3,e4,eb,ee,mA,hk,putCells,kK,lP,lJ,mI,oY,hN,hU,hL,hL',hE]
    ·
     have eq:=LU (t:=x.ty)
     by_cases hT:x.ty=GT.zero
     ·
      rw [decide_eq_true hT,hT] at eq
      obtain⟨a,ha⟩:=AR hL
      have i0:=QN ha
      have hM:UZ x.args=(a.kind == 4):=by rw [ha]; rfl
      by_cases hA:a.kind=4
      ·
       by_cases hB:x.body.length=0
       ·
        cases hH:x.has
        ·
         by_cases hZ:x.els.length=0
         ·
          cases hP:pJ x.body
          ·
           simp -implicitDefEqProofs [oX,lF,mJ,e0,e1,e2,e3,e4,eb,ee,mA,hk,putCells,kK,lP,lJ,mI,oY,hN,hU,hL,hL',hE,eq,hT,i0,hM,hA,hB,hH,hZ,hP]
          ·
           simp -implicitDefEqProofs [oX,lF,mJ,e0,e1,e2,e3,e4,eb,ee,mA,hk,putCells,kK,lP,lJ,mI,oY,hN,hU,hL,hL',hE,eq,hT,i0,hM,hA,hB,hH,hZ,hP]
         ·
          have hZ':0 < x.els.length:=by omega
          simp -implicitDefEqProofs [oX,lF,mJ,e0,e1,e2,e3,e4,eb,ee,mA,hk,putCells,kK,lP,lJ,mI,oY,hN,hU,hL,hL',hE,eq,hT,i0,hM,hA,hB,hH,hZ,hZ']
        ·
         simp -implicitDefEqProofs [oX,lF,mJ,e0,e1,e2,e3,e4,eb,ee,mA,hk,putCells,kK,lP,lJ,mI,oY,hN,hU,hL,hL',hE,eq,hT,i0,hM,hA,hB,hH]
       ·
        have hB':0 < x.body.length:=by omega
        simp -implicitDefEqProofs [oX,lF,mJ,e0,e1,e2,e3,e4,eb,ee,mA,hk,putCells,kK,lP,lJ,mI,oY,hN,hU,hL,hL',hE,eq,hT,i0,hM,hA,hB,hB']
      ·
       simp -implicitDefEqProofs [oX,lF,mJ,e0,e1,e2,e3,e4,eb,ee,mA,hk,putCells,kK,lP,lJ,mI,oY,hN,hU,hL,hL',hE,eq,hT,i0,hM,hA]
     ·
      rw [decide_eq_false hT] at eq
      simp -implicitDefEqProofs [oX,lF,mJ,e0,e1,e2,e3,e4,eb,ee,mA,hk,putCells,kK,lP,lJ,mI,oY,hN,hU,hL,hL',hE,eq,hT]
   ·
    have hL':¬(x.args.length:Int)=1:=by omega
    simp -implicitDefEqProofs [oX,lF,mJ,e0,e1,e2,e3,e4,eb,ee,mA,hk,putCells,kK,lP,lJ,mI,oY,hN,hU,hL,hL']
set_option maxHeartbeats 40000000 in
set_option maxRecDepth 100000 in
theorem ak3 (x:GS) (hk:x.kind=8) (hs:GE.oC x.args≤4611686018427387904) (hb:xU x.body) (he:xU x.els):EA x:=by
 intro h
 refine lB rfl x.shut (lA (Ae _ _ _) ?_)
 have e0:=agZ
 have e1:=Za x.name
 have e2:=X6 x.qZ
 have e3:=ND x.args hs
 have e4:=UX x.ty
 have eb:=hb
 have ee:=he
 unfold xU at eb ee
 rw [q9]
 cases hN:lG x.name false
 ·
  simp -implicitDefEqProofs [oX,lF,mJ,e0,e1,e2,e3,e4,eb,ee,mA,hk,putCells,kK,lP,lJ,mI,oY,hN]
 ·
  cases hU:kZ x.qZ false
  ·
   simp -implicitDefEqProofs [oX,lF,mJ,e0,e1,e2,e3,e4,eb,ee,mA,hk,putCells,kK,lP,lJ,mI,oY,hN,hU]
  ·
   by_cases hL:x.args.length=1
   ·
    have hL':(x.args.length:Int)=1:=by omega
    cases hE:oB x.args
    ·
     simp -implicitDefEqProofs [oX,lF,mJ,e0,e1,e2,e3,e4,eb,ee,mA,hk,putCells,kK,lP,lJ,mI,oY,hN,hU,hL,hL',hE]
    ·
     have eq:=LU (t:=x.ty)
     by_cases hT:x.ty=GT.zero
     ·
      rw [decide_eq_true hT,hT] at eq
      by_cases hB:x.body.length=0
      ·
       cases hH:x.has
       ·
        by_cases hZ:x.els.length=0
        ·
         cases hP:pJ x.body
         ·
          simp -implicitDefEqProofs [oX,lF,mJ,e0,e1,e2,e3,e4,eb,ee,mA,hk,putCells,kK,lP,lJ,mI,oY,hN,hU,hL,hL',hE,eq,hT,hB,hH,hZ,hP]
         ·
          simp -implicitDefEqProofs [oX,lF,mJ,e0,e1,e2,e3,e4,eb,ee,mA,hk,putCells,kK,lP,lJ,mI,oY,hN,hU,hL,hL',hE,eq,hT,hB,hH,hZ,hP]
        ·
         have hZ':0 < x.els.length:=by omega
         simp -implicitDefEqProofs [oX,lF,mJ,e0,e1,e2,e3,e4,eb,ee,mA,hk,putCells,kK,lP,lJ,mI,oY,hN,hU,hL,hL',hE,eq,hT,hB,hH,hZ,hZ']
       ·
        simp -implicitDefEqProofs [oX,lF,mJ,e0,e1,e2,e3,e4,eb,ee,mA,hk,putCells,kK,lP,lJ,mI,oY,hN,hU,hL,hL',hE,eq,hT,hB,hH]
      ·
       have hB':0 < x.body.length:=by omega
       simp -implicitDefEqProofs [oX,lF,mJ,e0,e1,e2,e3,e4,eb,ee,mA,hk,putCells,kK,lP,lJ,mI,oY,hN,hU,hL,hL',hE,eq,hT,hB,hB']
     ·
      rw [decide_eq_false hT] at eq
      simp -implicitDefEqProofs [oX,lF,mJ,e0,e1,e2,e3,e4,eb,ee,mA,hk,putCells,kK,lP,lJ,mI,oY,hN,hU,hL,hL',hE,eq,hT]
   ·
    have hL':¬(x.args.length:Int)=1:=by omega
    simp -implicitDefEqProofs [oX,lF,mJ,e0,e1,e2,e3,e4,eb,ee,mA,hk,putCells,kK,lP,lJ,mI,oY,hN,hU,hL,hL']
end
section
open Go Hk
theorem Q0 {h:kL}:lO 11 h (.agg [.int .i64 0,.int .i64 0,.int .i64 0,.str [],.int .i64 0,.int .i64 0,.int .i64 0,.slice [] .nil,.slice [] .nil,.slice [] .nil,.bool false]) =
  some (.ptr h.length 0,h++[.cells [.int .i64 0,.int .i64 0,.int .i64 0,.str [],.int .i64 0,.int .i64 0,.int .i64 0,.slice [] (.own (h.length+1)),.slice [] (.own (h.length+2)),.slice [] (.own (h.length+3)),.bool false],.front 0 0,.front 0 0,.front 0 0]):=by
 simp [lO,lC]
theorem Rg {x:GS}{h:kL}{os:List kH}:o0 h os x.cells=x.cells:=qB (by cases x; simp [GS.cells,kH.isNil])
theorem Vt {l:List GS}{i:Nat}{x:GS}(h:l[i]?=some x):∀hh:i < l.length,l[i]'hh=x:=fun hh=>by rw [ab8 hh] at h; exact Option.some.inj h
theorem aeR {x:GS}{cs:List kH}(h:cs.length=11):putCells cs 0 x.cells=x.cells:=by simp [putCells,h]
theorem Vw {x:GS}:(∀c,c∈x.cells→c.lY=true)=True:=eq_true (by have:=x.NK; rwa [af4] at this)
theorem Wu (l:List GS) (hok:∀x∈l,EA x) (hl:l.length≤4611686018427387904) :
  (l.all tT=true→mL (Eh KK 0) ([.bool false,.slice (l.map GS.cells) .no,.int .i64 (l.length:Int),.int .i64 0],[]) =
   some (.exit 0,[.bool false,.slice (l.map GS.cells) .no,.int .i64 (l.length:Int),.int .i64 (l.length:Int)],[])) ∧
  (l.all tT=false→∃i:Nat,mL (Eh KK 0) ([.bool false,.slice (l.map GS.cells) .no,.int .i64 (l.length:Int),.int .i64 0],[]) =
   some (.ret,[.bool false,.slice (l.map GS.cells) .no,.int .i64 (l.length:Int),.int .i64 (i:Int)],[])):=by
 have main:=yC (F:=Eh KK 0) l tT (fun i=>([.bool false,.slice (l.map GS.cells) .no,.int .i64 (l.length:Int),.int .i64 (i:Int)],[]))
  (fun i=>(.ret,[.bool false,.slice (l.map GS.cells) .no,.int .i64 (l.length:Int),.int .i64 (i:Int)],[])) (.exit 0,[.bool false,.slice (l.map GS.cells) .no,.int .i64 (l.length:Int),.int .i64 (l.length:Int)],[]) ?_ ?_ (fun _=>by simp) ?_ (by simp)
 ·exact main
 ·intro i x hx hw
  have h:i < l.length:=(aa8.1 hx).1
  have w1:=qT (a:=i) (by omega)
  have hc:=hok x (ad2 hx)
  unfold EA at hc
  simp -implicitDefEqProofs [Eh,h,Vt hx,Q0,Rg,aeR,Vw,hc,hw,w1,mZ,-ad5]
 ·intro i x hx hw
  have h:i < l.length:=(aa8.1 hx).1
  have hc:=hok x (ad2 hx)
  unfold EA at hc
  simp -implicitDefEqProofs [Eh,h,Vt hx,Q0,Rg,aeR,Vw,hc,hw,mZ]
 ·simp -implicitDefEqProofs [Eh,mZ]
theorem c66 (l:List GS) (hok:∀x∈l,EA x) (hl:l.length≤4611686018427387904):xU l:=by
 intro h
 refine lB rfl (by simp [kH.nO,kH.pT,qO]) (lA (ajN _ _ _) ?_)
 obtain⟨h1,h2⟩:=Wu l hok hl
 rw [xS]
 cases hw:l.all tT with
 | true=>simp -implicitDefEqProofs [m66,h1 hw,kK]
 | false =>
  obtain⟨i,hi⟩:=h2 hw
  simp -implicitDefEqProofs [m66,hi,kK]
theorem y8 (l:List GS):l.length≤GS.oC l:=by
 induction l with
 | nil=>simp
 | cons y r ih=>cases y; simp only [GS.oC,GS.size,ab0]; omega
theorem GS.size_eq (x:GS):x.size=1+GE.oC x.args+GS.oC x.body+GS.oC x.els:=by cases x; simp only [GS.size]; rfl
set_option maxRecDepth 100000 in
theorem Sx (x:GS) (hk:¬(1≤x.kind∧x.kind≤8)):EA x:=by
 intro h
 refine lB rfl x.shut (lA (Ae _ _ _) ?_)
 have e0:=agR x.kind hk
 have hw:tT x=false:=by
  rw [q9]
  have:lP x.kind x.qZ x.name x.ty x.args x.body.length x.els.length x.has=false:=by
   cases hn:lP x.kind x.qZ x.name x.ty x.args x.body.length x.els.length x.has with
   | false=>rfl
   | true=>exact absurd (AD hn) hk
  rw [this]; rfl
 rw [hw]
 simp -implicitDefEqProofs [oX,lF,mJ,e0,mA,putCells,kK]
theorem avQ:∀(n:Nat) (x:GS),x.size≤n→n≤4611686018427387904→EA x:=by
 intro n
 induction n with
 | zero=>intro x hn; cases x; simp [GS.size] at hn
 | succ n ih =>
  intro x hn hb
  rw [GS.size_eq] at hn
  have h1:=y8 x.body
  have h2:=y8 x.els
  have hB:xU x.body:=c66 _ (fun y hy=>ih y (by have:=GS.qQ hy; omega) (by omega)) (by omega)
  have hE:xU x.els:=c66 _ (fun y hy=>ih y (by have:=GS.qQ hy; omega) (by omega)) (by omega)
  have ha:GE.oC x.args≤4611686018427387904:=by omega
  by_cases hk:1≤x.kind∧x.kind≤8
  ·rcases LM hk with h | h | h | h | h | h | h | h
   ·exact akW x h ha hB hE
   ·exact akX x h ha hB hE
   ·exact akY x h ha hB hE
   ·exact akZ x h ha hB hE
   ·exact ak0 x h ha hB hE
   ·exact ak1 x h ha hB hE
   ·exact ak2 x h ha hB hE
   ·exact ak3 x h ha hB hE
  ·exact Sx x hk
theorem awF (l:List GS) (hs:GS.oC l≤4611686018427387904):xU l:=c66 l (fun x hx=>avQ _ x (GS.qQ hx) hs) (by have:=y8 l; omega)
def GF.size (f:GF):Nat:=1+f.params.length+GS.oC f.body
theorem uN {x:GF}{h:kL}:lO 8 h (.agg x.cells)=some (.ptr h.length 0,h++[.cells x.cells]):=by
 simp [lO,x.tok,x.NK]
theorem LH {h:kL}:lO 6 h (.agg [.int .i64 0,.str [],.int .i64 0,.int .i64 0,.int .i64 0,.bool false])=some (.ptr h.length 0,h++[.cells [.int .i64 0,.str [],.int .i64 0,.int .i64 0,.int .i64 0,.bool false]]):=by
 simp [lO,lC]
theorem GF.shut (x:GF):([kH.agg x.cells].all (kH.nO 0))=true:=by simp [GF.cells,kH.nO,kH.pT,qO]
theorem Kg {l:List GP}{i:Nat}{x:GP}(h:l[i]?=some x):∀hh:i < l.length,l[i]'hh=x:=fun hh=>by rw [ab8 hh] at h; exact Option.some.inj h
theorem L9 {x:GP}{h:kL}{os:List kH}:o0 h os x.cells=x.cells:=qB (by simp [GP.cells,kH.isNil])
theorem akK {x:GP}{cs:List kH}(h:cs.length=6):putCells cs 0 x.cells=x.cells:=by simp [putCells,h]
theorem PE {x:GP}:(∀c,c∈x.cells→c.lY=true)=True:=eq_true (by have:=x.NK; rwa [af4] at this)
@[simp] theorem GP.aAn (x:GP):x.cells.take 6=x.cells:=rfl
theorem Qy {f:GF}{C:List lH}:l_ 1 (.cells f.cells::C)=some [.cells f.cells]:=by simp [l_,f.still]
theorem Wh (f:GF) (l:List GP) (hl:l.length≤4611686018427387904) :
  (l.all wL=true→mL (C3 KK 1) ([.ptr 0 0,.bool false,.slice (l.map GP.cells) .no,.int .i64 (l.length:Int),.int .i64 0],[.cells f.cells]) =
   some (.exit 0,[.ptr 0 0,.bool false,.slice (l.map GP.cells) .no,.int .i64 (l.length:Int),.int .i64 (l.length:Int)],[.cells f.cells])) ∧
  (l.all wL=false→∃i:Nat,mL (C3 KK 1) ([.ptr 0 0,.bool false,.slice (l.map GP.cells) .no,.int .i64 (l.length:Int),.int .i64 0],[.cells f.cells]) =
   some (.ret,[.ptr 0 0,.bool false,.slice (l.map GP.cells) .no,.int .i64 (l.length:Int),.int .i64 (i:Int)],[.cells f.cells])):=by
 have q0:∀h o,kH.mT 1 h (.ptr 0 o)=.ptr 0 o:=fun h o=>lD (by omega)
 have main:=yC (F:=C3 KK 1) l wL (fun i=>([.ptr 0 0,.bool false,.slice (l.map GP.cells) .no,.int .i64 (l.length:Int),.int .i64 (i:Int)],[.cells f.cells]))
  (fun i=>(.ret,[.ptr 0 0,.bool false,.slice (l.map GP.cells) .no,.int .i64 (l.length:Int),.int .i64 (i:Int)],[.cells f.cells])) (.exit 0,[.ptr 0 0,.bool false,.slice (l.map GP.cells) .no,.int .i64 (l.length:Int),.int .i64 (l.length:Int)],[.cells f.cells]) ?_ ?_ (fun _=>by simp) ?_ (by simp)
 ·exact main
 ·intro i x hx hw
  have h:i < l.length:=(aa8.1 hx).1
  have w1:=qT (a:=i) (by omega)
  have e1:=c65 x.name
  have e2:=UX x.ty
  simp only [wL,ad0] at hw
  simp -implicitDefEqProofs [C3,h,Kg hx,LH,L9,akK,PE,e1,e2,hw.1,hw.2,w1,kW,Qy,q0,-ad5]
 ·intro i x hx hw
  have h:i < l.length:=(aa8.1 hx).1
  have e1:=c65 x.name
  have e2:=UX x.ty
  simp only [wL] at hw
  cases hn:rP x.name with
  | false=>simp -implicitDefEqProofs [C3,h,Kg hx,LH,L9,akK,PE,e1,e2,hn,kW,Qy,q0]
  | true =>
   rw [hn,Bool.true_and] at hw
   simp -implicitDefEqProofs [C3,h,Kg hx,LH,L9,akK,PE,e1,e2,hn,hw,kW,Qy,q0]
 ·simp -implicitDefEqProofs [C3,kW,Qy,q0]
theorem c31 (f:GF) (hs:f.size≤4611686018427387904) (h:kL):KK 31 [.agg f.cells] h=some (.ret (.bool (q8 f)),h):=by
 refine lB rfl f.shut (lA (ai4 _ _ _) ?_)
 unfold GF.size at hs
 have e1:=c65 f.name
 have e2:=awF f.body (by omega)
 unfold xU at e2
 have e3:=UX f.result
 have eq:=LU (t:=f.result)
 obtain⟨h1,h2⟩:=Wh f f.params (by omega)
 have g0:∀h:4 < f.cells.length,f.cells[4]'h=.int .i64 f.result.elem:=fun _=>rfl
 have g1:∀h:5 < f.cells.length,f.cells[5]'h=.int .i64 f.result.len:=fun _=>rfl
 unfold q8
 cases hN:rP f.name with
 | false=>simp -implicitDefEqProofs [m31,uN,e1,hN,kK]
 | true =>
  cases hS:pJ f.body with
  | false=>simp -implicitDefEqProofs [m31,uN,e1,e2,hN,hS,kK]
  | true =>
   cases hP:f.params.all wL with
   | false =>
    obtain⟨i,hi⟩:=h2 hP
    simp -implicitDefEqProofs [m31,uN,e1,e2,hN,hS,hi,kK]
   | true =>
    have hi:=h1 hP
    cases hH:f.has with
    | false =>
     simp -implicitDefEqProofs [m31,uN,e1,e2,hN,hS,hi,hH,oY,eq,kK,mI]
    | true =>
     cases hT:tU f.result with
     | false=>simp -implicitDefEqProofs [m31,uN,e1,e2,e3,hN,hS,hi,hH,hT,kK]
     | true =>
      by_cases hL:f.result.len=0
      ·by_cases hE:f.result.elem=2
       ·simp -implicitDefEqProofs [m31,uN,e1,e2,e3,hN,hS,hi,hH,hT,hL,hE,g0,g1,kK]
       ·simp -implicitDefEqProofs [m31,uN,e1,e2,e3,hN,hS,hi,hH,hT,hL,hE,g0,g1,kK]
      ·simp -implicitDefEqProofs [m31,uN,e1,e2,e3,hN,hS,hi,hH,hT,hL,g0,g1,kK]
end
section
open Go Hk
def MF (x:GE):List UInt8×Int:=if nZ x then(if 64 < l9 x then([],11) else(lX x,0)) else([],2)
theorem c17 (x:GE) (hs:x.size≤4611686018427387904) (hb:nZ x=true→(lX x).length≤140737488355328) (hn:nZ x=true→l9 x≤1000000000000000) (h:kL) :
  KK 17 [.agg x.cells] h=some (.ret (.tuple [.str (MF x).1,.int .i64 (MF x).2]),h):=by
 refine lB rfl x.shut (lA (aiV _ _ _) ?_)
 have e1:=awD x hs
 have ldt:∀h,lS true 5 (.cells x.cells::h) (.ptr 0 0)=some (.agg x.cells):=fun h=>by simp [lS,Ac]
 unfold MF
 cases hw:nZ x with
 | false=>simp -implicitDefEqProofs [m17,lQ,ldt,e1,hw,kK]
 | true =>
  have hb:=hb hw
  have hn:=hn hw
  have e2:=XZ x hw (WS.new x.cells x.still) [] nL (by simpa using hb) (by simpa using hn)
  obtain⟨H,e3⟩:=c33 (w:=(WS.new x.cells x.still).st (lX x) (l9 x) 0) (B:=[]) nL
  rw [Ok] at e3
  have ldw:∀w:WS,w.a=x.cells→lS true 5 (WH w []) (.ptr 0 0)=some (.agg x.cells):=fun w hw=>by
   show lS true 5 (.cells w.a::_) (.ptr 0 0)=_
   rw [hw]; exact ldt _
  have l1:=ldw (WS.new x.cells x.still) rfl
  by_cases hd:64 < l9 x
  ·rw [decide_eq_true hd] at e3
   simp -implicitDefEqProofs at e3
   simp -implicitDefEqProofs [m17,lQ,ldt,e1,hw,abS,abT x.cells x.still,l1,e2,e3,hd,kK]
  ·rw [decide_eq_false hd] at e3
   simp -implicitDefEqProofs at e3
   simp -implicitDefEqProofs [m17,lQ,ldt,e1,hw,abS,abT x.cells x.still,l1,e2,e3,hd,kK]
def nX (l:List GF):List kH:=[.slice (l.map GF.cells) .no]
theorem wW (l:List GF) (m:Nat) (h:kL):mW m h (nX l)=some (nX l):=by simp [nX]
theorem QZ {h:kL}:lO 8 h (.agg [.int .i64 0,.str [],.slice [] .nil,.bool false,.int .i64 0,.int .i64 0,.int .i64 0,.slice [] .nil]) =
  some (.ptr h.length 0,h++[.cells [.int .i64 0,.str [],.slice [] (.own (h.length+1)),.bool false,.int .i64 0,.int .i64 0,.int .i64 0,.slice [] (.own (h.length+2))],.front 0 0,.front 0 0]):=by
 simp [lO,lC]
theorem SQ {l:List GF}{i:Nat}{x:GF}(h:l[i]?=some x):∀hh:i < l.length,l[i]'hh=x:=fun hh=>by rw [ab8 hh] at h; exact Option.some.inj h
theorem L8 {x:GF}{h:kL}{os:List kH}:o0 h os x.cells=x.cells:=qB (by simp [GF.cells,kH.isNil])
theorem akL {x:GF}{cs:List kH}(h:cs.length=8):putCells cs 0 x.cells=x.cells:=by simp [putCells,h]
theorem Vu {x:GF}:(∀c,c∈x.cells→c.lY=true)=True:=eq_true (by have:=x.NK; rwa [af4] at this)
@[simp] theorem GF.aAo (x:GF):x.cells.take 8=x.cells:=rfl
theorem trG {l:List GF}{C:List lH}:l_ 1 (.cells (nX l)::C)=some [.cells (nX l)]:=by simp [l_,wW]
theorem ah9 {x:GF}{h:kL}:lS true 8 h (.pptr x.cells)=some (.agg x.cells):=by simp [lS]
theorem Tj (l:List GF) (hs:∀f∈l,f.size≤4611686018427387904) (hl:l.length≤4611686018427387904) :
  (l.all q8=true→mL (Eb KK 1) ([.ptr 0 0,.str [],.int .i64 0,.slice (l.map GF.cells) .no,.int .i64 (l.length:Int),.int .i64 0],[.cells (nX l)]) =
   some (.exit 0,[.ptr 0 0,.str [],.int .i64 0,.slice (l.map GF.cells) .no,.int .i64 (l.length:Int),.int .i64 (l.length:Int)],[.cells (nX l)])) ∧
  (l.all q8=false→∃i:Nat,mL (Eb KK 1) ([.ptr 0 0,.str [],.int .i64 0,.slice (l.map GF.cells) .no,.int .i64 (l.length:Int),.int .i64 0],[.cells (nX l)]) =
   some (.ret,[.ptr 0 0,.str [],.int .i64 2,.slice (l.map GF.cells) .no,.int .i64 (l.length:Int),.int .i64 (i:Int)],[.cells (nX l)])):=by
 have q0:∀h o,kH.mT 1 h (.ptr 0 o)=.ptr 0 o:=fun h o=>lD (by omega)
 have main:=yC (F:=Eb KK 1) l q8 (fun i=>([.ptr 0 0,.str [],.int .i64 0,.slice (l.map GF.cells) .no,.int .i64 (l.length:Int),.int .i64 (i:Int)],[.cells (nX l)]))
  (fun i=>(.ret,[.ptr 0 0,.str [],.int .i64 2,.slice (l.map GF.cells) .no,.int .i64 (l.length:Int),.int .i64 (i:Int)],[.cells (nX l)])) (.exit 0,[.ptr 0 0,.str [],.int .i64 0,.slice (l.map GF.cells) .no,.int .i64 (l.length:Int),.int .i64 (l.length:Int)],[.cells (nX l)]) ?_ ?_ (fun _=>by simp) ?_ (by simp)
 ·exact main
 ·intro i x hx hw
  have h:i < l.length:=(aa8.1 hx).1
  have w1:=qT (a:=i) (by omega)
  have e1:=c31 x (hs x (ad2 hx))
  have st:∀cs C,aa7 cs=8→oZ 8 (.cells (nX l)::.cells cs::C) (.ptr 1 0) (.agg x.cells)=some (.cells (nX l)::.cells x.cells::C):=fun cs C hc=>by
   simp [oZ,Ac,L8,akL hc,Vu,hc]
  have ld:∀C,lS true 8 (.cells (nX l)::.cells x.cells::C) (.ptr 1 0)=some (.agg x.cells):=fun C=>by simp [lS,Ac]
  simp -implicitDefEqProofs [Eb,h,SQ hx,ah9,QZ,st,ld,e1,hw,w1,kW,trG,q0,-ad5]
 ·intro i x hx hw
  have h:i < l.length:=(aa8.1 hx).1
  have e1:=c31 x (hs x (ad2 hx))
  have st:∀cs C,aa7 cs=8→oZ 8 (.cells (nX l)::.cells cs::C) (.ptr 1 0) (.agg x.cells)=some (.cells (nX l)::.cells x.cells::C):=fun cs C hc=>by
   simp [oZ,Ac,L8,akL hc,Vu,hc]
  have ld:∀C,lS true 8 (.cells (nX l)::.cells x.cells::C) (.ptr 1 0)=some (.agg x.cells):=fun C=>by simp [lS,Ac]
  simp -implicitDefEqProofs [Eb,h,SQ hx,ah9,QZ,st,ld,e1,hw,kW,trG,q0]
 ·simp -implicitDefEqProofs [Eb,kW,trG,q0]
def tC (l:List GF) (i:Nat):List UInt8:=((l.take i).map wX).flatten
def sJ (l:List GF) (i:Nat):Nat:=qU ((l.take i).map yD)
theorem Jg {l:List GF}{i:Nat}{x:GF}(h:l[i]?=some x):tC l (i+1)=tC l i++wX x:=by simp [tC,rS h]
theorem Jf {l:List GF}{i:Nat}{x:GF}(h:l[i]?=some x):sJ l (i+1)=max (sJ l i) (yD x):=by simp [sJ,rS h,F3]
theorem Ow (l:List GF) (i:Nat):(tC l i).length≤(tC l l.length).length:=by
 have:tC l l.length=tC l i++((l.drop i).map wX).flatten:=by
  unfold tC
  rw [←List.flatten_append,←al9,List.take_append_drop,List.take_length]
 rw [this]; simp
theorem WY (l:List GF) (i:Nat):sJ l i≤sJ l l.length:=by
 have:sJ l l.length=qU ((l.take i).map yD++(l.drop i).map yD):=by
  unfold sJ
  rw [←al9,List.take_append_drop,List.take_length]
 rw [this]
 exact I_ _ _
def wD (w:WS) (l:List GF):Nat→WS
 | 0=>w
 | i+1=>w.st (tC l (i+1)) (sJ l (i+1)) 0
theorem af9 {w:WS}{B:List lH}:lO 8 (WH w B) (.agg [.int .i64 0,.str [],.slice [] .nil,.bool false,.int .i64 0,.int .i64 0,.int .i64 0,.slice [] .nil]) =
  some (.ptr (B.length+3) 0,WH w (B++[.cells [.int .i64 0,.str [],.slice [] (.own (B.length+4)),.bool false,.int .i64 0,.int .i64 0,.int .i64 0,.slice [] (.own (B.length+5))],.front 0 0,.front 0 0])):=by
 simp [lO,lC,mR,oH]
theorem stF {w:WS}{B C:List lH}{cs:List kH}{x:GF}(hc:cs.length=8):oZ 8 (WH w (B++.cells cs::C)) (.ptr (B.length+3) 0) (.agg x.cells)=some (WH w (B++.cells x.cells::C)):=by
 have e:=PD (w:=w) (B:=B) (C:=C) (cs:=cs)
 simp only [oZ,Ac,e,B1,nR,Option.bind_some,Dn,GF.p_,hc]
 rw [if_pos ⟨trivial,by omega,x.NK⟩,L8,akL hc,Xk]
theorem Tk {w:WS}(l:List GF) (hw:l.all q8=true) (h0:w.ln=0) (hl:l.length≤4611686018427387904) (hb:w.bs.length+(tC l l.length).length≤1099511627776) (hn:w.now+sJ l l.length≤1000000000000000):∀i,i≤l.length →
  mL (Mp KK 3) ([.str [],.int .i64 0,.ptr 1 0,.slice (l.map GF.cells) .no,.int .i64 (l.length:Int),.int .i64 (i:Int)],WH (wD w l i) []) =
   some (.exit 2,[.str [],.int .i64 0,.ptr 1 0,.slice (l.map GF.cells) .no,.int .i64 (l.length:Int),.int .i64 (l.length:Int)],WH (wD w l l.length) []):=by
 refine rU (fun i:Nat=>([.str [],.int .i64 0,.ptr 1 0,.slice (l.map GF.cells) .no,.int .i64 (l.length:Int),.int .i64 (i:Int)],WH (wD w l i) [])) (fun i=>i≤l.length) (fun i=>l.length - i) _ fun i hi=>?_
 have htr:=fun w C=>nM (w:=w) (B:=[]) (C:=C) nL
 simp only [ah4,ab3,al0] at htr
 have q0:∀h o,kH.mT 3 h (.ptr 1 o)=.ptr 1 o:=fun h o=>lD (by omega)
 by_cases h:i < l.length
 ·left
  refine⟨i+1,?_,h,by omega,rfl⟩
  obtain⟨x,hx⟩:∃x,l[i]?=some x:=⟨l[i],ab8 h⟩
  have w1:=qT (a:=i) (by omega)
  have t1:=Jg hx
  have t2:=Jf hx
  have t3:=Ow l (i+1)
  have t4:=WY l (i+1)
  rw [t1,aa6] at t3
  rw [t2] at t4
  have hx1:q8 x=true:=af4.1 hw x (ad2 hx)
  have s2:Still [.cells x.cells,.front 0 0,.front 0 0]:=Dc (mE (mE nL))
  have hz:=af9 (w:=wD w l i) (B:=[])
  have hst:=fun C cs (hc:aa7 cs=8)=>stF (w:=wD w l i) (B:=[]) (C:=C) (x:=x) hc
  have hld:=fun C=>aw3 (w:=wD w l i) (B:=[]) (C:=C) (cs:=x.cells) (n:=8) (i:=0)
  have hbs:(wD w l i).bs=w.bs++tC l i:=by cases i <;> simp [wD,tC]
  have hnow:(wD w l i).now=w.now:=by cases i <;> simp [wD]
  have hln:(wD w l i).ln=0:=by cases i <;> simp [wD,h0]
  have e1:=c32 (w:=wD w l i) x hx1 hln s2 (by rw [hbs,aa6]; omega) (by rw [hnow]; omega)
  have hres:(wD w l i).st (wX x) (yD x) 0=wD w l (i+1):=by
   cases i with
   | zero =>
    have a1:tC l 0=[]:=rfl
    have a2:sJ l 0=0:=rfl
    simp only [wD,t1,t2,a1,a2,ah4]
    exact WS.zZ rfl (by omega) rfl
   | succ j =>
    simp only [wD,WS.Xr,t1,t2]
    exact WS.zZ rfl (by simp) rfl
  rw [hres] at e1
  simp only [ah4,ab3,al0] at hz hst hld
  simp -implicitDefEqProofs [Mp,h,SQ hx,ah9,hz,hst,hld,e1,w1,kW,htr,q0,-ad5]
 ·right
  have:i=l.length:=by omega
  subst this
  have htr0:=fun w=>rI (w:=w) (B:=[]) nL
  simp only [ab3,al0] at htr0
  constructor
  ·simp -implicitDefEqProofs [Mp,kW,htr0,q0]
  ·simp
theorem c14 (l:List GF) (hs:∀f∈l,f.size≤4611686018427387904) (hl:l.length≤4611686018427387904) (hb:l.all q8=true→(tC l l.length).length≤1099511627776) (hn:l.all q8=true→sJ l l.length≤1000000000000000) (h:kL) :
  KK 14 [.agg (nX l)] h=some (.ret (.tuple [.str (y4 l).1,.int .i64 (y4 l).2]),h):=by
 refine lB rfl (by simp [nX,kH.nO,kH.pT,qO]) (lA (aiP _ _ _) ?_)
 have hnew:∀h,lO 1 h (.agg (nX l))=some (.ptr h.length 0,h++[.cells (nX l)]):=fun h=>by
  have:lC (h.length+1) (nX l)=(nX l,[]):=sS (by simp [nX,kH.isNil])
  simp [lO,this]; simp [nX,kH.lY]
 have ld:lS false 1 [.cells (nX l)] (.ptr 0 0)=some (.slice (l.map GF.cells) .no):=rfl
 obtain⟨h1,h2⟩:=Tj l hs hl
 unfold y4
 have ht:((l.map wX).flatten)=tC l l.length:=by simp [tC]
 have hnn:qU (l.map yD)=sJ l l.length:=by simp [sJ]
 rw [ht,hnn]
 cases hw:l.all q8 with
 | false =>
  obtain⟨i,hi⟩:=h2 hw
  simp -implicitDefEqProofs [m14,hnew,ld,hi,kK]
 | true =>
  have hi:=h1 hw
  have e1:=Tk (w:=WS.new (nX l) (wW l)) l hw rfl hl (by simpa using hb hw) (by simpa using hn hw) 0 (al7 _)
  obtain⟨H,e3⟩:=c33 (w:=wD (WS.new (nX l) (wW l)) l l.length) (B:=[]) nL
  have ld2:lS false 1 (WH (WS.new (nX l) (wW l)) []) (.ptr 0 0)=some (.slice (l.map GF.cells) .no):=rfl
  have hov:(wD (WS.new (nX l) (wW l)) l l.length).over=decide (64 < sJ l l.length):=by
   cases hll:l.length with
   | zero=>rfl
   | succ j=>simp only [wD]; exact Ok _ _ _ _ _
  have hbs:(wD (WS.new (nX l) (wW l)) l l.length).bs=tC l l.length:=by
   cases hll:l.length with
   | zero=>rfl
   | succ j=>simp [wD]
  have hp0:wD (WS.new (nX l) (wW l)) l 0=WS.new (nX l) (wW l):=rfl
  rw [hp0] at e1
  rw [hov,hbs] at e3
  simp only [Int.cast_ofNat_Int] at e1
  by_cases hd:64 < sJ l l.length
  ·rw [decide_eq_true hd] at e3
   simp -implicitDefEqProofs at e3
   simp -implicitDefEqProofs [m14,hnew,ld,hi,abS,abT (nX l) (wW l),ld2,mR,e1,e3,hd,kK]
  ·rw [decide_eq_false hd] at e3
   simp -implicitDefEqProofs at e3
   simp -implicitDefEqProofs [m14,hnew,ld,hi,abS,abT (nX l) (wW l),ld2,mR,e1,e3,hd,kK]
end
section
open Go Hk
theorem T8 (s:List UInt8) (h:kL):KK 39 [.str s] h=some (.ret (.bool (rP s)),h):=by
 refine lB rfl rfl (lA (ajA _ _ _) ?_)
 have hc:=c28 s
 obtain⟨⟨l,e,p⟩,hr⟩:∃r,oL s=r:=⟨_,rfl⟩
 rw [hr] at hc
 by_cases he:e=0
 ·subst he
  match l with
  | []=>simp -implicitDefEqProofs [m39,hc,lO,lC,putCells,kK,rP,hr]
  | [t]=>simp -implicitDefEqProofs [m39,hc,lO,lC,putCells,kK,rP,hr]
  | [t,u] =>
   have i0:k9 4 (.slice [t.cells,u.cells] .no) (.int .i64 0)=some (.pptr t.cells):=by rw [n_]; simp; rfl
   have tl:t.cells.length=4:=rfl
   have g0:∀h:0 < t.cells.length,t.cells[0]'h=.int .i64 (t.kind:Int):=fun _=>rfl
   have g3:∀h:3 < t.cells.length,t.cells[3]'h=.str t.text:=fun _=>rfl
   have hk:((t.kind:Int)=1)↔t.kind=1:=by omega
   by_cases h1:t.kind=1
   ·by_cases h2:t.text=s
    ·simp -implicitDefEqProofs [m39,hc,lO,lC,putCells,kK,rP,hr,i0,tl,g0,g3,h1,h2]
    ·simp -implicitDefEqProofs [m39,hc,lO,lC,putCells,kK,rP,hr,i0,tl,g0,g3,h1,h2]
   ·simp -implicitDefEqProofs [m39,hc,lO,lC,putCells,kK,rP,hr,i0,tl,g0,g3,hk,h1]
  | t::u::v::r =>
   have:¬((r.length:Int)+1+1+1=2):=by omega
   simp -implicitDefEqProofs [m39,hc,lO,lC,putCells,kK,rP,hr,this]
 ·have hf:rP s=false:=by
   unfold rP
   rw [hr]
   split
   ·rename_i h; simp only [Prod.mk.injEq] at h; omega
   ·rfl
  rw [hf]
  simp -implicitDefEqProofs [m39,hc,lO,lC,putCells,kK,he]
theorem X0 (n:Int) (h:kL):KK 40 [.int .i64 n] h=some (.ret (.bool (AT n)),h):=by
 refine lB rfl rfl (lA (ajB _ _ _) ?_)
 by_cases h0:0≤n
 ·by_cases h1:n < 4294967296
  ·have h2:n≤4294967295:=by omega
   simp -implicitDefEqProofs [m40,AT,kK,h0,h1,h2]
  ·have h2:¬n≤4294967295:=by omega
   simp -implicitDefEqProofs [m40,AT,kK,h0,h1,h2]
 ·simp -implicitDefEqProofs [m40,AT,kK,h0]
theorem c38 (k:Int) (h:kL):KK 38 [.int .i64 k] h=some (.ret (.int .i64 ((xH k).getD (-2))),h):=by
 refine lB rfl rfl (lA (ai9 _ _ _) ?_)
 by_cases hk:1≤k∧k≤26
 ·rcases x7 hk with rfl | rfl | rfl | rfl | rfl | rfl | rfl | rfl | rfl | rfl | rfl | rfl | rfl | rfl | rfl | rfl | rfl | rfl | rfl | rfl | rfl | rfl | rfl | rfl | rfl | rfl <;> rfl
 ·have h0:xH k=none:=by unfold xH; rw [if_pos (by omega)]
  rw [h0]
  by_cases h1:k < 1
  ·simp -implicitDefEqProofs [m38,h1,kK]
  ·have h2:26 < k:=by omega
   simp -implicitDefEqProofs [m38,h1,h2,kK]
def Nk (x:GE):Prop:=∀h,KK 18 [.agg x.cells] h=some (.ret (.bool (nZ x)),h)
theorem vN {x:GE}{C:List lH}:l_ 1 (.cells x.cells::C)=some [.cells x.cells]:=by simp [l_,x.still]
theorem Wc (x:GE) (hok:∀y∈x.args,Nk y) (hl:x.args.length≤4611686018427387904) :
  (x.args.all nZ=true→mL (Ed KK 1) ([.ptr 0 0,.bool false,.int .i64 0],[.cells x.cells])=some (.exit 2,[.ptr 0 0,.bool false,.int .i64 (x.args.length:Int)],[.cells x.cells])) ∧
  (x.args.all nZ=false→∃i:Nat,mL (Ed KK 1) ([.ptr 0 0,.bool false,.int .i64 0],[.cells x.cells])=some (.ret,[.ptr 0 0,.bool false,.int .i64 (i:Int)],[.cells x.cells])):=by
 have q0:∀h o,kH.mT 1 h (.ptr 0 o)=.ptr 0 o:=fun h o=>lD (by omega)
 have ldr:∀y:GE,∀h,kO true 5 h (.pptr y.cells)=some (.agg y.cells):=fun y h=>by simp
 have main:=yC (F:=Ed KK 1) x.args nZ (fun i=>([.ptr 0 0,.bool false,.int .i64 (i:Int)],[.cells x.cells]))
  (fun i=>(.ret,[.ptr 0 0,.bool false,.int .i64 (i:Int)],[.cells x.cells])) (.exit 2,[.ptr 0 0,.bool false,.int .i64 (x.args.length:Int)],[.cells x.cells]) ?_ ?_ (fun _=>by simp) ?_ (by simp)
 ·exact main
 ·intro i y hx hw
  have h:i < x.args.length:=(aa8.1 hx).1
  have w1:=qT (a:=i) (by omega)
  have hc:=hok y (ad2 hx)
  unfold Nk at hc
  simp -implicitDefEqProofs [Ed,h,NR hx,ldr,hc,hw,w1,kW,vN,q0,-ad5]
 ·intro i y hx hw
  have h:i < x.args.length:=(aa8.1 hx).1
  have hc:=hok y (ad2 hx)
  unfold Nk at hc
  simp -implicitDefEqProofs [Ed,h,NR hx,ldr,hc,hw,kW,vN,q0]
 ·simp -implicitDefEqProofs [Ed,kW,vN,q0]
set_option maxHeartbeats 40000000 in
set_option maxRecDepth 100000 in
theorem UU (x:GE) (hok:∀a∈x.args,Nk a) (hl:x.args.length≤4611686018427387904):Nk x:=by
 intro h
 refine lB rfl x.shut (lA (aiW _ _ _) ?_)
 have q0:∀h o,kH.mT 1 h (.ptr 0 o)=.ptr 0 o:=fun h o=>lD (by omega)
 have e1:=c38 x.kind
 have e2:=T8 x.name
 have e3:=X0 x.num
 obtain⟨l1,l2⟩:=Wc x hok hl
 have hw:nZ x=(zX x.kind x.num x.name x.args.length && oB x.args):=by cases x; rfl
 rw [hw]
 unfold zX
 rw [y9]
 cases ha:xH x.kind with
 | none =>
  rw [ha] at e1
  simp -implicitDefEqProofs [m18,lQ,e1,kK]
 | some m =>
  rw [ha] at e1
  have hk:1≤x.kind∧x.kind≤26:=by
   unfold xH at ha
   split at ha
   ·cases ha
   ·omega
  have hm:m=-1∧x.kind=4∨0≤m∧¬x.kind=4:=by
   clear e1 e2 e3 l1 l2 hw
   generalize x.kind=k at ha hk
   rcases x7 hk with rfl | rfl | rfl | rfl | rfl | rfl | rfl | rfl | rfl | rfl | rfl | rfl | rfl | rfl | rfl | rfl | rfl | rfl | rfl | rfl | rfl | rfl | rfl | rfl | rfl | rfl <;>
    simp [xH] at ha <;> omega
  have hm2:¬m=-2:=by omega
  simp only [Option.getD_some] at e1
  show _=some (nH.ret (kH.bool (((m == -1 || m == (x.args.length:Int)) && lG x.name (x.kind == 2 || x.kind == 3 || x.kind == 4) && kZ x.num (x.kind == 1 || x.kind == 14 || x.kind == 15 || x.kind == 16)) && x.args.all nZ)),[])
  by_cases har:(m == -1 || m == (x.args.length:Int))=true
  ·rw [har,Bool.true_and]
   have hc:¬0≤m∨(0≤m∧(m=(x.args.length:Int))):=by
    simp only [Bool.or_eq_true,beq_iff_eq] at har
    omega
   have cls:x.kind=1∨x.kind=2∨x.kind=3∨x.kind=4∨x.kind=14∨x.kind=15∨x.kind=16∨(¬x.kind=1∧¬x.kind=2∧¬x.kind=3∧¬x.kind=4∧¬x.kind=14∧¬x.kind=15∧¬x.kind=16):=by omega
   rcases cls with h' | h' | h' | h' | h' | h' | h' | ⟨n1,n2,n3,n4,n5,n6,n7⟩
   ·rw [h'] at e1
    have f1:(x.kind == 2 || x.kind == 3 || x.kind == 4)=false:=by simp [h']
    have f2:(x.kind == 1 || x.kind == 14 || x.kind == 15 || x.kind == 16)=true:=by simp [h']
    rw [f1,f2]
    by_cases hN:x.name=[]
    ·
     cases hU:AT x.num
     ·
      rcases hc with hc | ⟨hc,hc'⟩
      ·simp -implicitDefEqProofs [m18,lQ,e1,e2,e3,hm2,kW,vN,q0,kK,hc,hN,lG,hU,kZ,h']
      ·simp -implicitDefEqProofs [m18,lQ,e1,e2,e3,hm2,kW,vN,q0,kK,hc,hc',hN,lG,hU,kZ,h']
     ·cases hE:x.args.all nZ
      ·obtain⟨i,hi⟩:=l2 hE
       rcases hc with hc | ⟨hc,hc'⟩
       ·simp -implicitDefEqProofs [m18,lQ,e1,e2,e3,hm2,kW,vN,q0,kK,hc,hN,lG,hU,kZ,hi,h']
       ·simp -implicitDefEqProofs [m18,lQ,e1,e2,e3,hm2,kW,vN,q0,kK,hc,hc',hN,lG,hU,kZ,hi,h']
      ·have hi:=l1 hE
       rcases hc with hc | ⟨hc,hc'⟩
       ·simp -implicitDefEqProofs [m18,lQ,e1,e2,e3,hm2,kW,vN,q0,kK,hc,hN,lG,hU,kZ,hi,h']
       ·simp -implicitDefEqProofs [m18,lQ,e1,e2,e3,hm2,kW,vN,q0,kK,hc,hc',hN,lG,hU,kZ,hi,h']
    ·
     rcases hc with hc | ⟨hc,hc'⟩
     ·simp -implicitDefEqProofs [m18,lQ,e1,e2,e3,hm2,kW,vN,q0,kK,hc,hN,lG,h']
     ·simp -implicitDefEqProofs [m18,lQ,e1,e2,e3,hm2,kW,vN,q0,kK,hc,hc',hN,lG,h']
   ·rw [h'] at e1
    have f1:(x.kind == 2 || x.kind == 3 || x.kind == 4)=true:=by simp [h']
    have f2:(x.kind == 1 || x.kind == 14 || x.kind == 15 || x.kind == 16)=false:=by simp [h']
    rw [f1,f2]
    cases hN:rP x.name
    ·
     rcases hc with hc | ⟨hc,hc'⟩
     ·simp -implicitDefEqProofs [m18,lQ,e1,e2,e3,hm2,kW,vN,q0,kK,hc,hN,lG,h']
     ·simp -implicitDefEqProofs [m18,lQ,e1,e2,e3,hm2,kW,vN,q0,kK,hc,hc',hN,lG,h']
    ·
     by_cases hU:x.num=0
     ·cases hE:x.args.all nZ
      ·obtain⟨i,hi⟩:=l2 hE
       rcases hc with hc | ⟨hc,hc'⟩
       ·simp -implicitDefEqProofs [m18,lQ,e1,e2,e3,hm2,kW,vN,q0,kK,hc,hN,lG,hU,kZ,hi,h']
       ·simp -implicitDefEqProofs [m18,lQ,e1,e2,e3,hm2,kW,vN,q0,kK,hc,hc',hN,lG,hU,kZ,hi,h']
      ·have hi:=l1 hE
       rcases hc with hc | ⟨hc,hc'⟩
       ·simp -implicitDefEqProofs [m18,lQ,e1,e2,e3,hm2,kW,vN,q0,kK,hc,hN,lG,hU,kZ,hi,h']
       ·simp -implicitDefEqProofs [m18,lQ,e1,e2,e3,hm2,kW,vN,q0,kK,hc,hc',hN,lG,hU,kZ,hi,h']
     ·
      rcases hc with hc | ⟨hc,hc'⟩
      ·simp -implicitDefEqProofs [m18,lQ,e1,e2,e3,hm2,kW,vN,q0,kK,hc,hN,lG,hU,kZ,h']
      ·simp -implicitDefEqProofs [m18,lQ,e1,e2,e3,hm2,kW,vN,q0,kK,hc,hc',hN,lG,hU,kZ,h']
   ·rw [h'] at e1
    have f1:(x.kind == 2 || x.kind == 3 || x.kind == 4)=true:=by simp [h']
    have f2:(x.kind == 1 || x.kind == 14 || x.kind == 15 || x.kind == 16)=false:=by simp [h']
    rw [f1,f2]
    cases hN:rP x.name
    ·
     rcases hc with hc | ⟨hc,hc'⟩
     ·simp -implicitDefEqProofs [m18,lQ,e1,e2,e3,hm2,kW,vN,q0,kK,hc,hN,lG,h']
     ·simp -implicitDefEqProofs [m18,lQ,e1,e2,e3,hm2,kW,vN,q0,kK,hc,hc',hN,lG,h']
    ·
     by_cases hU:x.num=0
     ·cases hE:x.args.all nZ
      ·obtain⟨i,hi⟩:=l2 hE
       rcases hc with hc | ⟨hc,hc'⟩
       ·simp -implicitDefEqProofs [m18,lQ,e1,e2,e3,hm2,kW,vN,q0,kK,hc,hN,lG,hU,kZ,hi,h']
       ·simp -implicitDefEqProofs [m18,lQ,e1,e2,e3,hm2,kW,vN,q0,kK,hc,hc',hN,lG,hU,kZ,hi,h']
      ·have hi:=l1 hE
       rcases hc with hc | ⟨hc,hc'⟩
       ·simp -implicitDefEqProofs [m18,lQ,e1,e2,e3,hm2,kW,vN,q0,kK,hc,hN,lG,hU,kZ,hi,h']
       ·simp -implicitDefEqProofs [m18,lQ,e1,e2,e3,hm2,kW,vN,q0,kK,hc,hc',hN,lG,hU,kZ,hi,h']
     ·
      rcases hc with hc | ⟨hc,hc'⟩
      ·simp -implicitDefEqProofs [m18,lQ,e1,e2,e3,hm2,kW,vN,q0,kK,hc,hN,lG,hU,kZ,h']
      ·simp -implicitDefEqProofs [m18,lQ,e1,e2,e3,hm2,kW,vN,q0,kK,hc,hc',hN,lG,hU,kZ,h']
   ·rw [h'] at e1
    have f1:(x.kind == 2 || x.kind == 3 || x.kind == 4)=true:=by simp [h']
    have f2:(x.kind == 1 || x.kind == 14 || x.kind == 15 || x.kind == 16)=false:=by simp [h']
    rw [f1,f2]
    cases hN:rP x.name
    ·
     rcases hc with hc | ⟨hc,hc'⟩
     ·simp -implicitDefEqProofs [m18,lQ,e1,e2,e3,hm2,kW,vN,q0,kK,hc,hN,lG,h']
     ·simp -implicitDefEqProofs [m18,lQ,e1,e2,e3,hm2,kW,vN,q0,kK,hc,hc',hN,lG,h']
    ·
     by_cases hU:x.num=0
     ·cases hE:x.args.all nZ
      ·obtain⟨i,hi⟩:=l2 hE
       rcases hc with hc | ⟨hc,hc'⟩
       ·simp -implicitDefEqProofs [m18,lQ,e1,e2,e3,hm2,kW,vN,q0,kK,hc,hN,lG,hU,kZ,hi,h']
       ·simp -implicitDefEqProofs [m18,lQ,e1,e2,e3,hm2,kW,vN,q0,kK,hc,hc',hN,lG,hU,kZ,hi,h']
      ·have hi:=l1 hE
       rcases hc with hc | ⟨hc,hc'⟩
       ·simp -implicitDefEqProofs [m18,lQ,e1,e2,e3,hm2,kW,vN,q0,kK,hc,hN,lG,hU,kZ,hi,h']
       ·simp -implicitDefEqProofs [m18,lQ,e1,e2,e3,hm2,kW,vN,q0,kK,hc,hc',hN,lG,hU,kZ,hi,h']
     ·
      rcases hc with hc | ⟨hc,hc'⟩
      ·simp -implicitDefEqProofs [m18,lQ,e1,e2,e3,hm2,kW,vN,q0,kK,hc,hN,lG,hU,kZ,h']
      ·simp -implicitDefEqProofs [m18,lQ,e1,e2,e3,hm2,kW,vN,q0,kK,hc,hc',hN,lG,hU,kZ,h']
   ·rw [h'] at e1
    have f1:(x.kind == 2 || x.kind == 3 || x.kind == 4)=false:=by simp [h']
    have f2:(x.kind == 1 || x.kind == 14 || x.kind == 15 || x.kind == 16)=true:=by simp [h']
    rw [f1,f2]
    by_cases hN:x.name=[]
    ·
     cases hU:AT x.num
     ·
      rcases hc with hc | ⟨hc,hc'⟩
      ·simp -implicitDefEqProofs [m18,lQ,e1,e2,e3,hm2,kW,vN,q0,kK,hc,hN,lG,hU,kZ,h']
      ·simp -implicitDefEqProofs [m18,lQ,e1,e2,e3,hm2,kW,vN,q0,kK,hc,hc',hN,lG,hU,kZ,h']
     ·cases hE:x.args.all nZ
      ·obtain⟨i,hi⟩:=l2 hE
       rcases hc with hc | ⟨hc,hc'⟩
       ·simp -implicitDefEqProofs [m18,lQ,e1,e2,e3,hm2,kW,vN,q0,kK,hc,hN,lG,hU,kZ,hi,h']
       ·simp -implicitDefEqProofs [m18,lQ,e1,e2,e3,hm2,kW,vN,q0,kK,hc,hc',hN,lG,hU,kZ,hi,h']
      ·have hi:=l1 hE
       rcases hc with hc | ⟨hc,hc'⟩
       ·simp -implicitDefEqProofs [m18,lQ,e1,e2,e3,hm2,kW,vN,q0,kK,hc,hN,lG,hU,kZ,hi,h']
       ·simp -implicitDefEqProofs [m18,lQ,e1,e2,e3,hm2,kW,vN,q0,kK,hc,hc',hN,lG,hU,kZ,hi,h']
    ·
     rcases hc with hc | ⟨hc,hc'⟩
     ·simp -implicitDefEqProofs [m18,lQ,e1,e2,e3,hm2,kW,vN,q0,kK,hc,hN,lG,h']
     ·simp -implicitDefEqProofs [m18,lQ,e1,e2,e3,hm2,kW,vN,q0,kK,hc,hc',hN,lG,h']
   ·rw [h'] at e1
    have f1:(x.kind == 2 || x.kind == 3 || x.kind == 4)=false:=by simp [h']
    have f2:(x.kind == 1 || x.kind == 14 || x.kind == 15 || x.kind == 16)=true:=by simp [h']
    rw [f1,f2]
    by_cases hN:x.name=[]
    ·
     cases hU:AT x.num
     ·
      rcases hc with hc | ⟨hc,hc'⟩
      ·simp -implicitDefEqProofs [m18,lQ,e1,e2,e3,hm2,kW,vN,q0,kK,hc,hN,lG,hU,kZ,h']
      ·simp -implicitDefEqProofs [m18,lQ,e1,e2,e3,hm2,kW,vN,q0,kK,hc,hc',hN,lG,hU,kZ,h']
     ·cases hE:x.args.all nZ
      ·obtain⟨i,hi⟩:=l2 hE
       rcases hc with hc | ⟨hc,hc'⟩
       ·simp -implicitDefEqProofs [m18,lQ,e1,e2,e3,hm2,kW,vN,q0,kK,hc,hN,lG,hU,kZ,hi,h']
       ·simp -implicitDefEqProofs [m18,lQ,e1,e2,e3,hm2,kW,vN,q0,kK,hc,hc',hN,lG,hU,kZ,hi,h']
      ·have hi:=l1 hE
       rcases hc with hc | ⟨hc,hc'⟩
       ·simp -implicitDefEqProofs [m18,lQ,e1,e2,e3,hm2,kW,vN,q0,kK,hc,hN,lG,hU,kZ,hi,h']
       ·simp -implicitDefEqProofs [m18,lQ,e1,e2,e3,hm2,kW,vN,q0,kK,hc,hc',hN,lG,hU,kZ,hi,h']
    ·
     rcases hc with hc | ⟨hc,hc'⟩
     ·simp -implicitDefEqProofs [m18,lQ,e1,e2,e3,hm2,kW,vN,q0,kK,hc,hN,lG,h']
     ·simp -implicitDefEqProofs [m18,lQ,e1,e2,e3,hm2,kW,vN,q0,kK,hc,hc',hN,lG,h']
   ·rw [h'] at e1
    have f1:(x.kind == 2 || x.kind == 3 || x.kind == 4)=false:=by simp [h']
    have f2:(x.kind == 1 || x.kind == 14 || x.kind == 15 || x.kind == 16)=true:=by simp [h']
    rw [f1,f2]
    by_cases hN:x.name=[]
    ·
     cases hU:AT x.num
     ·
      rcases hc with hc | ⟨hc,hc'⟩
      ·simp -implicitDefEqProofs [m18,lQ,e1,e2,e3,hm2,kW,vN,q0,kK,hc,hN,lG,hU,kZ,h']
      ·simp -implicitDefEqProofs [m18,lQ,e1,e2,e3,hm2,kW,vN,q0,kK,hc,hc',hN,lG,hU,kZ,h']
     ·cases hE:x.args.all nZ
      ·obtain⟨i,hi⟩:=l2 hE
       rcases hc with hc | ⟨hc,hc'⟩
       ·simp -implicitDefEqProofs [m18,lQ,e1,e2,e3,hm2,kW,vN,q0,kK,hc,hN,lG,hU,kZ,hi,h']
       ·simp -implicitDefEqProofs [m18,lQ,e1,e2,e3,hm2,kW,vN,q0,kK,hc,hc',hN,lG,hU,kZ,hi,h']
      ·have hi:=l1 hE
       rcases hc with hc | ⟨hc,hc'⟩
       ·simp -implicitDefEqProofs [m18,lQ,e1,e2,e3,hm2,kW,vN,q0,kK,hc,hN,lG,hU,kZ,hi,h']
       ·simp -implicitDefEqProofs [m18,lQ,e1,e2,e3,hm2,kW,vN,q0,kK,hc,hc',hN,lG,hU,kZ,hi,h']
    ·
     rcases hc with hc | ⟨hc,hc'⟩
     ·simp -implicitDefEqProofs [m18,lQ,e1,e2,e3,hm2,kW,vN,q0,kK,hc,hN,lG,h']
     ·simp -implicitDefEqProofs [m18,lQ,e1,e2,e3,hm2,kW,vN,q0,kK,hc,hc',hN,lG,h']
   ·skip
    have f1:(x.kind == 2 || x.kind == 3 || x.kind == 4)=false:=by simp [n1,n2,n3,n4,n5,n6,n7]
    have f2:(x.kind == 1 || x.kind == 14 || x.kind == 15 || x.kind == 16)=false:=by simp [n1,n2,n3,n4,n5,n6,n7]
    rw [f1,f2]
    by_cases hN:x.name=[]
    ·
     by_cases hU:x.num=0
     ·cases hE:x.args.all nZ
      ·obtain⟨i,hi⟩:=l2 hE
       rcases hc with hc | ⟨hc,hc'⟩
       ·simp -implicitDefEqProofs [m18,lQ,e1,e2,e3,hm2,kW,vN,q0,kK,hc,hN,lG,hU,kZ,hi,n1,n2,n3,n4,n5,n6,n7]
       ·simp -implicitDefEqProofs [m18,lQ,e1,e2,e3,hm2,kW,vN,q0,kK,hc,hc',hN,lG,hU,kZ,hi,n1,n2,n3,n4,n5,n6,n7]
      ·have hi:=l1 hE
       rcases hc with hc | ⟨hc,hc'⟩
       ·simp -implicitDefEqProofs [m18,lQ,e1,e2,e3,hm2,kW,vN,q0,kK,hc,hN,lG,hU,kZ,hi,n1,n2,n3,n4,n5,n6,n7]
       ·simp -implicitDefEqProofs [m18,lQ,e1,e2,e3,hm2,kW,vN,q0,kK,hc,hc',hN,lG,hU,kZ,hi,n1,n2,n3,n4,n5,n6,n7]
     ·
      rcases hc with hc | ⟨hc,hc'⟩
      ·simp -implicitDefEqProofs [m18,lQ,e1,e2,e3,hm2,kW,vN,q0,kK,hc,hN,lG,hU,kZ,n1,n2,n3,n4,n5,n6,n7]
      ·simp -implicitDefEqProofs [m18,lQ,e1,e2,e3,hm2,kW,vN,q0,kK,hc,hc',hN,lG,hU,kZ,n1,n2,n3,n4,n5,n6,n7]
    ·
     rcases hc with hc | ⟨hc,hc'⟩
     ·simp -implicitDefEqProofs [m18,lQ,e1,e2,e3,hm2,kW,vN,q0,kK,hc,hN,lG,n1,n2,n3,n4,n5,n6,n7]
     ·simp -implicitDefEqProofs [m18,lQ,e1,e2,e3,hm2,kW,vN,q0,kK,hc,hc',hN,lG,n1,n2,n3,n4,n5,n6,n7]
  ·have hf:(m == -1 || m == (x.args.length:Int))=false:=by simpa using har
   rw [hf]
   simp only [Bool.or_eq_false_iff,beq_eq_false_iff_ne] at hf
   have h0:0≤m:=by omega
   have h1:¬m=(x.args.length:Int):=hf.2
   simp -implicitDefEqProofs [m18,lQ,e1,hm2,kK,h0,h1]
theorem c18:∀(n:Nat) (x:GE),x.size≤n→n≤4611686018427387904→Nk x:=by
 intro n
 induction n with
 | zero=>intro x hn; cases x; simp [GE.size] at hn
 | succ n ih =>
  intro x hn hb
  have hs:x.size=1+GE.oC x.args:=by cases x; simp only [GE.size]; rfl
  have:=Gf x.args
  exact UU x (fun a ha=>ih a (by have:=GE.qQ ha; omega) (by omega)) (by omega)
theorem av9 (x:GE) (hs:x.size≤4611686018427387904) (h:kL):KK 18 [.agg x.cells] h=some (.ret (.bool (nZ x)),h):=c18 _ x (ac8 _) hs h
end
section
open Go Hk

end
section
open Go Hk

end
section
open Go Hk

end
section
open Go Hk

end
section
open Go Hk

end
section
open Go Hk
theorem QX {s t:List UInt8}(h:s.length+t.length≤4611686018427387904):kR .add (.str s) (.str t)=some (.str (s++t)):=by simp [h]
theorem T9 (k:Int) (hk:1≤k∧k≤26) (h:kL):KK 41 [.int .i64 k] h=some (.ret (.int .i64 (lI k:Int)),h):=by
 refine lB rfl rfl (lA (ajC _ _ _) ?_)
 rcases x7 hk with rfl | rfl | rfl | rfl | rfl | rfl | rfl | rfl | rfl | rfl | rfl | rfl | rfl | rfl | rfl | rfl | rfl | rfl | rfl | rfl | rfl | rfl | rfl | rfl | rfl | rfl <;> rfl
theorem c43 (k:Int) (hk:1≤k∧k≤26) (h:kL):KK 43 [.int .i64 k] h=some (.ret (.str (pU k)),h):=by
 refine lB rfl rfl (lA (ajE _ _ _) ?_)
 rcases x7 hk with rfl | rfl | rfl | rfl | rfl | rfl | rfl | rfl | rfl | rfl | rfl | rfl | rfl | rfl | rfl | rfl | rfl | rfl | rfl | rfl | rfl | rfl | rfl | rfl | rfl | rfl <;> rfl
theorem c44 (n:Int) (hn:0≤n∧n≤4294967295) (h:kL):KK 44 [.int .i64 n] h=some (.ret (.str (uC n)),h):=by
 refine lB rfl rfl (lA (ajF _ _ _) ?_)
 obtain⟨m,rfl⟩:=Int.eq_ofNat_of_zero_le hn.1
 have e:=c90 ⟨2,0,m,[]⟩ (by simp only; omega)
 have hc:Token.cells ⟨2,0,m,[]⟩=[.int .i64 2,.int .i64 0,.int .i64 (m:Int),.str []]:=rfl
 have hw:written ⟨2,0,m,[]⟩=uC (m:Int):=rfl
 rw [hc,hw] at e
 have hab:lR [.int .i64 0,.int .i64 0,.int .i64 0,.str []] [(0,1),(1,1),(2,1),(3,1)] [(0,.int .i64 2),(2,.int .i64 (m:Int))]=some (.agg [.int .i64 2,.int .i64 0,.int .i64 (m:Int),.str []]):=rfl
 simp -implicitDefEqProofs [m44,hab,e,kK]
end
section
open Go Hk
def Bi (x:GE):Prop:=∀h,KK 19 [.agg x.cells] h=some (.ret (.tuple [.str (lX x),.int .i64 (l9 x:Int)]),h)
theorem B9 {cs:List kH}:o8 [.cells cs] 0=[.gone]:=rfl
theorem Cn {cs:List kH}:mU [.cells cs] [.gone] 0=[.cells cs]:=rfl
theorem Vr (x:GE) (b:Bool):([kH.agg x.cells,.bool b].all (kH.nO 0))=true:=by cases x; simp [GE.cells,kH.nO,kH.pT,qO]
theorem c42 {x:GE}(hx:Bi x) (b:Bool) (hb:(lX x).length≤1125899906842624) (hn:l9 x≤1125899906842624) (h:kL) :
  KK 42 [.agg x.cells,.bool b] h=some (.ret (.tuple [.str (tB b (lU x)),.int .i64 (tA b (lU x):Int)]),h):=by
 refine lB rfl (Vr x b) (lA (ajD _ _ _ _) ?_)
 have e1:=hx
 unfold Bi at e1
 have ht:(lU x).2.1=lX x:=rfl
 have hn':(lU x).2.2=l9 x:=rfl
 have w1:=qT (a:=l9 x) (by omega)
 cases b
 ·simp -implicitDefEqProofs (disch:=first | omega | (simp only [aa6,ab0,ab3] <;> omega) | skip) [-KE,QX,m42,lQ,e1,w1,tB,tA,ht,hn',kK,-ad5]
 ·simp -implicitDefEqProofs [m42,lQ,e1,tB,tA,ht,hn',kK]
theorem ldG {x:GE}{h:kL}:kO true 5 h (.pptr x.cells)=some (.agg x.cells):=by simp
theorem arK {x a b:GE}(hx:x.args=[a,b]) (hk:1≤x.kind∧x.kind≤26) (ht:lI x.kind < 8) (ha:Bi a) (hb:Bi b) (hka:1≤a.kind∧a.kind≤26) (hkb:1≤b.kind∧b.kind≤26)
  (hbd:(lX x).length≤1125899906842624) (hn:l9 x≤1125899906842624):Bi x:=by
 intro h
 refine lB rfl x.shut (lA (C0 _ _ _) ?_)
 have t1:lX x=tB (mO (lI x.kind) (lU a).1) (lU a)++32::(pU x.kind++32::tB (decide (lI x.kind < lI (lU b).1)) (lU b)):=by
  rw [rG,hx]; unfold Cy; rw [if_pos ht]; rfl
 have t2:l9 x=max (tA (mO (lI x.kind) (lU a).1) (lU a)) (tA (decide (lI x.kind < lI (lU b).1)) (lU b)):=by
  rw [rF,hx]; unfold Cw; rw [if_pos ht]; rfl
 rw [t1] at hbd
 rw [t2] at hn
 simp only [aa6,ab0] at hbd
 have lp:∀b (x:GE),(lX x).length≤(tB b (lU x)).length∧l9 x≤tA b (lU x):=fun b x=>by
  cases b
  ·exact⟨by simp only [tB,ac1,if_false,ab0,aa6]; show(lX x).length≤(lX x).length+_+1; omega,by simp only [tA,ac1,if_false]; show l9 x≤l9 x+1; omega⟩
  ·exact⟨ac8 _,ac8 _⟩
 have la:=lp (mO (lI x.kind) (lU a).1) a
 have lb:=lp (decide (lI x.kind < lI (lU b).1)) b
 have c1:=c42 ha (mO (lI x.kind) (lU a).1) (by omega) (by omega)
 have c2:=c42 hb (decide (lI x.kind < lI (lU b).1)) (by omega) (by omega)
 rw [t1,t2]
 simp only [y3] at c1 c2 hbd hn ⊢
 have o1:=T9 x.kind hk
 have o2:=T9 a.kind hka
 have o3:=T9 b.kind hkb
 have o4:=c43 x.kind hk
 generalize tB (mO (lI x.kind) a.kind) (lU a)=A at hbd c1 ⊢
 generalize tB (decide (lI x.kind < lI b.kind)) (lU b)=D at hbd c2 ⊢
 generalize tA (mO (lI x.kind) a.kind) (lU a)=na at hn c1 ⊢
 generalize tA (decide (lI x.kind < lI b.kind)) (lU b)=nb at hn c2 ⊢
 have i0:k9 5 (.slice (x.args.map GE.cells) .no) (.int .i64 0)=some (.pptr a.cells):=by rw [hx]; exact ZH
 have i1:k9 5 (.slice (x.args.map GE.cells) .no) (.int .i64 1)=some (.pptr b.cells):=by rw [hx]; exact ix1
 have hl:x.args.length=2:=by rw [hx]; rfl
 have ht':(lI x.kind:Int) < 8:=by omega
 have mx:(max (na:Int) (nb:Int))=((max na nb:Nat):Int):=by omega
 have hR:((lI b.kind:Int) > (lI x.kind:Int))↔lI x.kind < lI b.kind:=by omega
 have s1:A.length+[(32:UInt8)].length≤4611686018427387904:=by simp only [ab0,ab3]; omega
 have s2:(A++[32]).length+(pU x.kind).length≤4611686018427387904:=by simp only [aa6,ab0,ab3]; omega
 have s3:(A++32::pU x.kind).length+[(32:UInt8)].length≤4611686018427387904:=by simp only [aa6,ab0,ab3]; omega
 have s4:(A++32::(pU x.kind++[32])).length+D.length≤4611686018427387904:=by simp only [aa6,ab0,ab3]; omega
 simp -implicitDefEqProofs at s1 s2 s3 s4
 by_cases h1:lI x.kind < lI a.kind
 ·have hlb:mO (lI x.kind) a.kind=true:=by unfold mO; exact decide_eq_true (.inl h1)
  rw [hlb] at c1
  simp -implicitDefEqProofs [m19,lQ,o1,o2,o3,o4,ht',h1,i0,i1,hl,c1,c2,k_,nB,lM,oR,B9,Cn,mx,kK,s1,s2,s3,s4,-ad5]
 ·by_cases h2:lI a.kind=lI x.kind
  ·have h2':(lI a.kind:Int)=(lI x.kind:Int):=by omega
   by_cases h3:1 < lI x.kind
   ·have hlb:mO (lI x.kind) a.kind=true:=by unfold mO; exact decide_eq_true (.inr ⟨h2,h3⟩)
    have h3':(1:Int) < (lI x.kind:Int):=by omega
    rw [hlb] at c1
    simp -implicitDefEqProofs [m19,lQ,o1,o2,o3,o4,ht',h1,h2,h2',h3,h3',i0,i1,hl,c1,c2,k_,nB,lM,oR,B9,Cn,mx,kK,s1,s2,s3,s4,-ad5]
   ·have hlb:mO (lI x.kind) a.kind=false:=by unfold mO; exact decide_eq_false (by omega)
    have h3':¬(1:Int) < (lI x.kind:Int):=by omega
    rw [hlb] at c1
    simp -implicitDefEqProofs [m19,lQ,o1,o2,o3,o4,ht',h1,h2,h2',h3,h3',i0,i1,hl,c1,c2,k_,nB,lM,oR,B9,Cn,mx,kK,s1,s2,s3,s4,-ad5]
  ·have hlb:mO (lI x.kind) a.kind=false:=by unfold mO; exact decide_eq_false (by omega)
   have h2':¬(lI a.kind:Int)=(lI x.kind:Int):=by omega
   rw [hlb] at c1
   simp -implicitDefEqProofs [m19,lQ,o1,o2,o3,o4,ht',h1,h2,h2',i0,i1,hl,c1,c2,k_,nB,lM,oR,B9,Cn,mx,kK,s1,s2,s3,s4,-ad5]
theorem K0 (b:Bool) (x:GE):(lX x).length≤(tB b (lU x)).length∧l9 x≤tA b (lU x):=by
 cases b
 ·exact⟨by simp only [tB,ac1,if_false,ab0,aa6]; show(lX x).length≤(lX x).length+_+1; omega,by simp only [tA,ac1,if_false]; show l9 x≤l9 x+1; omega⟩
 ·exact⟨ac8 _,ac8 _⟩
theorem RN {x a:GE}(hx:x.args=[a]) (hk:1≤x.kind∧x.kind≤26) (ht:lI x.kind < 8) (ht1:1 < lI x.kind) (ha:Bi a) (hka:1≤a.kind∧a.kind≤26) (hnum:0≤x.num∧x.num≤4294967295)
  (hbd:(lX x).length≤1125899906842624) (hn:l9 x≤1125899906842624):Bi x:=by
 intro h
 refine lB rfl x.shut (lA (C0 _ _ _) ?_)
 have t1:lX x=tB (mO (lI x.kind) (lU a).1) (lU a)++32::(pU x.kind++32::uC x.num):=by
  rw [rG,hx]; unfold Cy; rw [if_pos ht]; rfl
 have t2:l9 x=tA (mO (lI x.kind) (lU a).1) (lU a):=by
  rw [rF,hx]; unfold Cw; rw [if_pos ht]; rfl
 rw [t1] at hbd
 rw [t2] at hn
 simp only [aa6,ab0] at hbd
 have la:=K0 (mO (lI x.kind) (lU a).1) a
 have c1:=c42 ha (mO (lI x.kind) (lU a).1) (by omega) (by omega)
 rw [t1,t2]
 simp only [y3] at c1 hbd hn ⊢
 have o1:=T9 x.kind hk
 have o2:=T9 a.kind hka
 have o4:=c43 x.kind hk
 have o5:=c44 x.num hnum
 generalize tB (mO (lI x.kind) a.kind) (lU a)=A at hbd c1 ⊢
 generalize tA (mO (lI x.kind) a.kind) (lU a)=na at hn c1 ⊢
 have i0:k9 5 (.slice (x.args.map GE.cells) .no) (.int .i64 0)=some (.pptr a.cells):=by rw [hx]; exact ZH
 have hl:x.args.length=1:=by rw [hx]; rfl
 have ht':(lI x.kind:Int) < 8:=by omega
 have h3':(1:Int) < (lI x.kind:Int):=by omega
 have s1:A.length+[(32:UInt8)].length≤4611686018427387904:=by simp only [ab0,ab3]; omega
 have s2:(A++[32]).length+(pU x.kind).length≤4611686018427387904:=by simp only [aa6,ab0,ab3]; omega
 have s3:(A++32::pU x.kind).length+[(32:UInt8)].length≤4611686018427387904:=by simp only [aa6,ab0,ab3]; omega
 have s4:(A++32::(pU x.kind++[32])).length+(uC x.num).length≤4611686018427387904:=by simp only [aa6,ab0,ab3]; omega
 simp -implicitDefEqProofs at s1 s2 s3 s4
 by_cases h1:lI x.kind < lI a.kind
 ·have hlb:mO (lI x.kind) a.kind=true:=by unfold mO; exact decide_eq_true (.inl h1)
  rw [hlb] at c1
  simp -implicitDefEqProofs [m19,lQ,o1,o2,o4,o5,ht',h1,i0,hl,c1,k_,nB,lM,oR,B9,Cn,kK,s1,s2,s3,s4,-ad5]
 ·by_cases h2:lI a.kind=lI x.kind
  ·have h2':(lI a.kind:Int)=(lI x.kind:Int):=by omega
   have hlb:mO (lI x.kind) a.kind=true:=by unfold mO; exact decide_eq_true (.inr ⟨h2,ht1⟩)
   rw [hlb] at c1
   simp -implicitDefEqProofs [m19,lQ,o1,o2,o4,o5,ht',h1,h2,h2',ht1,h3',i0,hl,c1,k_,nB,lM,oR,B9,Cn,kK,s1,s2,s3,s4,-ad5]
  ·have hlb:mO (lI x.kind) a.kind=false:=by unfold mO; exact decide_eq_false (by omega)
   have h2':¬(lI a.kind:Int)=(lI x.kind:Int):=by omega
   rw [hlb] at c1
   simp -implicitDefEqProofs [m19,lQ,o1,o2,o4,o5,ht',h1,h2,h2',i0,hl,c1,k_,nB,lM,oR,B9,Cn,kK,s1,s2,s3,s4,-ad5]
theorem arI {x:GE}(hk:x.kind=1) (hnum:0≤x.num∧x.num≤4294967295):Bi x:=by
 intro h
 refine lB rfl x.shut (lA (C0 _ _ _) ?_)
 have t1:lX x=uC x.num:=by rw [rG,hk]; rfl
 have t2:l9 x=0:=by rw [rF,hk]; rfl
 rw [t1,t2]
 have o1:=T9 x.kind (by omega)
 rw [hk] at o1
 have hz:¬((lI 1:Nat):Int) < 8:=by decide
 have o5:=c44 x.num hnum
 simp -implicitDefEqProofs [m19,lQ,hk,o1,hz,o5,kK]
theorem akS {x:GE}(hk:x.kind=2):Bi x:=by
 intro h
 refine lB rfl x.shut (lA (C0 _ _ _) ?_)
 have t1:lX x=x.name:=by rw [rG,hk]; rfl
 have t2:l9 x=0:=by rw [rF,hk]; rfl
 rw [t1,t2]
 have o1:=T9 x.kind (by omega)
 rw [hk] at o1
 have hz:¬((lI 2:Nat):Int) < 8:=by decide
 simp -implicitDefEqProofs [m19,lQ,hk,o1,hz,kK]
theorem ab7 {x a:GE}(hk:x.kind=3) (hx:x.args=[a]) (ha:Bi a) (hbd:(lX x).length≤1125899906842624) (hn:l9 x≤1125899906842624):Bi x:=by
 intro h
 refine lB rfl x.shut (lA (C0 _ _ _) ?_)
 have t1:lX x=x.name++91::(lX a++[93]):=by rw [rG,hk,hx]; rfl
 have t2:l9 x=l9 a+1:=by rw [rF,hk,hx]; rfl
 rw [t1] at hbd
 rw [t2] at hn
 rw [t1,t2]
 simp only [aa6,ab0,ab3] at hbd
 have o1:=T9 x.kind (by omega)
 rw [hk] at o1
 have hz:¬((lI 3:Nat):Int) < 8:=by decide
 have i0:k9 5 (.slice (x.args.map GE.cells) .no) (.int .i64 0)=some (.pptr a.cells):=by rw [hx]; exact ZH
 have ha':=ha
 unfold Bi at ha'
 have w1:=qT (a:=l9 a) (by omega)
 have s1:x.name.length+[(91:UInt8)].length≤4611686018427387904:=by simp only [ab0,ab3]; omega
 have s2:(x.name++[91]).length+(lX a).length≤4611686018427387904:=by simp only [aa6,ab0,ab3]; omega
 have s3:(x.name++91::lX a).length+[(93:UInt8)].length≤4611686018427387904:=by simp only [aa6,ab0,ab3]; omega
 simp -implicitDefEqProofs at s1 s2 s3
 simp -implicitDefEqProofs [m19,lQ,hk,o1,hz,i0,ha',w1,s1,s2,s3,kK,-ad5]
theorem MI {x a:GE}(hk:x.kind=5∨x.kind=6∨x.kind=7) (hx:x.args=[a]) (ha:Bi a) (hka:1≤a.kind∧a.kind≤26) (hbd:(lX x).length≤1125899906842624) (hn:l9 x≤1125899906842624):Bi x:=by
 intro h
 refine lB rfl x.shut (lA (C0 _ _ _) ?_)
 have t1:lX x=pU x.kind++tB (decide (lI (lU a).1=8)) (lU a):=by
  rw [rG,hx]
  rcases hk with h | h | h <;> rw [h] <;> rfl
 have t2:l9 x=tA (decide (lI (lU a).1=8)) (lU a)+1:=by
  rw [rF,hx]
  rcases hk with h | h | h <;> rw [h] <;> rfl
 rw [t1] at hbd
 rw [t2] at hn
 rw [t1,t2]
 simp only [aa6] at hbd
 have la:=K0 (decide (lI (lU a).1=8)) a
 have c1:=c42 ha (decide (lI (lU a).1=8)) (by omega) (by omega)
 simp only [y3] at c1 hbd hn ⊢
 have o1:=T9 x.kind (by omega)
 have o2:=T9 a.kind hka
 have o4:=c43 x.kind (by omega)
 have hd:decide ((lI a.kind:Int)=8)=decide (lI a.kind=8):=decide_eq_decide.2 (by omega)
 generalize tB (decide (lI a.kind=8)) (lU a)=A at hbd c1 ⊢
 generalize tA (decide (lI a.kind=8)) (lU a)=na at hn c1 ⊢
 have w1:=qT (a:=na) (by omega)
 have i0:k9 5 (.slice (x.args.map GE.cells) .no) (.int .i64 0)=some (.pptr a.cells):=by rw [hx]; exact ZH
 have q0:∀h o,kH.mT 1 h (.ptr 0 o)=.ptr 0 o:=fun h o=>lD (by omega)
 rcases hk with h' | h' | h' <;> rw [h'] at o1 o4 hbd ⊢
 ·have hz:¬((lI 5:Nat):Int) < 8:=by decide
  have s1:(pU 5).length+A.length≤4611686018427387904:=by omega
  simp -implicitDefEqProofs [m19,lQ,h',o1,o2,o4,hz,hd,i0,c1,w1,s1,k_,nB,lM,oR,B9,Cn,kW,vN,q0,kK,-ad5]
 ·have hz:¬((lI 6:Nat):Int) < 8:=by decide
  have s1:(pU 6).length+A.length≤4611686018427387904:=by omega
  simp -implicitDefEqProofs [m19,lQ,h',o1,o2,o4,hz,hd,i0,c1,w1,s1,k_,nB,lM,oR,B9,Cn,kW,vN,q0,kK,-ad5]
 ·have hz:¬((lI 7:Nat):Int) < 8:=by decide
  have s1:(pU 7).length+A.length≤4611686018427387904:=by omega
  simp -implicitDefEqProofs [m19,lQ,h',o1,o2,o4,hz,hd,i0,c1,w1,s1,k_,nB,lM,oR,B9,Cn,kW,vN,q0,kK,-ad5]
end
section
open Go Hk
theorem Oi (x:GE) (hok:∀y∈x.args,Bi y) (W:List UInt8) (hb:W.length+(uF (x.args.map lU)).length≤1125899906842624) (hn:vJ (x.args.map lU)≤1125899906842624):∀i,i≤x.args.length →
  mL (I2 KK 1) ([.ptr 0 0,.str [],.int .i64 0,.str (W++x_ x.args i),.int .i64 (yR x.args i:Int),.int .i64 (i:Int)],[.cells x.cells]) =
   some (.exit 1,[.ptr 0 0,.str [],.int .i64 0,.str (W++uF (x.args.map lU)),.int .i64 (vJ (x.args.map lU):Int),.int .i64 (x.args.length:Int)],[.cells x.cells]):=by
 have hl:x.args.length≤4611686018427387904:=by
  have:=Ep (x.args.map lU)
  rw [al2] at this
  omega
 have q0:∀h o,kH.mT 1 h (.ptr 0 o)=.ptr 0 o:=fun h o=>lD (by omega)
 refine rU (fun i:Nat=>([.ptr 0 0,.str [],.int .i64 0,.str (W++x_ x.args i),.int .i64 (yR x.args i:Int),.int .i64 (i:Int)],[.cells x.cells])) (fun i=>i≤x.args.length) (fun i=>x.args.length - i) _ fun i hi=>?_
 by_cases h:i < x.args.length
 ·left
  refine⟨i+1,?_,h,by omega,rfl⟩
  obtain⟨y,hy⟩:∃y,x.args[i]?=some y:=⟨x.args[i],ab8 h⟩
  have hye:=hok y (ad2 hy)
  unfold Bi at hye
  have t1:=IN hy
  have t2:=IM hy
  have t3:=NS x.args (i+1)
  have w1:=qT (a:=i) (by omega)
  have mx:(max (yR x.args i:Int) (l9 y:Int))=((yR x.args (i+1):Nat):Int):=by rw [t2]; omega
  by_cases h0:i=0
  ·rw [if_pos h0,am4] at t1
   have hp:¬0 < i:=by omega
   rw [t1,aa6] at t3
   have s1:(W++x_ x.args i).length+(lX y).length≤4611686018427387904:=by simp only [aa6]; omega
   simp -implicitDefEqProofs at s1
   simp -implicitDefEqProofs [I2,h,hp,NR hy,ldG,hye,t1,mx,s1,w1,kW,vN,q0,-ad5]
  ·rw [if_neg h0] at t1
   have hp:0 < i:=by omega
   rw [t1,aa6,aa6] at t3
   simp only [ab0,ab3] at t3
   have s1:(W++x_ x.args i).length+[(44:UInt8),32].length≤4611686018427387904:=by simp only [aa6,ab0,ab3]; omega
   have s2:(W++(x_ x.args i++[44,32])).length+(lX y).length≤4611686018427387904:=by simp only [aa6,ab0,ab3]; omega
   simp -implicitDefEqProofs at s1 s2
   simp -implicitDefEqProofs [I2,h,hp,NR hy,ldG,hye,t1,mx,s1,s2,w1,kW,vN,q0,-ad5]
 ·right
  have:i=x.args.length:=by omega
  subst this
  constructor
  ·simp -implicitDefEqProofs [I2,kW,vN,q0,x_,yR]
  ·simp
theorem akR {x:GE}(hk:x.kind=4∨x.kind=23∨x.kind=24∨x.kind=25∨x.kind=26) (ha:∀a∈x.args,Bi a) (hbd:(lX x).length≤1125899906842624) (hn:l9 x≤1125899906842624):Bi x:=by
 intro h
 refine lB rfl x.shut (lA (C0 _ _ _) ?_)
 have t1:lX x=pU x.kind++x.name++40::(uF (x.args.map lU)++[]++[41]):=by
  rw [rG]
  rcases hk with h | h | h | h | h <;> rw [h] <;> rfl
 have t2:l9 x=vJ (x.args.map lU)+1:=by
  rw [rF]
  rcases hk with h | h | h | h | h <;> rw [h] <;> rfl
 rw [t1] at hbd
 rw [t2] at hn
 rw [t1,t2]
 simp only [aa6,ab0,ab3] at hbd
 have hl:=Oi x ha (pU x.kind++x.name++[40]) (by simp only [aa6,ab0,ab3]; omega) (by omega) 0 (al7 _)
 have p0:x_ x.args 0=[]:=rfl
 have n0:yR x.args 0=0:=rfl
 rw [p0,n0,am4] at hl
 have o1:=T9 x.kind (by omega)
 have o4:=c43 x.kind (by omega)
 have q0:∀h o,kH.mT 1 h (.ptr 0 o)=.ptr 0 o:=fun h o=>lD (by omega)
 have ht:¬((lI x.kind:Nat):Int) < 8:=by rcases hk with h' | h' | h' | h' | h' <;> rw [h'] <;> decide
 have d1:¬x.kind=1:=by omega
 have d2:¬x.kind=2:=by omega
 have d3:¬x.kind=3:=by omega
 have d5:¬x.kind=5:=by omega
 have d6:¬x.kind=6:=by omega
 have d7:¬x.kind=7:=by omega
 have d16:¬x.kind=16:=by omega
 generalize vJ (x.args.map lU)=na at hn hl ⊢
 have w1:=qT (a:=na) (by omega)
 have s1:(pU x.kind).length+x.name.length≤4611686018427387904:=by omega
 have s2:(pU x.kind++x.name).length+[(40:UInt8)].length≤4611686018427387904:=by simp only [aa6,ab0,ab3]; omega
 have s3:(pU x.kind++(x.name++40::uF (x.args.map lU))).length+[(41:UInt8)].length≤4611686018427387904:=by simp only [aa6,ab0,ab3]; omega
 simp -implicitDefEqProofs at s2 s3 hl
 simp -implicitDefEqProofs [m19,lQ,o1,o4,ht,d1,d2,d3,d5,d6,d7,d16,hl,w1,s1,s2,s3,k_,nB,lM,oR,B9,Cn,kW,vN,q0,kK,-ad5]
theorem arJ {x:GE}(hk:x.kind=16) (hnm:x.name=[]) (hnum:0≤x.num∧x.num≤4294967295) (ha:∀a∈x.args,Bi a) (hbd:(lX x).length≤1125899906842624) (hn:l9 x≤1125899906842624):Bi x:=by
 intro h
 refine lB rfl x.shut (lA (C0 _ _ _) ?_)
 have t1:lX x=[114,111,114]++40::(uF (x.args.map lU)++(44::32::uC x.num)++[41]):=by
  rw [rG,hk,hnm]; rfl
 have t2:l9 x=vJ (x.args.map lU)+1:=by
  rw [rF,hk]; rfl
 rw [t1] at hbd
 rw [t2] at hn
 rw [t1,t2]
 simp only [aa6,ab0,ab3] at hbd
 have hl:=Oi x ha ([114,111,114]++[40]) (by simp only [aa6,ab0,ab3]; omega) (by omega) 0 (al7 _)
 have p0:x_ x.args 0=[]:=rfl
 have n0:yR x.args 0=0:=rfl
 rw [p0,n0,am4] at hl
 have o1:=T9 x.kind (by omega)
 have o4:=c43 x.kind (by omega)
 have o5:=c44 x.num hnum
 rw [hk] at o1 o4
 have q0:∀h o,kH.mT 1 h (.ptr 0 o)=.ptr 0 o:=fun h o=>lD (by omega)
 have ht:¬((lI 16:Nat):Int) < 8:=by decide
 have hs:pU 16=[114,111,114]:=rfl
 rw [hs] at o4
 generalize vJ (x.args.map lU)=na at hn hl ⊢
 have w1:=qT (a:=na) (by omega)
 have s2:(114::111::114::40::uF (x.args.map lU)).length+[(44:UInt8),32].length≤4611686018427387904:=by simp only [aa6,ab0,ab3]; omega
 have s3:(114::111::114::40::(uF (x.args.map lU)++[44,32])).length+(uC x.num).length≤4611686018427387904:=by simp only [aa6,ab0,ab3]; omega
 have s4:(114::111::114::40::(uF (x.args.map lU)++44::32::uC x.num)).length+[(41:UInt8)].length≤4611686018427387904:=by simp only [aa6,ab0,ab3]; omega
 simp -implicitDefEqProofs at s2 s3 s4 hl
 simp -implicitDefEqProofs [m19,lQ,hk,hnm,o1,o4,o5,ht,hl,w1,s2,s3,s4,k_,nB,lM,oR,B9,Cn,kW,vN,q0,kK,-ad5]
theorem agE {x a:GE}(hw:nZ x=true) (ha:a∈x.args):(lX a).length≤(lX x).length∧l9 a≤l9 x:=by
 have hk:=AN hw
 have hnode:zX x.kind x.num x.name x.args.length=true:=by
  cases x
  simp only [nZ,ad0] at hw
  exact hw.1
 have one:∀b,x.args=[b]→a=b:=fun b e=>by rw [e] at ha; simpa using ha
 have sep:(lX a).length≤(uF (x.args.map lU)).length∧l9 a≤vJ (x.args.map lU):=by
  have hm:lU a∈x.args.map lU:=List.mem_map_of_mem ha
  constructor
  ·have key:∀l:List Part,lU a∈l→(lX a).length≤(uF l).length:=by
    intro l
    induction l with
    | nil=>intro h; cases h
    | cons p r ih =>
     intro h
     cases r with
     | nil =>
      simp at h
      subst h
      exact ac8 _
     | cons q r =>
      simp only [uF,aa6,ab0]
      rcases List.mem_cons.1 h with h | h
      ·subst h
       show(lX a).length≤(lX a).length+_
       omega
      ·have:=ih h; omega
   exact key _ hm
  ·have key:∀l:List Part,lU a∈l→l9 a≤vJ l:=by
    intro l
    induction l with
    | nil=>intro h; cases h
    | cons p r ih =>
     intro h
     simp only [vJ]
     rcases List.mem_cons.1 h with h | h
     ·subst h
      show l9 a≤max (l9 a) _
      omega
     ·have:=ih h; omega
   exact key _ hm
 have two:∀b c,x.args=[b,c]→a=b∨a=c:=fun b c e=>by rw [e] at ha; simpa using ha
 rw [rG x,rF x]
 unfold zX at hnode
 have bin:lI x.kind < 8→(∃b c,x.args=[b,c])→(lX a).length≤(Cy x.kind x.num x.name (x.args.map lU)).length∧l9 a≤Cw x.kind (x.args.map lU):=by
  rintro ht ⟨b,c,e⟩
  rw [e]
  unfold Cy Cw
  rw [if_pos ht,if_pos ht]
  simp only [af7,al1,aa6,ab0]
  have l1:=K0 (mO (lI x.kind) (lU b).1) b
  have l2:=K0 (decide (lI x.kind < lI (lU c).1)) c
  rcases two b c e with rfl | rfl <;> omega
 have sh:lI x.kind < 8→(∃b,x.args=[b])→(lX a).length≤(Cy x.kind x.num x.name (x.args.map lU)).length∧l9 a≤Cw x.kind (x.args.map lU):=by
  rintro ht ⟨b,e⟩
  obtain rfl:=one b e
  rw [e]
  unfold Cy Cw
  rw [if_pos ht,if_pos ht]
  simp only [af7,al1,aa6,ab0]
  have l1:=K0 (mO (lI x.kind) (lU a).1) a
  omega
 have un:∀s,(∃b,x.args=[b])→(lX a).length≤(match x.args.map lU with | a::_=>s++tB (decide (lI a.1=8)) a | []=>([]:List UInt8)).length∧l9 a≤(match x.args.map lU with | a::_=>tA (decide (lI a.1=8)) a+1 | []=>0):=by
  rintro s ⟨b,e⟩
  obtain rfl:=one b e
  rw [e]
  simp only [af7,al1,aa6]
  have l1:=K0 (decide (lI (lU a).1=8)) a
  exact⟨by omega,Nat.le_succ_of_le l1.2⟩
 rcases x7 hk with h | h | h | h | h | h | h | h | h | h | h | h | h | h | h | h | h | h | h | h | h | h | h | h | h | h <;> simp only [h] at hnode bin sh ⊢ <;>
  simp [xH,kZ,tR] at hnode
 ·have:x.args=[]:=by have:=hnode.1.1; exact ag4 (by omega)
  rw [this] at ha; cases ha
 ·have:x.args=[]:=by have:=hnode.1.1; exact ag4 (by omega)
  rw [this] at ha; cases ha
 ·obtain⟨b,e⟩:=AR (l:=x.args) (by have:=hnode.1.1; omega)
  obtain rfl:=one b e
  rw [e]
  show(lX a).length≤(x.name++91::(lX a++[93])).length∧l9 a≤l9 a+1
  simp; omega
 ·show(lX a).length≤([]++x.name++40::(uF (x.args.map lU)++[]++[41])).length∧l9 a≤vJ (x.args.map lU)+1
  simp; omega
 ·exact un _ (AR (by have:=hnode.1.1; omega))
 ·exact un _ (AR (by have:=hnode.1.1; omega))
 ·exact un _ (AR (by have:=hnode.1.1; omega))
 ·exact bin (by decide) (uW (by have:=hnode.1.1; omega))
 ·exact bin (by decide) (uW (by have:=hnode.1.1; omega))
 ·exact bin (by decide) (uW (by have:=hnode.1.1; omega))
 ·exact bin (by decide) (uW (by have:=hnode.1.1; omega))
 ·exact bin (by decide) (uW (by have:=hnode.1.1; omega))
 ·exact bin (by decide) (uW (by have:=hnode.1.1; omega))
 ·exact sh (by decide) (AR (by have:=hnode.1.1; omega))
 ·exact sh (by decide) (AR (by have:=hnode.1.1; omega))
 ·show(lX a).length≤([114,111,114]++x.name++40::(uF (x.args.map lU)++44::32::uC x.num++[41])).length∧l9 a≤vJ (x.args.map lU)+1
  simp; omega
 ·exact bin (by decide) (uW (by have:=hnode.1.1; omega))
 ·exact bin (by decide) (uW (by have:=hnode.1.1; omega))
 ·exact bin (by decide) (uW (by have:=hnode.1.1; omega))
 ·exact bin (by decide) (uW (by have:=hnode.1.1; omega))
 ·exact bin (by decide) (uW (by have:=hnode.1.1; omega))
 ·exact bin (by decide) (uW (by have:=hnode.1.1; omega))
 ·show(lX a).length≤([109,117,108,104,105]++x.name++40::(uF (x.args.map lU)++[]++[41])).length∧l9 a≤vJ (x.args.map lU)+1
  simp; omega
 ·show(lX a).length≤([99,97,114,114,121]++x.name++40::(uF (x.args.map lU)++[]++[41])).length∧l9 a≤vJ (x.args.map lU)+1
  simp; omega
 ·show(lX a).length≤([115,101,108,101,99,116]++x.name++40::(uF (x.args.map lU)++[]++[41])).length∧l9 a≤vJ (x.args.map lU)+1
  simp; omega
 ·show(lX a).length≤([119,111,114,100]++x.name++40::(uF (x.args.map lU)++[]++[41])).length∧l9 a≤vJ (x.args.map lU)+1
  simp; omega
theorem c19:∀(n:Nat) (x:GE),x.size≤n→nZ x=true→(lX x).length≤1125899906842624→l9 x≤1125899906842624→Bi x:=by
 intro n
 induction n with
 | zero=>intro x hn; cases x; simp [GE.size] at hn
 | succ n ih =>
  intro x hn hw hb hne
  have hk:=AN hw
  have ha:∀a∈x.args,Bi a∧1≤a.kind∧a.kind≤26:=by
   intro a hm
   have hle:=agE hw hm
   have hwa:nZ a=true:=by
    cases x
    simp only [nZ,ad0,y9,af4] at hw
    exact hw.2 a hm
   have hsz:a.size≤n:=by
    cases x
    have h1:=GE.qQ hm
    simp only [GE.size,GE.args] at hn h1
    omega
   exact⟨ih a hsz hwa (by omega) (by omega),AN hwa⟩
  have hnode:zX x.kind x.num x.name x.args.length=true:=by
   cases x
   simp only [nZ,ad0] at hw
   exact hw.1
  have one:∀a,x.args=[a]→Bi a∧1≤a.kind∧a.kind≤26:=fun a e=>ha a (by rw [e]; simp)
  have bin:lI x.kind < 8→(∃a b,x.args=[a,b])→Bi x:=by
   rintro ht ⟨a,b,e⟩
   have h1:=ha a (by rw [e]; simp)
   have h2:=ha b (by rw [e]; simp)
   exact arK e hk ht h1.1 h2.1 h1.2 h2.2 hb hne
  have cl:(x.kind=4∨x.kind=23∨x.kind=24∨x.kind=25∨x.kind=26)→Bi x:=fun h1=>akR h1 (fun a hm=>(ha a hm).1) hb hne
  unfold zX at hnode
  rcases x7 hk with h | h | h | h | h | h | h | h | h | h | h | h | h | h | h | h | h | h | h | h | h | h | h | h | h | h <;> simp only [h] at hnode bin cl <;>
   simp [xH,kZ,tR] at hnode
  ·exact arI h hnode.2
  ·exact akS h
  ·obtain⟨a,e⟩:=AR (l:=x.args) (by have:=hnode.1.1; omega)
   exact ab7 h e (one a e).1 hb hne
  ·exact cl (by simp)
  ·obtain⟨a,e⟩:=AR (l:=x.args) (by have:=hnode.1.1; omega)
   exact MI (.inl h) e (one a e).1 (one a e).2 hb hne
  ·obtain⟨a,e⟩:=AR (l:=x.args) (by have:=hnode.1.1; omega)
   exact MI (.inr (.inl h)) e (one a e).1 (one a e).2 hb hne
  ·obtain⟨a,e⟩:=AR (l:=x.args) (by have:=hnode.1.1; omega)
   exact MI (.inr (.inr h)) e (one a e).1 (one a e).2 hb hne
  ·exact bin (by decide) (uW (by have:=hnode.1.1; omega))
  ·exact bin (by decide) (uW (by have:=hnode.1.1; omega))
  ·exact bin (by decide) (uW (by have:=hnode.1.1; omega))
  ·exact bin (by decide) (uW (by have:=hnode.1.1; omega))
  ·exact bin (by decide) (uW (by have:=hnode.1.1; omega))
  ·exact bin (by decide) (uW (by have:=hnode.1.1; omega))
  ·obtain⟨a,e⟩:=AR (l:=x.args) (by have:=hnode.1.1; omega)
   exact RN e hk (by rw [h]; decide) (by rw [h]; decide) (one a e).1 (one a e).2 hnode.2 hb hne
  ·obtain⟨a,e⟩:=AR (l:=x.args) (by have:=hnode.1.1; omega)
   exact RN e hk (by rw [h]; decide) (by rw [h]; decide) (one a e).1 (one a e).2 hnode.2 hb hne
  ·exact arJ h (An hnode.1.2) hnode.2 (fun a hm=>(ha a hm).1) hb hne
  ·exact bin (by decide) (uW (by have:=hnode.1.1; omega))
  ·exact bin (by decide) (uW (by have:=hnode.1.1; omega))
  ·exact bin (by decide) (uW (by have:=hnode.1.1; omega))
  ·exact bin (by decide) (uW (by have:=hnode.1.1; omega))
  ·exact bin (by decide) (uW (by have:=hnode.1.1; omega))
  ·exact bin (by decide) (uW (by have:=hnode.1.1; omega))
  ·exact cl (by simp)
  ·exact cl (by simp)
  ·exact cl (by simp)
  ·exact cl (by simp)
theorem LL (x:GE) (hw:nZ x=true) (hb:(lX x).length≤1125899906842624) (hn:l9 x≤1125899906842624):Bi x:=c19 _ x (ac8 _) hw hb hn
end
section
open Go Hk

end
section
open Go Hk

end
section
open Go Hk

end
section
open Go Hk
mutual
def wE:GE→Nat
 | .mk _ _ _ name args=>name.length+60+Dg args
def Dg:List GE→Nat
 | []=>0
 | x::r=>wE x+4+Dg r
end
mutual
def wS:GS→Nat
 | .mk _ _ _ name _ args body els _=>name.length+120+Dg args+DV body+DV els
def DV:List GS→Nat
 | []=>0
 | x::r=>wS x+4+DV r
end
mutual
def dS:GS→Nat
 | .mk _ _ _ _ _ _ body els _=>1+max (EL body) (EL els)
def EL:List GS→Nat
 | []=>0
 | x::r=>max (dS x) (EL r)
end
def wP (p:GP):Nat:=p.name.length+60
def R1:List GP→Nat
 | []=>0
 | p::r=>wP p+4+R1 r
def wF (f:GF):Nat:=f.name.length+120+R1 f.params+DV f.body
def HD:List GF→Nat
 | []=>0
 | f::r=>wF f+HD r
theorem TP (k:Int):(pU k).length≤6:=by
 unfold pU
 cases h:(([[],[],[],[],[],[126],[45],[33],[43],[45],[42],[38],[124],[94],[60,60],[62,62],[114,111,114],[61,61],[33,61],[60],[60,61],[62],[62,61],
 [109,117,108,104,105],[99,97,114,114,121],[115,101,108,101,99,116],[119,111,114,100]]:List (List UInt8))[k.toNat]?) with
 | none=>simp
 | some s =>
  have hm:=ad2 h
  have key:∀s∈([[],[],[],[],[],[126],[45],[33],[43],[45],[42],[38],[124],[94],[60,60],[62,62],[114,111,114],[61,61],[33,61],[60],[60,61],[62],[62,61],
   [109,117,108,104,105],[99,97,114,114,121],[115,101,108,101,99,116],[119,111,114,100]]:List (List UInt8)),s.length≤6:=by decide
  exact key s hm
def pw (l:List Part):Nat:=match l with
 | []=>0
 | p::r=>p.2.1.length+4+pw r
def pd (l:List Part):Nat:=match l with
 | []=>0
 | p::r=>p.2.2+4+pd r
theorem Xj:∀l:List Part,(uF l).length≤pw l
 | []=>by simp [uF,pw]
 | [p]=>by simp only [uF,pw]; omega
 | p::q::r=>by
  have:=Xj (q::r)
  simp only [uF,aa6,ab0,pw] at this ⊢
  omega
theorem WD:∀l:List Part,vJ l≤pd l
 | []=>by simp [vJ,pd]
 | p::r=>by
  have:=WD r
  simp only [vJ,pd]
  omega
theorem Hx (b:Bool) (p:Part):(tB b p).length≤p.2.1.length+2:=by
 cases b <;> simp [tB]
theorem Hw (b:Bool) (p:Part):tA b p≤p.2.2+1:=by
 cases b <;> simp [tA]
theorem abW (k n:Int) (name:List UInt8) (l:List Part) (hn:n < 9223372036854775808):(Cy k n name l).length≤name.length+60+pw l:=by
 have h1:=TP k
 have h2:=BK hn
 have h3:=Xj l
 unfold Cy
 split
 ·match l with
  | []=>simp
  | [a] =>
   have:=Hx (mO (lI k) a.1) a
   simp only [aa6,ab0,pw]
   omega
  | a::b::r =>
   have:=Hx (mO (lI k) a.1) a
   have:=Hx (decide (lI k < lI b.1)) b
   simp only [aa6,ab0,pw]
   omega
 ·split
  ·omega
  ·split
   ·omega
   ·split
    ·match l with
     | []=>simp
     | a::r=>simp only [aa6,ab0,ab3,pw]; omega
    ·split
     ·match l with
      | []=>simp
      | a::r =>
       have:=Hx (decide (lI a.1=8)) a
       simp only [aa6,pw]
       omega
     ·split <;> simp only [aa6,ab0,ab3] <;> omega
theorem abV (k:Int) (l:List Part):Cw k l≤60+pd l:=by
 have h3:=WD l
 unfold Cw
 split
 ·match l with
  | []=>simp
  | [a] =>
   have:=Hw (mO (lI k) a.1) a
   simp only [pd]
   omega
  | a::b::r =>
   have:=Hw (mO (lI k) a.1) a
   have:=Hw (decide (lI k < lI b.1)) b
   simp only [pd]
   omega
 ·split
  ·omega
  ·split
   ·match l with
    | []=>simp
    | a::r=>simp only [pd]; omega
   ·split
    ·match l with
     | []=>simp
     | a::r =>
      have:=Hw (decide (lI a.1=8)) a
      simp only [pd]
      omega
    ·omega
mutual
theorem Bb:∀x:GE,nZ x=true→(lU x).2.1.length≤wE x∧(lU x).2.2≤wE x
 | .mk k p n name args,h=>by
  simp only [nZ,ad0] at h
  have hn:n < 9223372036854775808:=by
   have h1:=h.1
   unfold zX at h1
   split at h1
   ·cases h1
   ·simp only [ad0] at h1
    have h2:=h1.2
    unfold kZ at h2
    split at h2
    ·have:=tR.1 h2; omega
    ·have:n=0:=by simpa using h2
     omega
  obtain⟨h1,h2⟩:=OU args h.2
  have h3:=abW k n name (AH args) hn
  have h4:=abV k (AH args)
  simp only [lU,wE]
  exact⟨by omega,by omega⟩
theorem OU:∀l:List GE,oB l=true→pw (AH l)≤Dg l∧pd (AH l)≤Dg l
 | [],_=>by simp [AH,pw,pd,Dg]
 | x::r,h=>by
  simp only [oB,ad0] at h
  obtain⟨h1,h2⟩:=Bb x h.1
  obtain⟨h3,h4⟩:=OU r h.2
  simp only [AH,pw,pd,Dg]
  exact⟨by omega,by omega⟩
end
theorem MX {x:GE}:∀{l:List GE},x∈l→wE x≤Dg l
 | y::r,h=>by
  simp only [Dg]
  cases h with
  | head=>omega
  | tail _ h=>have:=MX h; omega
theorem FU {t:GT}(h:tU t=true):(wA t).length≤26:=by
 have hlen:0≤t.len∧t.len≤4294967295:=by
  simp only [tU,ad0] at h
  exact tR.1 h.1.2
 have:=BK (n:=t.len) (by omega)
 unfold wA
 rw [aa6]
 have a:(if t.elem=1 then [109,97,115,107] else if t.elem=2 then [117,56] else [117,51,50]:List UInt8).length≤4:=by
  split
  ·simp
  ·split <;> simp
 have b:(if 0 < t.len then 91::(uC t.len++[93]) else []:List UInt8).length≤22:=by
  split
  ·simp; omega
  ·simp
 omega
def tw (l:List (List UInt8)):Nat:=match l with
 | []=>0
 | p::r=>p.length+tw r
theorem Iq (n:Nat) (l:List (List UInt8)):(oT n l).length=4+n+(tw l+l.length * (n+2)):=by
  unfold oT
  simp only [ab0,aa6,ab3,rK]
  have key:∀l:List (List UInt8),((l.map fun t=>p9 (n+1)++t++[10]).flatten).length=tw l+l.length * (n+2):=by
   intro l
   induction l with
   | nil=>simp [tw]
   | cons x r ih =>
    simp only [af7,List.flatten_cons,aa6,ab0,ab3,rK,ih,tw,al4]
    omega
  have:=key l
  omega
theorem Pj {args:List GE}{i:Nat}(h:oB args=true):(((args.map lX)[i]?).getD []).length≤Dg args∧((args.map l9)[i]?).getD 0≤Dg args:=by
 rw [af6,af6]
 cases hi:args[i]? with
 | none=>simp
 | some a =>
  have hm:=ad2 hi
  have hw:nZ a=true:=by
   rw [y9,af4] at h
   exact h a hm
  have h1:=Bb a hw
  have h2:=MX hm
  simp only [Option.map_some,Option.getD_some]
  exact⟨by show(lU a).2.1.length≤_; omega,by show(lU a).2.2≤_; omega⟩
theorem Q1 {args:List GE}(h:oB args=true):(((args.map lX)[0]?).getD []).length+(((args.map lX)[1]?).getD []).length≤Dg args∧((args.map l9)[0]?).getD 0≤Dg args∧((args.map l9)[1]?).getD 0≤Dg args:=by
 refine⟨?_,(Pj h).2,(Pj h).2⟩
 match args with
 | []=>simp
 | [a]=>exact(Pj (i:=0) h).1
 | a::b::r =>
  simp only [oB,ad0] at h
  have h1:=Bb a h.1
  have h2:=Bb b h.2.1
  simp only [af7,List.getElem?_cons_zero,List.getElem?_cons_succ,Option.getD_some,Dg]
  show(lU a).2.1.length+(lU b).2.1.length≤_
  omega
theorem acM {k m:Int}{name:List UInt8}{ty:GT}{args:List GE}{body els:List UInt8}{has:Bool}{nb ne:Nat}(hn:lP k m name ty args nb ne has=true) :
  (RX k m name ty (args.map lX) body els has).length≤name.length+110+Dg args+body.length+els.length:=by
 have hk:=AD hn
 unfold lP at hn
 split at hn
 ·cases hn
 ·simp only [ad0] at hn
  have hwe:oB args=true:=by simp_all
  obtain⟨a1,a2,a3⟩:=Q1 hwe
  have hm:(uC m).length≤20:=by
   have hm:kZ m (k == 6)=true:=by simp_all
   refine BK ?_
   unfold kZ at hm
   split at hm
   ·have:=tR.1 hm; omega
   ·have:m=0:=by simpa using hm
    omega
  have hl:(oN ty.label).length=4:=by unfold oN; split <;> rfl
  unfold RX
  generalize ((args.map lX)[0]?).getD []=A at a1 ⊢
  generalize ((args.map lX)[1]?).getD []=D at a1 ⊢
  split
  ·simp only [aa6,ab0,ab3]; omega
  ·split
   ·rename_i h2
    have ht:tU ty=true:=by
     have h3:(if (k == 2)=true then tU ty else ty == GT.zero)=true:=by simp_all
     rw [if_pos (by simpa using h2)] at h3
     exact h3
    have:=FU ht
    simp only [aa6,ab0,ab3,hl]; omega
   ·split
    ·simp only [aa6,ab0,ab3]; omega
    ·split
     ·simp only [aa6,ab0,ab3]; omega
     ·split
      ·have:(if has=true then [32,101,108,115,101]++els else []:List UInt8).length≤5+els.length:=by
        split
        ·simp; omega
        ·simp
       simp only [aa6,ab0,ab3]; omega
      ·split
       ·simp only [aa6,ab0,ab3]; omega
       ·split
        ·simp only [aa6,ab0,ab3]; omega
        ·simp only [aa6,ab0,ab3]; omega
theorem acL {k:Int}{args:List GE}{b e:Nat}{has:Bool}(hwe:oB args=true):RW k (args.map l9) b e has≤1+Dg args+b+e:=by
 obtain⟨a1,a2,a3⟩:=Q1 hwe
 unfold RW
 dsimp only
 generalize ((args.map l9)[0]?).getD 0=A at a2 ⊢
 generalize ((args.map l9)[1]?).getD 0=D at a3 ⊢
 split
 ·omega
 ·split
  ·omega
  ·split
   ·split <;> omega
   ·split <;> omega
theorem Er (n:Nat):∀l:List GS,(nT n l).length=l.length
 | []=>rfl
 | x::r=>by simp [nT,Er n r]
mutual
theorem acS:∀(x:GS) (n T:Nat),tT x=true→n+dS x≤T→(pL n x).length≤wS x * (T+1)
 | .mk k p m name ty args body els has,n,T,h,hd=>by
  simp only [tT,ad0] at h
  simp only [dS] at hd
  have h1:=acM (body:=oT n (nT (n+1) body)) (els:=oT n (nT (n+1) els)) h.1.1
  have h2:=Fo body (n+1) T h.1.2 (by omega)
  have h3:=Fo els (n+1) T h.2 (by omega)
  have e1:=Iq n (nT (n+1) body)
  have e2:=Iq n (nT (n+1) els)
  rw [Er] at e1 e2
  have m1:body.length * (n+2)≤body.length * (T+1):=Nat.mul_le_mul_left _ (by omega)
  have m2:els.length * (n+2)≤els.length * (T+1):=Nat.mul_le_mul_left _ (by omega)
  have b1:(oT n (nT (n+1) body)).length≤4+n+DV body * (T+1):=by omega
  have b2:(oT n (nT (n+1) els)).length≤4+n+DV els * (T+1):=by omega
  simp only [pL,wS]
  have hT:name.length+110+Dg args≤(name.length+110+Dg args) * (T+1):=Nat.le_mul_of_pos_right _ (by omega)
  have h10:8+2 * n≤10 * (T+1):=by omega
  have:(name.length+120+Dg args+DV body+DV els) * (T+1)=(name.length+110+Dg args) * (T+1)+10 * (T+1)+DV body * (T+1)+DV els * (T+1):=by
   simp only [al4]; omega
  rw [this]
  omega
theorem Fo:∀(l:List GS) (n T:Nat),pJ l=true→n+EL l≤T→tw (nT n l)+l.length * (T+1)≤DV l * (T+1)
 | [],_,_,_,_=>by simp [nT,tw,DV]
 | x::r,n,T,h,hd=>by
  simp only [pJ,ad0] at h
  simp only [EL] at hd
  have h1:=acS x n T h.1 (by omega)
  have h2:=Fo r n T h.2 (by omega)
  simp only [nT,tw,DV,ab0,al4] at h2 ⊢
  omega
end
mutual
theorem abR:∀(x:GS),tT x=true→qK x≤wS x
 | .mk k p m name ty args body els has,h=>by
  simp only [tT,ad0] at h
  have hwe:oB args=true:=by
   have hn:=h.1.1
   unfold lP at hn
   split at hn
   ·cases hn
   ·simp_all
  have h1:=acL (k:=k) (b:=qU (oO body)+1) (e:=qU (oO els)+1) (has:=has) hwe
  have h2:=Fa body h.1.2
  have h3:=Fa els h.2
  simp only [qK,wS]
  omega
theorem Fa:∀(l:List GS),pJ l=true→qU (oO l)≤DV l
 | [],_=>by simp [oO,qU]
 | x::r,h=>by
  simp only [pJ,ad0] at h
  have h1:=abR x h.1
  have h2:=Fa r h.2
  simp only [oO,qU,DV]
  omega
end
theorem Oq {p:GP}(h:wL p=true):(qI p).length≤wP p:=by
 simp only [wL,ad0] at h
 have h1:=FU h.2
 have hl:(oN p.ty.label).length=4:=by unfold oN; split <;> rfl
 have ho:(if p.out=true then [111,117,116,32] else []:List UInt8).length≤4:=by split <;> simp
 simp only [qI,aa6,ab0,ab3,hl,wP]
 omega
theorem Xi:∀{l:List GP},l.all wL=true→(wH (l.map qI)).length≤R1 l
 | [],_=>by simp [wH]
 | [p],h=>by
  simp only [List.all_cons,List.all_nil,Bool.and_true] at h
  have:=Oq h
  simp only [af7,al1,wH,R1]
  omega
 | p::q::r,h=>by
  have hp:wL p=true:=by simp_all
  have hr:(q::r).all wL=true:=by simp_all
  have h1:=Oq hp
  have h2:=Xi hr
  simp only [af7,wH,aa6,ab0,R1] at h2 ⊢
  omega
theorem acR {f:GF}{T:Nat}(h:q8 f=true) (hd:1+EL f.body≤T):(wX f).length≤wF f * (T+1)∧yD f≤wF f:=by
 simp only [q8,ad0] at h
 obtain⟨⟨⟨_,hb⟩,hp⟩,hr⟩:=h
 have h1:=Xi hp
 have h2:=Fo f.body 1 T hb hd
 have h3:=Iq 0 (nT 1 f.body)
 have h4:=Fa f.body hb
 rw [Er] at h3
 have m1:f.body.length * (0+2)≤f.body.length * (T+1):=Nat.mul_le_mul_left _ (by omega)
 have hl:(oN f.result.label).length=4:=by unfold oN; split <;> rfl
 have hres:(if f.has=true then [58,32]++oN f.result.label++wA f.result else []:List UInt8).length≤40:=by
  split
  ·rename_i hh
   rw [if_pos hh] at hr
   simp only [ad0] at hr
   have:=FU hr.1.1
   simp only [aa6,ab0,ab3,hl]
   omega
  ·simp
 refine⟨?_,by simp only [yD,wF]; omega⟩
 have e:(wX f).length≤f.name.length+70+R1 f.params+(oT 0 (nT 1 f.body)).length:=by
  simp only [wX,aa6,ab0,ab3]
  omega
 have hT:f.name.length+120+R1 f.params≤(f.name.length+120+R1 f.params) * (T+1):=Nat.le_mul_of_pos_right _ (by omega)
 have:wF f * (T+1)=(f.name.length+120+R1 f.params) * (T+1)+DV f.body * (T+1):=by simp only [wF,al4]
 omega
end
section
open Go Hk
structure sI where
 at_:Int
 field:Int
 num:Int
 name:List UInt8
def sI.cells (c:sI):List kH:=[.int .i64 c.at_,.int .i64 c.field,.int .i64 c.num,.str c.name]
def MA:GE:=.mk 1 0 1 [] []
def G_ (x:GE) (c:sI):GE:=match x with
 | .mk k p n name args=>if c.field=0 then .mk c.num p n name args else if c.field=1 then .mk k p c.num name args else if c.field=2 then .mk k p n c.name args
  else if c.field=3 then .mk k p n name (MA::args) else if c.field=4 then .mk k p n name [] else .mk k p n name args
theorem sI.shut (x:GE) (c:sI):([kH.agg x.cells,.agg c.cells].all (kH.nO 0))=true:=by cases x; simp [GE.cells,sI.cells,kH.nO,kH.pT,qO]
theorem UQ {h:kL}:kU 1 5 [.int .i64 0,.int .i64 0,.int .i64 0,.str [],.slice [] .nil] [(0,.agg [.int .i64 1,.int .i64 0,.int .i64 1,.str [],.slice [] .nil])] h=some (.slice [MA.cells] (.own h.length),h++[.front 1 5]):=(rfl)
theorem ac7:lR [.int .i64 0,.int .i64 0,.int .i64 0,.str [],.slice [] .nil] [(0,1),(1,1),(2,1),(3,1),(4,1)] [(0,.int .i64 1),(2,.int .i64 1)]=some (.agg [.int .i64 1,.int .i64 0,.int .i64 1,.str [],.slice [] .nil]):=rfl
theorem GE.pK (k p n:Int) (name:List UInt8) (args:List GE):(GE.mk k p n name args).cells=[.int .i64 k,.int .i64 p,.int .i64 n,.str name,.slice (args.map GE.cells) .no]:=by simp [GE.cells,GE.oK]
theorem avD {α:Type}{l:List α}{e:α→List kH}{r:List kH}{b0 b1 b2 b3:lH}{sz by_:Nat}(he:∀x,(e x).length=sz) (hr:r.length=sz) (hb:(1+l.length) * by_≤140737488355328∧1+l.length≤140737488355328) :
  mB sz by_ [b0,b1,b2,b3,.front 1 sz] (.slice [r] (.own 4)) (.slice (l.map e) .no)=some (.slice (r::l.map e) (.own 4),[b0,b1,b2,b3,.front (1+l.length) sz]):=by
 have har:p8 sz [b0,b1,b2,b3,.front 1 sz] (.slice (l.map e) .no)=some (l.map e):=AY (by intro x hx; obtain⟨y,_,rfl⟩:=List.mem_map.1 hx; exact he y)
 unfold mB
 rw [har]
 simp only [List.getElem?_cons_succ,List.getElem?_cons_zero,al2]
 rw [if_pos ⟨rfl,.inl trivial,hb.1,hb.2⟩]
 split
 ·rename_i h0
  have:l=[]:=ag4 h0
  subst this
  rfl
 ·simp
theorem c16 (x:GE) (c:sI) (hl:x.args.length≤1099511627776) (h:kL):KK 16 [.agg x.cells,.agg c.cells] h=some (.ret (.agg (G_ x c).cells),h):=by
 refine lB rfl (sI.shut x c) (lA (aiU _ _ _ _) ?_)
 obtain⟨k,p,n,name,args⟩:=x
 simp only [GE.args] at hl
 rw [GE.pK]
 have hsz:args.all (fun r=>r.cells.length == 5)=true:=by simp
 by_cases h0:c.field=0
 ·simp -implicitDefEqProofs [m16,lO,lC,sI.cells,h0,G_,GE.pK,kW,l_,lD,putCells,kK]
 by_cases h1:c.field=1
 ·simp -implicitDefEqProofs [m16,lO,lC,sI.cells,h0,h1,G_,GE.pK,kW,l_,lD,putCells,kK]
 by_cases h2:c.field=2
 ·simp -implicitDefEqProofs [m16,lO,lC,sI.cells,h0,h1,h2,G_,GE.pK,kW,l_,lD,putCells,kK]
 by_cases h3:c.field=3
 ·simp -implicitDefEqProofs [m16,lO,lC,sI.cells,h0,h1,h2,h3,ac7,UQ,avD (l:=args) (e:=GE.cells) (r:=MA.cells) (sz:=5) (by_:=64) (fun y=>y.p_) rfl (by omega),G_,GE.pK,kW,l_,lD,putCells,kK]
 by_cases h4:c.field=4
 ·simp -implicitDefEqProofs [m16,lO,lC,sI.cells,h0,h1,h2,h3,h4,G_,GE.pK,kW,l_,lD,putCells,kK]
 ·simp -implicitDefEqProofs [m16,lO,lC,sI.cells,h0,h1,h2,h3,h4,G_,GE.pK,kW,l_,lD,putCells,kK]
end
end Go.Proofs.YtlddmnojanpdoaaGreatDoor
