/-
  The texts IX.M2, IX.B, IX.H, IX.C, IX.D, IX.E, IX.F, IX.G, IX.G2, IX.J1, IX.J2, IX.J3, IX.J4, IX.L1, IX.L2, IX.K1, IX.K2, IX.K3, IX.K4, IX.K5, IX.K6, IX.K7, one behind another. No conditions.
-/
import Derived.Test.YtkeoalhglkfbkaaDoorIxa1
import Derived.KernelRfl
import Derived.WalkKit
set_option linter.unusedVariables false
set_option linter.unusedSimpArgs false
set_option linter.unusedSectionVars false
set_option linter.all false

namespace Go.Proofs.YtkeoalhglkfbkaaDoor
open Go Hk
noncomputable def I8 (K : k9) (m : Nat) (s : List kR × kT) : Option R :=
 (fun aF aG aH aI aE aJ aK aL aD aB aC aA aM => (kZ .lss aA aC).bind fun aP => lG aP ((kY 1 aB aA).bind fun aQ => (kV false 1 aM aQ).bind fun aR => (kY 1 aE aR).bind fun aS => (kV false 1 aM aS).bind fun t73 => lE (lP 1 1 [(.slice [] .nil)] [(0, t73)] aM) fun t74 aN => lE (nQ 1 24 aN aD t74) fun aT aO => (kZ .add aA (.int .i64 1)).bind fun aU => lC m .normal [aF, aG, aH, aI, aE, aJ, aK, aL, aT, aB, aC, aU] aO) (lC m (.exit 4) [aF, aG, aH, aI, aE, aJ, aK, aL, aD, aB, aC, aA] aM)) (List.getD s.1 0 .junk) (List.getD s.1 1 .junk) (List.getD s.1 2 .junk) (List.getD s.1 3 .junk) (List.getD s.1 4 .junk) (List.getD s.1 5 .junk) (List.getD s.1 6 .junk) (List.getD s.1 7 .junk) (List.getD s.1 8 .junk) (List.getD s.1 9 .junk) (List.getD s.1 10 .junk) (List.getD s.1 11 .junk) s.2
noncomputable def I9 (K : k9) (m : Nat) (s : List kR × kT) : Option R :=
 (fun aD aE aF aG aH aI aJ aK aC aB aA aL => (kZ .geq aA (.int .i64 0)).bind fun aN => lG aN ((kY 6 aB aA).bind fun aO => (kV true 6 aL aO).bind fun aP => k_ (K 61 [aP, aC] aL) (fun aQ aM => (kZ .sub aA (.int .i64 1)).bind fun aR => lC m .normal [aD, aE, aF, aG, aH, aI, aJ, aK, aQ, aB, aR] aM) (fun _ _ => none)) (lC m (.exit 6) [aD, aE, aF, aG, aH, aI, aJ, aK, aC, aB, aA] aL)) (List.getD s.1 0 .junk) (List.getD s.1 1 .junk) (List.getD s.1 2 .junk) (List.getD s.1 3 .junk) (List.getD s.1 4 .junk) (List.getD s.1 5 .junk) (List.getD s.1 6 .junk) (List.getD s.1 7 .junk) (List.getD s.1 8 .junk) (List.getD s.1 9 .junk) (List.getD s.1 10 .junk) s.2
noncomputable def DG (K : k9) (m : Nat) (s : List kR × kT) : Option R :=
 (fun aT a_ bB bD bF bH bI aP cE => (kZ .geq aP (.int .i64 0)).bind fun dI => lG dI (((fun (dJ : kR) (cF : kT) => (kU 2 aT).bind fun dK => (kV false 1 cF dK).bind fun t49 => (kY 5 t49 aP).bind fun dL => (kU 1 dL).bind fun dM => (kV true 4 cF dM).bind fun dN => k_ (K 58 [(kR.k8 dN)] cF) (fun dD dB => (lN dD).bind fun dO => (mJ (I8 K (List.length dB)) ([aT, a_, bB, bD, bF, bH, bI, aP, dJ, dD, dO, (.int .i64 0)], dB)).bind fun aL => (fun aN bA bC bE bG aO bJ aF bL c9 c_ dA dC => Ex.lY aL.1 none (fun dE => Ex.inBlock 4 dE (k_ (K 59 [(kR.k8 bL)] dC) (fun t95 dG => (kY 1 aO aF).bind fun t97 => lE (rC dG t95) fun t98 dH => (lU 1 dH t97 t98).bind fun aQ => (kU 2 aN).bind fun t101 => (kV false 1 aQ t101).bind fun cG => (kY 5 cG aF).bind fun cH => (kU 1 cH).bind fun aR => (kV true 4 aQ aR).bind fun cI => (kY 1 aO aF).bind fun cJ => (kV false 1 aQ cJ).bind fun cK => lE (lP 1 1 [(.slice [] .nil)] [(0, cK)] (tN (mS [0, 1] [t101, aR]) aQ)) fun cL bU => k_ (K 59 [(kR.k8 cL)] (tN (mS [0, 1] [t101, aR]) (nT (mS [0, 1] [t101, aR]) aQ bU))) (fun cM cA => k_ (K 60 [cI, cM] (nT (mS [0, 1] [t101, aR]) (nT (mS [0, 1] [t101, aR]) aQ bU) cA)) (fun cN a8 => (kU 2 aN).bind fun cO => (kV false 1 a8 cO).bind fun cP => (kY 5 cP aF).bind fun cQ => (kU 0 cQ).bind fun cR => (kV false 1 a8 cR).bind fun bX => (lN bX).bind fun cS => (kZ .sub cS (.int .i64 1)).bind fun cT => (mJ (I9 K (List.length a8)) ([aN, bA, bC, bE, bG, aO, bJ, aF, cN, bX, cT], a8)).bind fun aA => (fun aG aH aI aJ aB aK aZ aC aM bY bZ bK => Ex.lY aA.1 none (fun b6 => Ex.inBlock 6 b6 ((kY 1 aB aC).bind fun cU => (kV false 1 bK cU).bind fun cV => k_ (K 62 [(kR.k8 aM), (kR.k8 cV)] bK) (fun cW bV => (yF .not cW).bind fun cX => (lG cX ((kY 1 aB aC).bind fun cY => lE (rC bV aM) fun cZ cB => (lU 1 cB cY cZ).bind fun cC => some (.normal, [aG, aH, aI, aJ, aB, aK, (.bool true), aC], cC)) (some (.normal, [aG, aH, aI, aJ, aB, aK, aZ, aC], bV))).bind fun aD => (fun bM bN bO bP bQ bR bS bT cD => Ex.sO aD.1 (some (.normal, [bM, bN, bO, bP, bQ, bR, bS, bT], cD))) (List.getD aD.2.1 0 .junk) (List.getD aD.2.1 1 .junk) (List.getD aD.2.1 2 .junk) (List.getD aD.2.1 3 .junk) (List.getD aD.2.1 4 .junk) (List.getD aD.2.1 5 .junk) (List.getD aD.2.1 6 .junk) (List.getD aD.2.1 7 .junk) aD.2.2) (fun _ _ => none)) (fun b7 => some (b7, [aG, aH, aI, aJ, aB, aK, aZ, aC], bK)))) (List.getD aA.2.1 0 .junk) (List.getD aA.2.1 1 .junk) (List.getD aA.2.1 2 .junk) (List.getD aA.2.1 3 .junk) (List.getD aA.2.1 4 .junk) (List.getD aA.2.1 5 .junk) (List.getD aA.2.1 6 .junk) (List.getD aA.2.1 7 .junk) (List.getD aA.2.1 8 .junk) (List.getD aA.2.1 9 .junk) (List.getD aA.2.1 10 .junk) aA.2.2) (fun _ _ => none)) (fun _ _ => none)) (fun _ _ => none)) (fun dF => some (dF, [aN, bA, bC, bE, bG, aO, bJ, aF], dC)))) (List.getD aL.2.1 0 .junk) (List.getD aL.2.1 1 .junk) (List.getD aL.2.1 2 .junk) (List.getD aL.2.1 3 .junk) (List.getD aL.2.1 4 .junk) (List.getD aL.2.1 5 .junk) (List.getD aL.2.1 6 .junk) (List.getD aL.2.1 7 .junk) (List.getD aL.2.1 8 .junk) (List.getD aL.2.1 9 .junk) (List.getD aL.2.1 10 .junk) (List.getD aL.2.1 11 .junk) aL.2.2) (fun _ _ => none)) (.slice [] (.own (List.length cE))) (cE ++ [.front 0 0])).bind fun aE => (fun aS aU aV aW aX aY a6 a7 bW => Ex.inBlock 3 aE.1 ((kZ .sub a7 (.int .i64 1)).bind fun c8 => lC m .normal [aS, aU, aV, aW, aX, aY, a6, c8] bW) (fun b_ => lC m b_ [aS, aU, aV, aW, aX, aY, a6, a7] bW)) (List.getD aE.2.1 0 .junk) (List.getD aE.2.1 1 .junk) (List.getD aE.2.1 2 .junk) (List.getD aE.2.1 3 .junk) (List.getD aE.2.1 4 .junk) (List.getD aE.2.1 5 .junk) (List.getD aE.2.1 6 .junk) (List.getD aE.2.1 7 .junk) aE.2.2) (lC m (.exit 2) [aT, a_, bB, bD, bF, bH, bI, aP] cE)) (List.getD s.1 0 .junk) (List.getD s.1 1 .junk) (List.getD s.1 2 .junk) (List.getD s.1 3 .junk) (List.getD s.1 4 .junk) (List.getD s.1 5 .junk) (List.getD s.1 6 .junk) (List.getD s.1 7 .junk) s.2
noncomputable def I_ (K : k9) (m : Nat) (s : List kR × kT) : Option R :=
 (fun aE aR aS aT aU aV aW aZ => lG aW (((kU 2 aE).bind fun bA => (kV false 1 aZ bA).bind fun bB => (lN bB).bind fun bC => (kZ .sub bC (.int .i64 1)).bind fun bD => (mJ (DG K (List.length aZ)) ([aE, aR, aS, aT, aU, aV, (.bool false), bD], aZ)).bind fun aA => (fun aC aF aH aJ aL aN aP a_ aX => Ex.lY aA.1 none (fun a6 => Ex.inBlock 2 a6 (some (.normal, [aC, aF, aH, aJ, aL, aN, aP], aX)) (fun a7 => some (a7, [aC, aF, aH, aJ, aL, aN, aP], aX)))) (List.getD aA.2.1 0 .junk) (List.getD aA.2.1 1 .junk) (List.getD aA.2.1 2 .junk) (List.getD aA.2.1 3 .junk) (List.getD aA.2.1 4 .junk) (List.getD aA.2.1 5 .junk) (List.getD aA.2.1 6 .junk) (List.getD aA.2.1 7 .junk) aA.2.2).bind fun aB => (fun aD aG aI aK aM aO aQ aY => Ex.inBlock 1 aB.1 (lC m .normal [aD, aG, aI, aK, aM, aO, aQ] aY) (fun a8 => lC m a8 [aD, aG, aI, aK, aM, aO, aQ] aY)) (List.getD aB.2.1 0 .junk) (List.getD aB.2.1 1 .junk) (List.getD aB.2.1 2 .junk) (List.getD aB.2.1 3 .junk) (List.getD aB.2.1 4 .junk) (List.getD aB.2.1 5 .junk) (List.getD aB.2.1 6 .junk) aB.2.2) (lC m (.exit 0) [aE, aR, aS, aT, aU, aV, aW] aZ)) (List.getD s.1 0 .junk) (List.getD s.1 1 .junk) (List.getD s.1 2 .junk) (List.getD s.1 3 .junk) (List.getD s.1 4 .junk) (List.getD s.1 5 .junk) (List.getD s.1 6 .junk) s.2
noncomputable def Ja (K : k9) (m : Nat) (s : List kR × kT) : Option R :=
 (fun aI aJ aK aE aF aG aH aB aA aD => (kZ .lss aA aB).bind fun aR => lG aR ((kY 1 aE aA).bind fun aS => (kV false 1 aD aS).bind fun aT => (kY 1 aF aA).bind fun aC => (kV false 1 aD aC).bind fun aU => k_ (K 63 [(kR.k8 aT)] (tN (mS [0] [aC]) aD)) (fun aV aL => lE (lP 1 1 [(.slice [] .nil)] [(0, aV)] (tN (mS [0] [aC]) (nT (mS [0] [aC]) aD aL))) fun aW aM => lE (nQ 1 24 (tN (mS [0] [aC]) (nT (mS [0] [aC]) (nT (mS [0] [aC]) aD aL) aM)) aG aW) fun aX aN => k_ (K 63 [(kR.k8 aU)] (nT (mS [0] [aC]) (nT (mS [0] [aC]) (nT (mS [0] [aC]) aD aL) aM) aN)) (fun aY aO => lE (lP 1 1 [(.slice [] .nil)] [(0, aY)] aO) fun aZ aP => lE (nQ 1 24 aP aH aZ) fun a6 aQ => (kZ .add aA (.int .i64 1)).bind fun a7 => lC m .normal [aI, aJ, aK, aE, aF, aX, a6, aB, a7] aQ) (fun _ _ => none)) (fun _ _ => none)) (lC m (.exit 8) [aI, aJ, aK, aE, aF, aG, aH, aB, aA] aD)) (List.getD s.1 0 .junk) (List.getD s.1 1 .junk) (List.getD s.1 2 .junk) (List.getD s.1 3 .junk) (List.getD s.1 4 .junk) (List.getD s.1 5 .junk) (List.getD s.1 6 .junk) (List.getD s.1 7 .junk) (List.getD s.1 8 .junk) s.2
noncomputable def m27 (K : k9) (a0 : kR) (h0 : kT) : Option (n_ × kT) :=
 (lE (nG 5 h0 a0) fun t0 h1 => (fun (t3 : kR) (h2 : kT) => (fun (t5 : kR) (h4 : kT) => (kV true 5 h4 t0).bind fun t6 => k_ (K 30 [(kR.k8 t6)] h4) (fun t7 h8 => (kZ .neq t7 (.int .i64 0)).bind fun t9 => lG t9 ((fun (bK : kR) (bG : kT) => (fun (bL : kR) (bJ : kT) => some (.ret, [bK, bL, t7], bJ)) (.slice [] (.own (List.length bG))) (bG ++ [.front 0 0])) (.slice [] (.own (List.length h8))) (h8 ++ [.front 0 0])) ((kU 2 t0).bind fun t14 => (kV false 1 h8 t14).bind fun bM => (lN bM).bind fun bN => lE (pD 1 24 [(.slice [] .nil)] bN h8) fun bO bH => (kU 2 t0).bind fun bP => (kV false 1 bH bP).bind fun bQ => (lN bQ).bind fun bR => lE (pD 1 24 [(.slice [] .nil)] bR bH) fun bS bI => (mJ (I_ K (List.length bI)) ([t0, t3, t5, (.int .i64 0), bO, bS, (.bool true)], bI)).bind fun aB => (fun aK aD aE aF aR aS bF aI => Ex.lY aB.1 none (fun aX => Ex.inBlock 0 aX ((fun (a8 : kR) (aT : kT) => (fun (a_ : kR) (aJ : kT) => (kU 2 aK).bind fun bA => (kV false 1 aJ bA).bind fun bB => (lN bB).bind fun bC => (mJ (Ja K (List.length aJ)) ([aD, aE, aF, aR, aS, a8, a_, bC, (.int .i64 0)], aJ)).bind fun aA => (fun aL aN aP bD bE aG aH aV aW aU => Ex.lY aA.1 none (fun aZ => Ex.inBlock 8 aZ (some (.ret, [aG, aH, (.int .i64 0)], aU)) (fun a6 => some (a6, [aL, aN, aP], aU)))) (List.getD aA.2.1 0 .junk) (List.getD aA.2.1 1 .junk) (List.getD aA.2.1 2 .junk) (List.getD aA.2.1 3 .junk) (List.getD aA.2.1 4 .junk) (List.getD aA.2.1 5 .junk) (List.getD aA.2.1 6 .junk) (List.getD aA.2.1 7 .junk) (List.getD aA.2.1 8 .junk) aA.2.2) (.slice [] (.own (List.length aT))) (aT ++ [.front 0 0])) (.slice [] (.own (List.length aI))) (aI ++ [.front 0 0])) (fun aY => some (aY, [aD, aE, aF], aI)))) (List.getD aB.2.1 0 .junk) (List.getD aB.2.1 1 .junk) (List.getD aB.2.1 2 .junk) (List.getD aB.2.1 3 .junk) (List.getD aB.2.1 4 .junk) (List.getD aB.2.1 5 .junk) (List.getD aB.2.1 6 .junk) aB.2.2)) (fun _ _ => none)) (.slice [] (.own (List.length h2))) (h2 ++ [.front 0 0])) (.slice [] (.own (List.length h1))) (h1 ++ [.front 0 0])).bind fun aC => (fun aM aO aQ a7 => Ex.nV aC.1 (nE (List.length h0) (.tuple [aM, aO, aQ]) a7)) (List.getD aC.2.1 0 .junk) (List.getD aC.2.1 1 .junk) (List.getD aC.2.1 2 .junk) aC.2.2
theorem X7 (K : k9) (a0 : kR) (h0 : kT) : qQ Tryd.prog nC mJ K 27 [a0] h0 = m27 (mI nC K) a0 h0 := by kernel_rfl
noncomputable def m58 (K : k9) (a0 : kR) (h0 : kT) : Option (n_ × kT) :=
 (lE (nG 4 h0 a0) fun t0 h1 => (fun (t3 : kR) (h2 : kT) => (fun (t5 : kR) (h4 : kT) => (kU 0 t0).bind fun t6 => (kV false 1 h4 t6).bind fun t7 => (kZ .eql t7 (.int .i64 1)).bind fun t8 => (lG t8 ((kU 2 t0).bind fun t9 => (kV false 1 h4 t9).bind fun aN => lE (pY 1 1 [(.int .i64 0)] [(0, aN)] h4) fun aO aH => some (.normal, [t3, aO], aH)) ((kZ .eql t7 (.int .i64 2)).bind fun aP => (lG aP ((kU 2 t0).bind fun t14 => (kV false 1 h4 t14).bind fun aQ => (kU 3 t0).bind fun aR => (kV false 1 h4 aR).bind fun aS => lE (pY 2 1 [(.int .i64 0)] [(0, aQ), (1, aS)] h4) fun aT aI => some (.normal, [t3, aT], aI)) (some (.normal, [t3, t5], h4))).bind fun aE => (fun aA aC aJ => Ex.sO aE.1 (some (.normal, [aA, aC], aJ))) (List.getD aE.2.1 0 .junk) (List.getD aE.2.1 1 .junk) aE.2.2)).bind fun aF => (fun aG aD aK => Ex.sO aF.1 (k_ (K 120 [(kR.k8 aD), (kR.k8 (.func 121 [] []))] aK) (fun aU aL => some (.ret, [aU], aL)) (fun _ _ => none))) (List.getD aF.2.1 0 .junk) (List.getD aF.2.1 1 .junk) aF.2.2) (.slice [] (.own (List.length h2))) (h2 ++ [.front 0 0])) (.slice [] (.own (List.length h1))) (h1 ++ [.front 0 0])).bind fun Na => (fun aB aM => Ex.nV Na.1 (nE (List.length h0) aB aM)) (List.getD Na.2.1 0 .junk) Na.2.2
theorem Yk (K : k9) (a0 : kR) (h0 : kT) : qQ Tryd.prog nC mJ K 58 [a0] h0 = m58 (mI nC K) a0 h0 := by kernel_rfl
noncomputable def DK (K : k9) (m : Nat) (s : List kR × kT) : Option R :=
 (fun aD aB aC aE aF aA aG => (lN aB).bind fun aJ => (lN aC).bind fun aK => (kZ .lss aJ aK).bind fun aL => lG aL (lE (lP 1 1 [(.int .u64 0)] [(0, (.int .u64 0))] aG) fun aM aH => lE (mY 1 8 aH aB aM) fun aN aI => lC m .normal [aD, aN, aC, aE, aF, aA] aI) (lC m (.exit 2) [aD, aB, aC, aE, aF, aA] aG)) (List.getD s.1 0 .junk) (List.getD s.1 1 .junk) (List.getD s.1 2 .junk) (List.getD s.1 3 .junk) (List.getD s.1 4 .junk) (List.getD s.1 5 .junk) s.2
noncomputable def DL (K : k9) (m : Nat) (s : List kR × kT) : Option R :=
 (fun aF aD aG aH aE aB aC aA aI => (kZ .lss aA aC).bind fun aK => lG aK ((kY 1 aB aA).bind fun t49 => (kV false 1 aI t49).bind fun aL => (kY 1 aD aA).bind fun aM => (kV false 1 aI aM).bind fun aN => (kZ .or aN aL).bind fun aO => (kY 1 aD aA).bind fun aP => (lU 1 aI aP aO).bind fun aJ => (kZ .add aA (.int .i64 1)).bind fun aQ => lC m .normal [aF, aD, aG, aH, aE, aB, aC, aQ] aJ) (lC m (.exit 4) [aF, aD, aG, aH, aE, aB, aC, aA] aI)) (List.getD s.1 0 .junk) (List.getD s.1 1 .junk) (List.getD s.1 2 .junk) (List.getD s.1 3 .junk) (List.getD s.1 4 .junk) (List.getD s.1 5 .junk) (List.getD s.1 6 .junk) (List.getD s.1 7 .junk) s.2
noncomputable def DM (K : k9) (m : Nat) (s : List kR × kT) : Option R :=
 (fun aW aX aU aV aA aY => (kZ .lss aA aV).bind fun bG => lG bG (((kY 1 aU aA).bind fun bH => (kV false 1 aY bH).bind fun bI => (mJ (DK K (List.length aY)) ([aW, aX, bI, aU, aV, aA], aY)).bind fun aF => (fun aG aJ aM aN aQ aB aZ => Ex.lY aF.1 none (fun bB => Ex.inBlock 2 bB ((lN aM).bind fun bJ => (mJ (DL K (List.length aZ)) ([aG, aJ, aN, aQ, aB, aM, bJ, (.int .i64 0)], aZ)).bind fun aE => (fun aH aK aO aR aC a6 a7 a8 a_ => Ex.lY aE.1 none (fun bD => Ex.inBlock 4 bD (some (.normal, [aH, aK, aO, aR, aC], a_)) (fun bE => some (bE, [aH, aK, aO, aR, aC], a_)))) (List.getD aE.2.1 0 .junk) (List.getD aE.2.1 1 .junk) (List.getD aE.2.1 2 .junk) (List.getD aE.2.1 3 .junk) (List.getD aE.2.1 4 .junk) (List.getD aE.2.1 5 .junk) (List.getD aE.2.1 6 .junk) (List.getD aE.2.1 7 .junk) aE.2.2) (fun bC => some (bC, [aG, aJ, aN, aQ, aB], aZ)))) (List.getD aF.2.1 0 .junk) (List.getD aF.2.1 1 .junk) (List.getD aF.2.1 2 .junk) (List.getD aF.2.1 3 .junk) (List.getD aF.2.1 4 .junk) (List.getD aF.2.1 5 .junk) aF.2.2).bind fun aT => (fun aI aL aP aS aD bA => Ex.inBlock 1 aT.1 ((kZ .add aD (.int .i64 1)).bind fun bK => lC m .normal [aI, aL, aP, aS, bK] bA) (fun bF => lC m bF [aI, aL, aP, aS, aD] bA)) (List.getD aT.2.1 0 .junk) (List.getD aT.2.1 1 .junk) (List.getD aT.2.1 2 .junk) (List.getD aT.2.1 3 .junk) (List.getD aT.2.1 4 .junk) aT.2.2) (lC m (.exit 0) [aW, aX, aU, aV, aA] aY)) (List.getD s.1 0 .junk) (List.getD s.1 1 .junk) (List.getD s.1 2 .junk) (List.getD s.1 3 .junk) (List.getD s.1 4 .junk) s.2
noncomputable def m59 (K : k9) (a0 : kR) (h0 : kT) : Option (n_ × kT) :=
 ((fun (t1 : kR) (h0 : kT) => (fun (t3 : kR) (h2 : kT) => (lN a0).bind fun t4 => (mJ (DM K (List.length h2)) ([t1, t3, a0, t4, (.int .i64 0)], h2)).bind fun aA => (fun aB aD aH aI aF aG => Ex.lY aA.1 none (fun aJ => Ex.inBlock 0 aJ (some (.ret, [aD], aG)) (fun aK => some (aK, [aB], aG)))) (List.getD aA.2.1 0 .junk) (List.getD aA.2.1 1 .junk) (List.getD aA.2.1 2 .junk) (List.getD aA.2.1 3 .junk) (List.getD aA.2.1 4 .junk) aA.2.2) (.slice [] (.own (List.length h0))) (h0 ++ [.front 0 0])) (.slice [] (.own (List.length h0))) (h0 ++ [.front 0 0])).bind fun aE => (fun aC aL => Ex.nV aE.1 (some (.ret aC, aL))) (List.getD aE.2.1 0 .junk) aE.2.2
theorem Yl (K : k9) (a0 : kR) (h0 : kT) : qQ Tryd.prog nC mJ K 59 [a0] h0 = m59 (mI nC K) a0 h0 := by kernel_rfl
noncomputable def m60 (K : k9) (a0 a1 : kR) (h0 : kT) : Option (n_ × kT) :=
 (lE (nG 4 h0 a0) fun t0 h1 => (fun (t3 : kR) (h2 : kT) => (kU 0 t0).bind fun t4 => (kV false 1 h2 t4).bind fun t5 => (kZ .eql t5 (.int .i64 2)).bind fun t6 => (kS true t6 ((kU 1 t0).bind fun t7 => kW t7 h2) (kW (.tuple []) h2)).bind (kX (fun t8 h9 => (kS true t6 ((kV false 1 h9 t8).bind fun aG => kW aG h9) (kW (.tuple []) h9)).bind (kX (fun aH aD => (kS true t6 ((kZ .geq aH (.int .i64 0)).bind fun aI => kW aI aD) (kW (.tuple []) aD)).bind (kX (fun t14 aB => (lV t6 t14 (.bool false)).bind fun aJ => lG aJ ((kU 1 t0).bind fun aK => (kV false 1 aB aK).bind fun aL => k_ (K 122 [a1, aL] aB) (fun aM aE => some (.ret, [aM], aE)) (fun _ _ => none)) (some (.ret, [a1], aB))) (fun _ _ => none))) (fun _ _ => none))) (fun _ _ => none))) (.slice [] (.own (List.length h1))) (h1 ++ [.front 0 0])).bind fun aC => (fun aA aF => Ex.nV aC.1 (some (.ret aA, aF))) (List.getD aC.2.1 0 .junk) aC.2.2
theorem Ym (K : k9) (a0 a1 : kR) (h0 : kT) : qQ Tryd.prog nC mJ K 60 [a0, a1] h0 = m60 (mI nC K) a0 a1 h0 := by kernel_rfl
noncomputable def Cm (K : k9) (m : Nat) (s : List kR × kT) : Option R :=
 (fun aD aE aB aC aA aL => (kZ .lss aA aC).bind fun aP => lG aP ((kY 1 aB aA).bind fun aQ => (kV false 1 aL aQ).bind fun aM => (kZ .geq aM (.int .i64 0)).bind fun aR => (lG aR (k_ (K 122 [aD, aM] aL) (fun aS aN => some (.normal, [aS, aE, aB, aC, aA], aN)) (fun _ _ => none)) (some (.normal, [aD, aE, aB, aC, aA], aL))).bind fun aF => (fun aJ aK aG aH aI aO => Ex.sO aF.1 ((kZ .add aI (.int .i64 1)).bind fun t49 => lC m .normal [aJ, aK, aG, aH, t49] aO)) (List.getD aF.2.1 0 .junk) (List.getD aF.2.1 1 .junk) (List.getD aF.2.1 2 .junk) (List.getD aF.2.1 3 .junk) (List.getD aF.2.1 4 .junk) aF.2.2) (lC m (.exit 0) [aD, aE, aB, aC, aA] aL)) (List.getD s.1 0 .junk) (List.getD s.1 1 .junk) (List.getD s.1 2 .junk) (List.getD s.1 3 .junk) (List.getD s.1 4 .junk) s.2
noncomputable def m61 (K : k9) (a0 a1 : kR) (h0 : kT) : Option (n_ × kT) :=
 (lE (nG 6 h0 a0) fun t0 h1 => (fun (t3 : kR) (h2 : kT) => (kV true 6 h2 t0).bind fun t4 => k_ (K 73 [(kR.k8 t4)] h2) (fun t5 h6 => (kS true t5 ((kU 1 t0).bind fun t7 => kW t7 h6) (kW (.tuple []) h6)).bind (kX (fun t8 h9 => (kS true t5 ((kV false 1 h9 t8).bind fun aV => kW aV h9) (kW (.tuple []) h9)).bind (kX (fun aW aN => (kS true t5 ((kZ .geq aW (.int .i64 0)).bind fun aX => kW aX aN) (kW (.tuple []) aN)).bind (kX (fun t14 aI => (lV t5 t14 (.bool false)).bind fun aY => (lG aY ((kU 1 t0).bind fun aZ => (kV false 1 aI aZ).bind fun a6 => k_ (K 123 [(kR.k8 a1), (kR.k8 a6)] aI) (fun a_ aT => some (.normal, [a1, t0, t3], aT)) (fun _ _ => none)) (some (.normal, [a1, t0, t3], aI))).bind fun aB => (fun aC aE aF aO => Ex.sO aB.1 ((kV true 6 aO aE).bind fun a7 => k_ (K 74 [(kR.k8 a7)] aO) (fun t27 aP => (lN t27).bind fun a8 => (mJ (Cm K (List.length aP)) ([aC, aF, t27, a8, (.int .i64 0)], aP)).bind fun aA => (fun aD aG aK aL aM aQ => Ex.lY aA.1 none (fun aR => Ex.inBlock 0 aR (some (.ret, [aD], aQ)) (fun aS => some (aS, [aG], aQ)))) (List.getD aA.2.1 0 .junk) (List.getD aA.2.1 1 .junk) (List.getD aA.2.1 2 .junk) (List.getD aA.2.1 3 .junk) (List.getD aA.2.1 4 .junk) aA.2.2) (fun _ _ => none))) (List.getD aB.2.1 0 .junk) (List.getD aB.2.1 1 .junk) (List.getD aB.2.1 2 .junk) aB.2.2) (fun _ _ => none))) (fun _ _ => none))) (fun _ _ => none))) (fun _ _ => none)) (.slice [] (.own (List.length h1))) (h1 ++ [.front 0 0])).bind fun aJ => (fun aH aU => Ex.nV aJ.1 (some (.ret aH, aU))) (List.getD aJ.2.1 0 .junk) aJ.2.2
theorem Yn (K : k9) (a0 a1 : kR) (h0 : kT) : qQ Tryd.prog nC mJ K 61 [a0, a1] h0 = m61 (mI nC K) a0 a1 h0 := by kernel_rfl
noncomputable def m62 (K : k9) (a0 a1 : kR) (h0 : kT) : Option (n_ × kT) :=
 (k_ (K 63 [(kR.k8 a0)] h0) (fun t0 h1 => k_ (K 63 [(kR.k8 a1)] h1) (fun t2 h3 => k_ (K 124 [(kR.k8 t0), (kR.k8 t2)] h3) (fun t4 h5 => some (.ret, [t4], h5)) (fun _ _ => none)) (fun _ _ => none)) (fun _ _ => none)).bind fun r6 => (fun aA h8 => Ex.nV r6.1 (nE (List.length h0) aA h8)) (List.getD r6.2.1 0 .junk) r6.2.2
theorem Yo (K : k9) (a0 a1 : kR) (h0 : kT) : qQ Tryd.prog nC mJ K 62 [a0, a1] h0 = m62 (mI nC K) a0 a1 h0 := by kernel_rfl
noncomputable def DN (K : k9) (m : Nat) (s : List kR × kT) : Option R :=
 (fun aC aD aB aA aE aF aG aH => (kZ .neq aA (.int .u64 0)).bind fun aL => lG aL ((kZ .mul (.int .i64 64) aB).bind fun aM => k_ (K 125 [(kR.k8 aA)] aH) (fun aN aI => (kZ .add aM aN).bind fun aO => lE (lP 1 1 [(.int .i64 0)] [(0, aO)] aI) fun t27 aJ => lE (nQ 1 8 aJ aD t27) fun aP aK => (kZ .sub aA (.int .u64 1)).bind fun aQ => (kZ .and aA aQ).bind fun aR => lC m .normal [aC, aP, aB, aR, aE, aF, aG] aK) (fun _ _ => none)) (lC m (.exit 2) [aC, aD, aB, aA, aE, aF, aG] aH)) (List.getD s.1 0 .junk) (List.getD s.1 1 .junk) (List.getD s.1 2 .junk) (List.getD s.1 3 .junk) (List.getD s.1 4 .junk) (List.getD s.1 5 .junk) (List.getD s.1 6 .junk) s.2
noncomputable def DO (K : k9) (m : Nat) (s : List kR × kT) : Option R :=
 (fun aO aP aM aN aA aQ => (kZ .lss aA aN).bind fun aY => lG aY (((kY 1 aM aA).bind fun aZ => (kV false 1 aQ aZ).bind fun a6 => (mJ (DN K (List.length aQ)) ([aO, aP, aA, a6, aM, aN, aA], aQ)).bind fun aB => (fun aC aE aT aU aG aI aK aR => Ex.lY aB.1 none (fun aV => Ex.inBlock 2 aV (some (.normal, [aC, aE, aG, aI, aK], aR)) (fun aW => some (aW, [aC, aE, aG, aI, aK], aR)))) (List.getD aB.2.1 0 .junk) (List.getD aB.2.1 1 .junk) (List.getD aB.2.1 2 .junk) (List.getD aB.2.1 3 .junk) (List.getD aB.2.1 4 .junk) (List.getD aB.2.1 5 .junk) (List.getD aB.2.1 6 .junk) aB.2.2).bind fun CH => (fun aD aF aH aJ aL aS => Ex.inBlock 1 CH.1 ((kZ .add aL (.int .i64 1)).bind fun a7 => lC m .normal [aD, aF, aH, aJ, a7] aS) (fun aX => lC m aX [aD, aF, aH, aJ, aL] aS)) (List.getD CH.2.1 0 .junk) (List.getD CH.2.1 1 .junk) (List.getD CH.2.1 2 .junk) (List.getD CH.2.1 3 .junk) (List.getD CH.2.1 4 .junk) CH.2.2) (lC m (.exit 0) [aO, aP, aM, aN, aA] aQ)) (List.getD s.1 0 .junk) (List.getD s.1 1 .junk) (List.getD s.1 2 .junk) (List.getD s.1 3 .junk) (List.getD s.1 4 .junk) s.2
noncomputable def m63 (K : k9) (a0 : kR) (h0 : kT) : Option (n_ × kT) :=
 ((fun (t1 : kR) (h0 : kT) => (fun (t3 : kR) (h2 : kT) => (lN a0).bind fun t4 => (mJ (DO K (List.length h2)) ([t1, t3, a0, t4, (.int .i64 0)], h2)).bind fun aA => (fun aB aD aG aH aI aF => Ex.lY aA.1 none (fun aJ => Ex.inBlock 0 aJ (some (.ret, [aD], aF)) (fun aK => some (aK, [aB], aF)))) (List.getD aA.2.1 0 .junk) (List.getD aA.2.1 1 .junk) (List.getD aA.2.1 2 .junk) (List.getD aA.2.1 3 .junk) (List.getD aA.2.1 4 .junk) aA.2.2) (.slice [] (.own (List.length h0))) (h0 ++ [.front 0 0])) (.slice [] (.own (List.length h0))) (h0 ++ [.front 0 0])).bind fun aE => (fun aC aL => Ex.nV aE.1 (nE (List.length h0) aC aL)) (List.getD aE.2.1 0 .junk) aE.2.2
theorem Yp (K : k9) (a0 : kR) (h0 : kT) : qQ Tryd.prog nC mJ K 63 [a0] h0 = m63 (mI nC K) a0 h0 := by kernel_rfl
noncomputable def zQ (K : k9) (m : Nat) (s : List kR × kT) : Option R :=
 (fun aB aC aF aD aA aM => (lN aB).bind fun aR => (kZ .lss aA aR).bind fun aS => lG aS ((kY 1 aB aA).bind fun t14 => (kV false 1 aM t14).bind fun aO => (qC aC).bind fun aL => k_ (vT nC K aL.1 (rT nC aL.1 (aL.2.1 ++ [aO] ++ aL.2.2)) aM) (fun aT aN => (yF .not aT).bind fun aU => (lG aU ((kY 1 aB aD).bind fun aV => (lU 1 aN aV aO).bind fun aP => (kZ .add aD (.int .i64 1)).bind fun aW => some (.normal, [aB, aC, aF, aW, aA], aP)) (some (.normal, [aB, aC, aF, aD, aA], aN))).bind fun aE => (fun aG aH aI aJ aK aQ => Ex.sO aE.1 ((kZ .add aK (.int .i64 1)).bind fun t30 => lC m .normal [aG, aH, aI, aJ, t30] aQ)) (List.getD aE.2.1 0 .junk) (List.getD aE.2.1 1 .junk) (List.getD aE.2.1 2 .junk) (List.getD aE.2.1 3 .junk) (List.getD aE.2.1 4 .junk) aE.2.2) (fun _ _ => none)) (lC m (.exit 0) [aB, aC, aF, aD, aA] aM)) (List.getD s.1 0 .junk) (List.getD s.1 1 .junk) (List.getD s.1 2 .junk) (List.getD s.1 3 .junk) (List.getD s.1 4 .junk) s.2
noncomputable def Ui (K : k9) (a0 a1 : kR) (h0 : kT) : Option (n_ × kT) :=
 ((fun (t1 : kR) (h0 : kT) => k_ (K 174 [(kR.k8 a0), (kR.k8 a1)] h0) (fun t2 h3 => (kZ .eql t2 (.int .i64 (-1))).bind fun t4 => lG t4 (some (.ret, [a0], h3)) ((kZ .add t2 (.int .i64 1)).bind fun t5 => (mJ (zQ K (List.length h3)) ([a0, a1, t1, t2, t5], h3)).bind fun aC => (fun aA aH aD aB aI aG => Ex.lY aC.1 none (fun aJ => Ex.inBlock 0 aJ ((nK 1 aA (some aB) none).bind fun aN => (B5 1 [(.int .i64 0)] aG aN).bind fun aL => (nK 1 aA none (some aB)).bind fun aO => some (.ret, [aO], aL)) (fun aK => some (aK, [aD], aG)))) (List.getD aC.2.1 0 .junk) (List.getD aC.2.1 1 .junk) (List.getD aC.2.1 2 .junk) (List.getD aC.2.1 3 .junk) (List.getD aC.2.1 4 .junk) aC.2.2)) (fun _ _ => none)) (.slice [] (.own (List.length h0))) (h0 ++ [.front 0 0])).bind fun aF => (fun aE aM => Ex.nV aF.1 (nE (List.length h0) aE aM)) (List.getD aF.2.1 0 .junk) aF.2.2
theorem I6 (K : k9) (a0 a1 : kR) (h0 : kT) : qQ Tryd.prog nC mJ K 120 [a0, a1] h0 = Ui (mI nC K) a0 a1 h0 := by kernel_rfl
noncomputable def adN (K : k9) (a0 : kR) (h0 : kT) : Option (n_ × kT) :=
 ((kZ .eql a0 (.int .i64 (-1))).bind fun t0 => some (.ret, [t0], h0)).bind fun r1 => (fun aA h3 => Ex.nV r1.1 (nE (List.length h0) aA h3)) (List.getD r1.2.1 0 .junk) r1.2.2
theorem Uj (K : k9) (a0 : kR) (h0 : kT) : qQ Tryd.prog nC mJ K 121 [a0] h0 = adN (mI nC K) a0 h0 := by kernel_rfl
noncomputable def Bq (K : k9) (m : Nat) (s : List kR × kT) : Option R :=
 (fun aA aB aC h5 => (kZ .quo aB (.int .i64 64)).bind fun t6 => (lN aA).bind fun t7 => (kZ .geq t6 t7).bind fun t8 => lG t8 (lE (lP 1 1 [(.int .u64 0)] [(0, (.int .u64 0))] h5) fun t9 aD => lE (mY 1 8 aD aA t9) fun aF aE => lC m .normal [aF, aB, aC] aE) (lC m (.exit 0) [aA, aB, aC] h5)) (List.getD s.1 0 .junk) (List.getD s.1 1 .junk) (List.getD s.1 2 .junk) s.2
noncomputable def adO (K : k9) (a0 a1 : kR) (h0 : kT) : Option (n_ × kT) :=
 ((fun (t1 : kR) (h0 : kT) => (mJ (Bq K (List.length h0)) ([a0, a1, t1], h0)).bind fun aC => (fun aA aB aD aF => Ex.lY aC.1 none (fun aI => Ex.inBlock 0 aI ((kZ .quo aB (.int .i64 64)).bind fun aH => (kY 1 aA aH).bind fun aM => (kV false 1 aF aM).bind fun aN => (kZ .rem aB (.int .i64 64)).bind fun aO => (kZ .shl (.int .u64 1) aO).bind fun aP => (kZ .or aN aP).bind fun aQ => (kY 1 aA aH).bind fun aR => (lU 1 aF aR aQ).bind fun aK => some (.ret, [aA], aK)) (fun aJ => some (aJ, [aD], aF)))) (List.getD aC.2.1 0 .junk) (List.getD aC.2.1 1 .junk) (List.getD aC.2.1 2 .junk) aC.2.2) (.slice [] (.own (List.length h0))) (h0 ++ [.front 0 0])).bind fun aG => (fun aE aL => Ex.nV aG.1 (some (.ret aE, aL))) (List.getD aG.2.1 0 .junk) aG.2.2
theorem Uk (K : k9) (a0 a1 : kR) (h0 : kT) : qQ Tryd.prog nC mJ K 122 [a0, a1] h0 = adO (mI nC K) a0 a1 h0 := by kernel_rfl
noncomputable def adP (K : k9) (a0 a1 : kR) (h0 : kT) : Option (n_ × kT) :=
 ((kZ .quo a1 (.int .i64 64)).bind fun t0 => (lN a0).bind fun t1 => (kZ .lss t0 t1).bind fun t2 => (lG t2 ((kZ .quo a1 (.int .i64 64)).bind fun t3 => (kY 1 a0 t3).bind fun t4 => (kV false 1 h0 t4).bind fun t5 => (kZ .rem a1 (.int .i64 64)).bind fun t6 => (kZ .shl (.int .u64 1) t6).bind fun t7 => (kZ .andNot t5 t7).bind fun t8 => (kY 1 a0 t3).bind fun t9 => (lU 1 h0 t9 t8).bind fun aC => some (.normal, [], aC)) (some (.normal, [], h0))).bind fun aA => (fun aD => Ex.sO aA.1 (some (.normal, [], aD)))  aA.2.2).bind fun aB => (fun aE => Ex.nV aB.1 (nE (List.length h0) (.tuple []) aE))  aB.2.2
theorem Ul (K : k9) (a0 a1 : kR) (h0 : kT) : qQ Tryd.prog nC mJ K 123 [a0, a1] h0 = adP (mI nC K) a0 a1 h0 := by kernel_rfl
noncomputable def C8 (K : k9) (m : Nat) (s : List kR × kT) : Option R :=
 (fun aC aD aE aB aA h9 => (kZ .lss aA aB).bind fun aF => lG aF ((kY 1 aC aA).bind fun aG => (kV false 1 h9 aG).bind fun aH => (kY 1 aD aA).bind fun aI => (kV false 1 h9 aI).bind fun t14 => (kZ .neq aH t14).bind fun aJ => lG aJ (lC m .ret [aC, aD, (.bool false), aB, aA] h9) ((kZ .add aA (.int .i64 1)).bind fun aK => lC m .normal [aC, aD, aE, aB, aK] h9)) (lC m (.exit 0) [aC, aD, aE, aB, aA] h9)) (List.getD s.1 0 .junk) (List.getD s.1 1 .junk) (List.getD s.1 2 .junk) (List.getD s.1 3 .junk) (List.getD s.1 4 .junk) s.2
noncomputable def XW (K : k9) (a0 a1 : kR) (h0 : kT) : Option (n_ × kT) :=
 ((lN a0).bind fun t0 => (lN a1).bind fun t1 => (kZ .neq t0 t1).bind fun t2 => lG t2 (some (.ret, [(.bool false)], h0)) ((lN a0).bind fun t3 => (mJ (C8 K (List.length h0)) ([a0, a1, (.bool false), t3, (.int .i64 0)], h0)).bind fun aA => (fun aG aH aB aD aE aF => Ex.lY aA.1 none (fun aI => Ex.inBlock 0 aI (some (.ret, [(.bool true)], aF)) (fun aJ => some (aJ, [aB], aF)))) (List.getD aA.2.1 0 .junk) (List.getD aA.2.1 1 .junk) (List.getD aA.2.1 2 .junk) (List.getD aA.2.1 3 .junk) (List.getD aA.2.1 4 .junk) aA.2.2)).bind fun r26 => (fun aC aK => Ex.nV r26.1 (nE (List.length h0) aC aK)) (List.getD r26.2.1 0 .junk) r26.2.2
theorem Um (K : k9) (a0 a1 : kR) (h0 : kT) : qQ Tryd.prog nC mJ K 124 [a0, a1] h0 = XW (mI nC K) a0 a1 h0 := by kernel_rfl
noncomputable def Un (K : k9) (a0 : kR) (h0 : kT) : Option (n_ × kT) :=
 ((kZ .eql a0 (.int .u64 0)).bind fun t0 => lG t0 (some (.ret, [(.int .i64 64)], h0)) ((yF .neg a0).bind fun t1 => (kZ .and a0 t1).bind fun t2 => (kZ .mul t2 (.int .u64 285870213051353865)).bind fun t3 => (kZ .shr t3 (.int .u64 58)).bind fun t4 => (wO 64 1 (.pptr u6) t4).bind fun t5 => (kV false 1 h0 t5).bind fun t6 => (Az .i64 t6).bind fun t7 => some (.ret, [t7], h0))).bind fun r8 => (fun aA aB => Ex.nV r8.1 (nE (List.length h0) aA aB)) (List.getD r8.2.1 0 .junk) r8.2.2
theorem Uo (K : k9) (a0 : kR) (h0 : kT) : qQ Tryd.prog nC mJ K 125 [a0] h0 = Un (mI nC K) a0 h0 := by kernel_rfl
noncomputable def wA (K : k9) (m : Nat) (s : List kR × kT) : Option R :=
 (fun aB aC aE aD aA h6 => (kZ .lss aA aD).bind fun t7 => lG t7 ((kY 1 aB aA).bind fun t8 => (kV false 1 h6 t8).bind fun t9 => (qC aC).bind fun aF => k_ (vT nC K aF.1 (rT nC aF.1 (aF.2.1 ++ [t9] ++ aF.2.2)) h6) (fun aH aG => lG aH (lC m .ret [aB, aC, aA, aD, aA] aG) ((kZ .add aA (.int .i64 1)).bind fun aI => lC m .normal [aB, aC, aE, aD, aI] aG)) (fun _ _ => none)) (lC m (.exit 0) [aB, aC, aE, aD, aA] h6)) (List.getD s.1 0 .junk) (List.getD s.1 1 .junk) (List.getD s.1 2 .junk) (List.getD s.1 3 .junk) (List.getD s.1 4 .junk) s.2
noncomputable def X4 (K : k9) (a0 a1 : kR) (h0 : kT) : Option (n_ × kT) :=
 ((lN a0).bind fun t0 => (mJ (wA K (List.length h0)) ([a0, a1, (.int .i64 0), t0, (.int .i64 0)], h0)).bind fun aA => (fun aF aG aB aH aI aE => Ex.lY aA.1 none (fun aJ => Ex.inBlock 0 aJ (some (.ret, [(.int .i64 (-1))], aE)) (fun aK => some (aK, [aB], aE)))) (List.getD aA.2.1 0 .junk) (List.getD aA.2.1 1 .junk) (List.getD aA.2.1 2 .junk) (List.getD aA.2.1 3 .junk) (List.getD aA.2.1 4 .junk) aA.2.2).bind fun aD => (fun aC aL => Ex.nV aD.1 (nE (List.length h0) aC aL)) (List.getD aD.2.1 0 .junk) aD.2.2
theorem N2 (K : k9) (a0 a1 : kR) (h0 : kT) : qQ Tryd.prog nC mJ K 174 [a0, a1] h0 = X4 (mI nC K) a0 a1 h0 := by kernel_rfl
noncomputable def m65 (K : k9) (a0 a1 a2 : kR) (h0 : kT) : Option (n_ × kT) :=
 (lE (nG 5 h0 a0) fun t0 h1 => (kV true 5 h1 t0).bind fun t2 => lE (lP 1 1 [(.int .i64 0)] [(0, a1)] h1) fun t3 h4 => k_ (K 130 [(kR.k8 t2), (kR.k8 t3), (kR.k8 a2)] h4) (fun t5 h6 => some (.ret, [t5], h6)) (fun _ _ => none)).bind fun r7 => (fun aA h9 => Ex.nV r7.1 (nE (List.length h0) aA h9)) (List.getD r7.2.1 0 .junk) r7.2.2
theorem Yr (K : k9) (a0 a1 a2 : kR) (h0 : kT) : qQ Tryd.prog nC mJ K 65 [a0, a1, a2] h0 = m65 (mI nC K) a0 a1 a2 h0 := by kernel_rfl
noncomputable def m66 (K : k9) (a0 a1 a2 : kR) (h0 : kT) : Option (n_ × kT) :=
 (lE (nG 5 h0 a0) fun t0 h1 => (kV true 5 h1 t0).bind fun t2 => (kU 2 t0).bind fun t3 => (kV false 1 h1 t3).bind fun t4 => (kY 5 t4 a1).bind fun t5 => (kU 1 t5).bind fun t6 => (kV true 4 h1 t6).bind fun t7 => k_ (K 131 [(kR.k8 t7)] (tN (mS [0] [t0]) h1)) (fun t8 h9 => k_ (K 130 [(kR.k8 t2), (kR.k8 t8), (kR.k8 a2)] (nT (mS [0] [t0]) h1 h9)) (fun aE aC => some (.ret, [aE], aC)) (fun _ _ => none)) (fun _ _ => none)).bind fun aB => (fun aA aD => Ex.nV aB.1 (nE (List.length h0) aA aD)) (List.getD aB.2.1 0 .junk) aB.2.2
theorem Ys (K : k9) (a0 a1 a2 : kR) (h0 : kT) : qQ Tryd.prog nC mJ K 66 [a0, a1, a2] h0 = m66 (mI nC K) a0 a1 a2 h0 := by kernel_rfl
noncomputable def zR (K : k9) (m : Nat) (s : List kR × kT) : Option R :=
 (fun aC aA aE aB aD aM => (lN aD).bind fun a8 => (kZ .gtr a8 (.int .i64 0)).bind fun a_ => lG a_ (((lN aD).bind fun bA => (kZ .sub bA (.int .i64 1)).bind fun bB => (kY 1 aD bB).bind fun bC => (kV false 1 aM bC).bind fun aT => (lN aD).bind fun bD => (kZ .sub bD (.int .i64 1)).bind fun bE => (nK 1 aD none (some bE)).bind fun aU => (kY 1 aB aT).bind fun bF => (kV false 1 aM bF).bind fun t27 => lG t27 (some ((.exit 1), [aC, aA, aE, aB, aU], aM)) ((kY 1 aB aT).bind fun bG => (lU 1 aM bG (.bool true)).bind fun aV => (kU 2 aA).bind fun t30 => (kV false 1 aV t30).bind fun bH => (kY 5 bH aT).bind fun bI => (kV true 5 aV bI).bind fun bJ => k_ (K 158 [(kR.k8 bJ), (kR.k8 (.int .i64 0)), (kR.k8 aC)] aV) (fun aX aN => (kZ .eql aX (.int .i64 1)).bind fun bK => lG bK (some (.ret, [aC, aA, (.bool true), aB, aU], aN)) ((kZ .eql aX (.int .i64 0)).bind fun bL => (lG bL ((kU 2 aA).bind fun bM => (kV false 1 aN bM).bind fun bN => (kY 5 bN aT).bind fun bO => (kU 1 bO).bind fun bP => (kV true 4 aN bP).bind fun bQ => k_ (K 131 [(kR.k8 bQ)] aN) (fun bR aZ => lE (mY 1 8 aZ aU bR) fun bS a6 => some (.normal, [aC, aA, aE, aB, bS], a6)) (fun _ _ => none)) (some (.normal, [aC, aA, aE, aB, aU], aN))).bind fun aK => (fun aO aP aQ aR aS a7 => Ex.sO aK.1 (some (.normal, [aO, aP, aQ, aR, aS], a7))) (List.getD aK.2.1 0 .junk) (List.getD aK.2.1 1 .junk) (List.getD aK.2.1 2 .junk) (List.getD aK.2.1 3 .junk) (List.getD aK.2.1 4 .junk) aK.2.2)) (fun _ _ => none))).bind fun aL => (fun aF aG aH aI aJ aW => Ex.inBlock 1 aL.1 (lC m .normal [aF, aG, aH, aI, aJ] aW) (fun aY => lC m aY [aF, aG, aH, aI, aJ] aW)) (List.getD aL.2.1 0 .junk) (List.getD aL.2.1 1 .junk) (List.getD aL.2.1 2 .junk) (List.getD aL.2.1 3 .junk) (List.getD aL.2.1 4 .junk) aL.2.2) (lC m (.exit 0) [aC, aA, aE, aB, aD] aM)) (List.getD s.1 0 .junk) (List.getD s.1 1 .junk) (List.getD s.1 2 .junk) (List.getD s.1 3 .junk) (List.getD s.1 4 .junk) s.2
noncomputable def XX (K : k9) (a0 a1 a2 : kR) (h0 : kT) : Option (n_ × kT) :=
 (lE (nG 5 h0 a0) fun t0 h1 => (kU 2 t0).bind fun t2 => (kV false 1 h1 t2).bind fun t3 => (lN t3).bind fun t4 => lE (pD 1 1 [(.bool false)] t4 h1) fun t5 h6 => lE (pY 0 1 [(.int .i64 0)] [] h6) fun t7 h8 => lE (mY 1 8 h8 t7 a1) fun t9 aE => (mJ (zR K (List.length aE)) ([a2, t0, (.bool false), t5, t9], aE)).bind fun aA => (fun aG aH aB aI aJ aF => Ex.lY aA.1 none (fun aK => Ex.inBlock 0 aK (some (.ret, [(.bool false)], aF)) (fun aL => some (aL, [aB], aF)))) (List.getD aA.2.1 0 .junk) (List.getD aA.2.1 1 .junk) (List.getD aA.2.1 2 .junk) (List.getD aA.2.1 3 .junk) (List.getD aA.2.1 4 .junk) aA.2.2).bind fun aD => (fun aC aM => Ex.nV aD.1 (nE (List.length h0) aC aM)) (List.getD aD.2.1 0 .junk) aD.2.2
theorem Ut (K : k9) (a0 a1 a2 : kR) (h0 : kT) : qQ Tryd.prog nC mJ K 130 [a0, a1, a2] h0 = XX (mI nC K) a0 a1 a2 h0 := by kernel_rfl
noncomputable def Rl (K : k9) (a0 : kR) (h0 : kT) : Option (n_ × kT) :=
 (lE (nG 4 h0 a0) fun t0 h1 => (fun (t3 : kR) (h2 : kT) => (fun (t5 : kR) (h4 : kT) => (kU 0 t0).bind fun t6 => (kV false 1 h4 t6).bind fun t7 => (kZ .eql t7 (.int .i64 1)).bind fun t8 => (kS false t8 ((kU 0 t0).bind fun t9 => kW t9 h4) (kW (.tuple []) h4)).bind (kX (fun a7 aJ => (kS false t8 ((kV false 1 aJ a7).bind fun a8 => kW a8 aJ) (kW (.tuple []) aJ)).bind (kX (fun a_ aQ => (kS false t8 ((kZ .eql a_ (.int .i64 2)).bind fun bA => kW bA aQ) (kW (.tuple []) aQ)).bind (kX (fun bB aR => (lV t8 (.bool true) bB).bind fun aH => (kS true aH ((kU 2 t0).bind fun bC => kW bC aR) (kW (.tuple []) aR)).bind (kX (fun bD aK => (kS true aH ((kV false 1 aK bD).bind fun bE => kW bE aK) (kW (.tuple []) aK)).bind (kX (fun bF aS => (kS true aH ((kZ .geq bF (.int .i64 0)).bind fun bG => kW bG aS) (kW (.tuple []) aS)).bind (kX (fun bH aL => (lV aH bH (.bool false)).bind fun bI => (lG bI ((kU 2 t0).bind fun bJ => (kV false 1 aL bJ).bind fun t30 => lE (lP 1 1 [(.int .i64 0)] [(0, t30)] aL) fun bK aV => lE (nQ 1 8 aV t5 bK) fun bL aW => some (.normal, [t0, t3, bL], aW)) (some (.normal, [t0, t3, t5], aL))).bind fun aD => (fun aA aB aC aM => Ex.sO aD.1 ((kU 0 aA).bind fun bM => (kV false 1 aM bM).bind fun bN => (kZ .eql bN (.int .i64 2)).bind fun aI => (kS true aI ((kU 3 aA).bind fun bO => kW bO aM) (kW (.tuple []) aM)).bind (kX (fun bP aN => (kS true aI ((kV false 1 aN bP).bind fun bQ => kW bQ aN) (kW (.tuple []) aN)).bind (kX (fun bR aT => (kS true aI ((kZ .geq bR (.int .i64 0)).bind fun t49 => kW t49 aT) (kW (.tuple []) aT)).bind (kX (fun bS aO => (lV aI bS (.bool false)).bind fun bT => (lG bT ((kU 3 aA).bind fun bU => (kV false 1 aO bU).bind fun bV => lE (lP 1 1 [(.int .i64 0)] [(0, bV)] aO) fun bW aX => lE (nQ 1 8 aX aC bW) fun bX aY => some (.normal, [aB, bX], aY)) (some (.normal, [aB, aC], aO))).bind fun aG => (fun aU aF aZ => Ex.sO aG.1 (some (.ret, [aF], aZ))) (List.getD aG.2.1 0 .junk) (List.getD aG.2.1 1 .junk) aG.2.2) (fun _ _ => none))) (fun _ _ => none))) (fun _ _ => none)))) (List.getD aD.2.1 0 .junk) (List.getD aD.2.1 1 .junk) (List.getD aD.2.1 2 .junk) aD.2.2) (fun _ _ => none))) (fun _ _ => none))) (fun _ _ => none))) (fun _ _ => none))) (fun _ _ => none))) (fun _ _ => none))) (.slice [] (.own (List.length h2))) (h2 ++ [.front 0 0])) (.slice [] (.own (List.length h1))) (h1 ++ [.front 0 0])).bind fun aP => (fun aE a6 => Ex.nV aP.1 (nE (List.length h0) aE a6)) (List.getD aP.2.1 0 .junk) aP.2.2
theorem Uu (K : k9) (a0 : kR) (h0 : kT) : qQ Tryd.prog nC mJ K 131 [a0] h0 = Rl (mI nC K) a0 h0 := by kernel_rfl
noncomputable def C_ (K : k9) (m : Nat) (s : List kR × kT) : Option R :=
 (fun aC aD aF aE aA aB aG => (lN aA).bind fun aH => (kZ .lss aB aH).bind fun aI => lG aI ((kY 1 aA aB).bind fun aJ => (kV false 1 aG aJ).bind fun t27 => (kZ .eql t27 aC).bind fun aK => lG aK (lC m .ret [aC, aD, (.int .i64 1), aE, aA, aB] aG) ((kZ .add aB (.int .i64 1)).bind fun aL => lC m .normal [aC, aD, aF, aE, aA, aL] aG)) (lC m (.exit 2) [aC, aD, aF, aE, aA, aB] aG)) (List.getD s.1 0 .junk) (List.getD s.1 1 .junk) (List.getD s.1 2 .junk) (List.getD s.1 3 .junk) (List.getD s.1 4 .junk) (List.getD s.1 5 .junk) s.2
noncomputable def zS (K : k9) (m : Nat) (s : List kR × kT) : Option R :=
 (fun aM aE aN aF h6 => (kU 0 aE).bind fun t7 => (kV false 1 h6 t7).bind fun t8 => (lN t8).bind fun t9 => (kZ .lss aF t9).bind fun bB => lG bB (((kU 0 aE).bind fun bC => (kV false 1 h6 bC).bind fun bD => (kY 6 bD aF).bind fun bE => (kV true 6 h6 bE).bind fun t14 => k_ (K 100 [(kR.k8 t14)] h6) (fun bF aR => (mJ (C_ K (List.length aR)) ([aM, aE, aN, aF, bF, (.int .i64 0)], aR)).bind fun Na => (fun aC aA aI aB a6 a7 aO => Ex.lY Na.1 none (fun a8 => Ex.inBlock 2 a8 ((kU 0 aA).bind fun bG => (kV false 1 aO bG).bind fun bH => (kY 6 bH aB).bind fun bI => (kV true 6 aO bI).bind fun bJ => k_ (K 101 [(kR.k8 bJ)] aO) (fun aD aS => (kS true aD ((kU 0 aA).bind fun bK => kW bK aS) (kW (.tuple []) aS)).bind (kX (fun bL aP => (kS true aD ((kV false 1 aP bL).bind fun t49 => kW t49 aP) (kW (.tuple []) aP)).bind (kX (fun bM aT => (kS true aD (kW aB aT) (kW (.tuple []) aT)).bind (kX (fun bN aU => (kS true aD ((kY 6 bM bN).bind fun bO => kW bO aU) (kW (.tuple []) aU)).bind (kX (fun bP aV => (kS true aD ((kU 1 bP).bind fun bQ => kW bQ aV) (kW (.tuple []) aV)).bind (kX (fun bR aQ => (kS true aD ((kV false 1 aQ bR).bind fun bS => kW bS aQ) (kW (.tuple []) aQ)).bind (kX (fun bT aW => (kS true aD (kW aC aW) (kW (.tuple []) aW)).bind (kX (fun bU aX => (kS true aD ((kZ .eql bT bU).bind fun bV => kW bV aX) (kW (.tuple []) aX)).bind (kX (fun bW aY => (lV aD bW (.bool false)).bind fun bX => lG bX (some (.ret, [aC, aA, (.int .i64 2), aB], aY)) (some (.normal, [aC, aA, aI, aB], aY))) (fun _ _ => none))) (fun _ _ => none))) (fun _ _ => none))) (fun _ _ => none))) (fun _ _ => none))) (fun _ _ => none))) (fun _ _ => none))) (fun _ _ => none))) (fun _ _ => none)) (fun a_ => some (a_, [aC, aA, aI, aB], aO)))) (List.getD Na.2.1 0 .junk) (List.getD Na.2.1 1 .junk) (List.getD Na.2.1 2 .junk) (List.getD Na.2.1 3 .junk) (List.getD Na.2.1 4 .junk) (List.getD Na.2.1 5 .junk) Na.2.2) (fun _ _ => none)).bind fun aL => (fun aG aH aJ aK aZ => Ex.inBlock 1 aL.1 ((kZ .add aK (.int .i64 1)).bind fun bY => lC m .normal [aG, aH, aJ, bY] aZ) (fun bA => lC m bA [aG, aH, aJ, aK] aZ)) (List.getD aL.2.1 0 .junk) (List.getD aL.2.1 1 .junk) (List.getD aL.2.1 2 .junk) (List.getD aL.2.1 3 .junk) aL.2.2) (lC m (.exit 0) [aM, aE, aN, aF] h6)) (List.getD s.1 0 .junk) (List.getD s.1 1 .junk) (List.getD s.1 2 .junk) (List.getD s.1 3 .junk) s.2
noncomputable def Rm (K : k9) (a0 a1 a2 : kR) (h0 : kT) : Option (n_ × kT) :=
 (lE (nG 5 h0 a0) fun t0 h1 => (mJ (zS K (List.length h1)) ([a2, t0, (.int .i64 0), a1], h1)).bind fun aD => (fun aG aA aH aP aI => Ex.lY aD.1 none (fun aQ => Ex.inBlock 0 aQ ((kU 1 aA).bind fun aS => (kU 0 aS).bind fun aT => (kV false 1 aI aT).bind fun aU => (kZ .eql aU (.int .i64 2)).bind fun aE => (kS true aE ((kU 1 aA).bind fun aV => kW aV aI) (kW (.tuple []) aI)).bind (kX (fun aW aM => (kS true aE ((kU 1 aW).bind fun aX => kW aX aM) (kW (.tuple []) aM)).bind (kX (fun aY aK => (kS true aE ((kV false 1 aK aY).bind fun t95 => kW t95 aK) (kW (.tuple []) aK)).bind (kX (fun t96 aN => (kS true aE (kW aG aN) (kW (.tuple []) aN)).bind (kX (fun t98 aO => (kS true aE ((kZ .eql t96 t98).bind fun t100 => kW t100 aO) (kW (.tuple []) aO)).bind (kX (fun t101 aF => (lV aE t101 (.bool false)).bind fun aL => lG aL (some (.ret, [(.int .i64 1)], aF)) (some (.ret, [(.int .i64 0)], aF))) (fun _ _ => none))) (fun _ _ => none))) (fun _ _ => none))) (fun _ _ => none))) (fun _ _ => none))) (fun aR => some (aR, [aH], aI)))) (List.getD aD.2.1 0 .junk) (List.getD aD.2.1 1 .junk) (List.getD aD.2.1 2 .junk) (List.getD aD.2.1 3 .junk) aD.2.2).bind fun aB => (fun aC aJ => Ex.nV aB.1 (nE (List.length h0) aC aJ)) (List.getD aB.2.1 0 .junk) aB.2.2
theorem UA (K : k9) (a0 a1 a2 : kR) (h0 : kT) : qQ Tryd.prog nC mJ K 158 [a0, a1, a2] h0 = Rm (mI nC K) a0 a1 a2 h0 := by kernel_rfl
end Go.Proofs.YtkeoalhglkfbkaaDoor


namespace Go.Proofs.YtkeoalhglkfbkaaDoor
open Go Hk
theorem vV {a : Nat} (h : a ≤ 9223372036854775806) : IntKind.wrap .i64 ((a : Int) + 1) = (a : Int) + 1 := by rw [wrap64] <;> omega
def Ap : List lX → Int
 | [] => 0
 | b :: r => (b.ops.length : Int) + Ap r
theorem EW : ∀ l, 0 ≤ Ap l
 | [] => Int.le_refl _
 | b :: r => by have := EW r; simp only [Ap]; omega
def tM (x : mK) : Int := if p5 x = true ∧ x.kind = 0 then Dm (x.elem * x.len) else 0
theorem qS {x : mK} (h : p5 x = true) : 1 ≤ x.elem * x.len ∧ x.elem * x.len ≤ 65536 := by
 simp only [p5, Bool.and_eq_true, Bool.or_eq_true, decide_eq_true_eq] at h
 obtain ⟨h1, h2, h3⟩ := h
 rcases h1 with h1 | h1 <;> rw [h1] <;> omega
theorem JK (x : mK) : 0 ≤ tM x ∧ tM x ≤ 65536 := by
 unfold tM
 split
 ·rename_i h
  have := qS h.1
  unfold Dm; omega
 ·omega
def sL : List mK → Int
 | [] => 0
 | x :: r => tM x + sL r
theorem wI : ∀ l, 0 ≤ sL l
 | [] => Int.le_refl _
 | x :: r => by have := wI r; have := JK x; simp only [sL]; omega
def oP (p : IR) : Bool := decide (p.temps ≤ 1048576) && decide ((p.arrays.length : Int) ≤ 1048576) && decide ((p.blocks.length : Int) ≤ 1048576) && decide (Ap p.blocks ≤ 1048576) && decide (max p.out 0 + sL p.arrays ≤ 65536)
theorem Po (B : List lX) (hB : B.length ≤ 1048576) (P : List kR) (by_ : Int) (hh : ∀ C, mL 1 (.cells P :: C) = some [.cells P]) : ∀ (n i : Nat) (acc : Int), B.length < i + n → i ≤ B.length → 0 ≤ acc → acc ≤ 1048576 →
  ∃ (e : Ex) (acc' : Int) (j : Int), mJ (Ga KK 1) ([.ptr 0 0, .bool false, .int .i64 acc, .int .i64 by_, .slice (B.map lX.cells) .no, .int .i64 (B.length : Int), .int .i64 (i : Int)], [.cells P]) =
   some (e, [.ptr 0 0, .bool false, .int .i64 acc', .int .i64 by_, .slice (B.map lX.cells) .no, .int .i64 (B.length : Int), .int .i64 j], [.cells P]) ∧
   (e = .ret ∧ ¬ acc + Ap (B.drop i) ≤ 1048576 ∨ e = .exit 0 ∧ acc + Ap (B.drop i) ≤ 1048576) := by
 have q0 : ∀ h, kR.nM 1 h (.ptr 0 0) = .ptr 0 0 := fun h => l_ (by omega)
 intro n
 induction n with
 | zero => intro i acc a1 a2; omega
 | succ n ih =>
  intro i acc a1 a2 h1 h2
  rw [mE]
  by_cases hi : i < B.length
  ·have hi' : (i : Int) < B.length := by omega
   have hx : B[i]? = some B[i] := List.getElem?_eq_getElem hi
   have w1 := vV (a := i) (by omega)
   rw [List.drop_eq_getElem_cons hi]
   generalize B[i] = y at *
   have w2 : IntKind.i64.wrap (1048576 - acc) = 1048576 - acc := by rw [wrap64] <;> omega
   have hnn := EW (B.drop (i + 1))
   by_cases hg : 1048576 - acc < (y.ops.length : Int)
   ·refine ⟨.ret, acc, i, ?_, .inl ⟨rfl, by simp only [Ap]; omega⟩⟩
    simp [Ga, hi', hx, lX.cells, w2, hg, lC, hh, q0]
   ·have w3 : IntKind.i64.wrap (acc + (y.ops.length : Int)) = acc + (y.ops.length : Int) := by rw [wrap64] <;> omega
    obtain ⟨e, acc', j, g1, g2⟩ := ih (i + 1) (acc + y.ops.length) (by omega) hi (by omega) (by omega)
    refine ⟨e, acc', j, ?_, ?_⟩
    ·simp only [Int.natCast_add, Int.cast_ofNat_Int] at g1
     rw [← g1]
     simp [Ga, hi', hx, lX.cells, w1, w2, w3, hg, lC, hh, q0]
    ·simpa [Ap, Int.add_assoc] using g2
  ·have hi' : ¬ (i : Int) < B.length := by omega
   have : B.drop i = [] := List.drop_eq_nil_of_le (by omega)
   rw [this]
   refine ⟨.exit 0, acc, i, ?_, .inr ⟨rfl, by simp only [Ap]; omega⟩⟩
   simp [Ga, hi', lC, hh, q0]
theorem Pp (A : List mK) (hA : A.length ≤ 1048576) (P : List kR) (hh : ∀ C, mL 1 (.cells P :: C) = some [.cells P]) : ∀ (n i : Nat) (acc : Int), A.length < i + n → i ≤ A.length → 0 ≤ acc → acc ≤ 65537 →
  ∃ (e : Ex) (acc' : Int) (j : Int), mJ (w7 KK 1) ([.bool false, .int .i64 acc, .slice (A.map mK.cells) .no, .int .i64 (A.length : Int), .int .i64 (i : Int)], [.cells P]) =
   some (e, [.bool false, .int .i64 acc', .slice (A.map mK.cells) .no, .int .i64 (A.length : Int), .int .i64 j], [.cells P]) ∧
   (e = .ret ∧ ¬ acc + sL (A.drop i) ≤ 65536 ∨ e = .exit 2 ∧ acc' = acc + sL (A.drop i)) := by
 intro n
 induction n with
 | zero => intro i acc a1 a2; omega
 | succ n ih =>
  intro i acc a1 a2 h1 h2
  rw [mE]
  by_cases hi : i < A.length
  ·have hi' : (i : Int) < A.length := by omega
   have hx : A[i]? = some A[i] := List.getElem?_eq_getElem hi
   have w1 := vV (a := i) (by omega)
   rw [List.drop_eq_getElem_cons hi]
   generalize A[i] = y at *
   have hnn := wI (A.drop (i + 1))
   have hr := JK y
   have h132 := acI y
   have step : ∃ acc1, acc1 = acc + tM y ∧ (¬ acc1 ≤ 65536 → w7 KK 1 ([.bool false, .int .i64 acc, .slice (A.map mK.cells) .no, .int .i64 (A.length : Int), .int .i64 (i : Int)], [.cells P]) = some (.ret, [.bool false, .int .i64 acc1, .slice (A.map mK.cells) .no, .int .i64 (A.length : Int), .int .i64 (i : Int)], [.cells P])) ∧
     (acc1 ≤ 65536 → w7 KK 1 ([.bool false, .int .i64 acc, .slice (A.map mK.cells) .no, .int .i64 (A.length : Int), .int .i64 (i : Int)], [.cells P]) = some (.normal, [.bool false, .int .i64 acc1, .slice (A.map mK.cells) .no, .int .i64 (A.length : Int), .int .i64 ((i : Int) + 1)], [.cells P])) := by
    refine ⟨_, rfl, ?_, ?_⟩ <;> intro hle <;> cases hs : p5 y
    ·have e0 : tM y = 0 := by simp [tM, hs]
     rw [e0, Int.add_zero] at hle ⊢
     have hg : 65536 < acc := by omega
     simp only [hs, mK.cells] at h132
     simp [w7, hi', hx, mK.cells, h132, hg, lC, hh]
    ·have hm := qS hs
     simp only [hs, mK.cells] at h132
     by_cases hk : y.kind = 0
     ·have e0 : tM y = Dm (y.elem * y.len) := by simp [tM, hs, hk]
      rw [hk] at h132
      have h133 := Xm (y.elem * y.len) (by omega) (by omega)
      have hu : 0 ≤ Dm (y.elem * y.len) ∧ Dm (y.elem * y.len) ≤ 65536 := by rw [← e0]; exact hr
      have w2 : IntKind.i64.wrap (y.elem * y.len) = y.elem * y.len := by rw [wrap64] <;> omega
      rw [e0] at hle ⊢
      generalize Dm (y.elem * y.len) = u at *
      have w3 : IntKind.i64.wrap (acc + u) = acc + u := by rw [wrap64] <;> omega
      have hg : 65536 < acc + u := by omega
      simp [w7, hi', hx, mK.cells, h132, h133, hk, w2, w3, hg, lC, hh]
     ·have e0 : tM y = 0 := by simp [tM, hk]
      rw [e0, Int.add_zero] at hle ⊢
      have hg : 65536 < acc := by omega
      simp [w7, hi', hx, mK.cells, h132, hk, hg, lC, hh]
    ·have e0 : tM y = 0 := by simp [tM, hs]
     rw [e0, Int.add_zero] at hle ⊢
     have hg : ¬ 65536 < acc := by omega
     simp only [hs, mK.cells] at h132
     simp [w7, hi', hx, mK.cells, h132, hg, lC, hh, w1]
    ·have hm := qS hs
     simp only [hs, mK.cells] at h132
     by_cases hk : y.kind = 0
     ·have e0 : tM y = Dm (y.elem * y.len) := by simp [tM, hs, hk]
      rw [hk] at h132
      have h133 := Xm (y.elem * y.len) (by omega) (by omega)
      have hu : 0 ≤ Dm (y.elem * y.len) ∧ Dm (y.elem * y.len) ≤ 65536 := by rw [← e0]; exact hr
      have w2 : IntKind.i64.wrap (y.elem * y.len) = y.elem * y.len := by rw [wrap64] <;> omega
      rw [e0] at hle ⊢
      generalize Dm (y.elem * y.len) = u at *
      have w3 : IntKind.i64.wrap (acc + u) = acc + u := by rw [wrap64] <;> omega
      have hg : ¬ 65536 < acc + u := by omega
      simp [w7, hi', hx, mK.cells, h132, h133, hk, w2, w3, hg, lC, hh, w1]
     ·have e0 : tM y = 0 := by simp [tM, hk]
      rw [e0, Int.add_zero] at hle ⊢
      have hg : ¬ 65536 < acc := by omega
      simp [w7, hi', hx, mK.cells, h132, hk, hg, lC, hh, w1]
   obtain ⟨acc1, ha, s1, s2⟩ := step
   by_cases hg : acc1 ≤ 65536
   ·obtain ⟨e, acc', j, g1, g2⟩ := ih (i + 1) acc1 (by omega) hi (by omega) (by omega)
    refine ⟨e, acc', j, ?_, ?_⟩
    ·simp only [Int.natCast_add, Int.cast_ofNat_Int] at g1
     rw [s2 hg, ← g1]
     rfl
    ·rw [ha] at g2
     simpa [sL, Int.add_assoc] using g2
   ·refine ⟨.ret, acc1, i, ?_, .inl ⟨rfl, by simp only [sL]; omega⟩⟩
    rw [s1 hg]
    rfl
  ·have hi' : ¬ (i : Int) < A.length := by omega
   have : A.drop i = [] := List.drop_eq_nil_of_le (by omega)
   rw [this]
   refine ⟨.exit 2, acc, i, ?_, .inr ⟨rfl, by simp [sL]⟩⟩
   simp [w7, hi', lC, hh]
theorem c67 (p : IR) (h : kT) : KK 67 [.agg p.cells] h = some (.ret (.bool (oP p)), h) := by
 refine lZ rfl rfl (mN (Yu _ _ _) ?_)
 by_cases h1 : p.temps ≤ 1048576
 ·have h1' : ¬ 1048576 < p.temps := by omega
  by_cases h2 : (p.arrays.length : Int) ≤ 1048576
  ·have h2' : ¬ 1048576 < (p.arrays.length : Int) := by omega
   by_cases h3 : (p.blocks.length : Int) ≤ 1048576
   ·have h3' : ¬ 1048576 < (p.blocks.length : Int) := by omega
    have hh : ∀ C, mL 1 (.cells p.cells :: C) = some [.cells p.cells] := fun C => by simp [mL, IR.cells]
    obtain ⟨e, acc', j, g1, g2⟩ := Po p.blocks (by omega) p.cells (min (max p.out 0) 65537) hh (p.blocks.length + 1) 0 0 (by omega) (Nat.zero_le _) (by omega) (by omega)
    obtain ⟨e', acc'', j', g3, g4⟩ := Pp p.arrays (by omega) p.cells hh (p.arrays.length + 1) 0 (min (max p.out 0) 65537) (by omega) (Nat.zero_le _) (by omega) (by omega)
    have hr := wI p.arrays
    simp only [List.drop_zero, Int.zero_add, Int.cast_ofNat_Int, IR.cells] at g1 g2 g3 g4
    rcases g2 with ⟨rfl, g2⟩ | ⟨rfl, g2⟩
    ·have hl : oP p = false := by simp [oP, g2]
     rw [hl]
     simp [Yt, IR.cells, h1', h2', h3', g1, lH]
    ·rcases g4 with ⟨rfl, g4⟩ | ⟨rfl, g4⟩
     ·have hl : oP p = false := by
       simp only [oP, Bool.and_eq_false_iff, decide_eq_false_iff_not]
       right; omega
      rw [hl]
      simp [Yt, IR.cells, h1', h2', h3', g1, g3, lH]
     ·have hl : oP p = decide (acc'' ≤ 65536) := by
       have : (max p.out 0 + sL p.arrays ≤ 65536) ↔ acc'' ≤ 65536 := by omega
       simp [oP, h1, h2, h3, g2, this]
      rw [hl]
      simp [Yt, IR.cells, h1', h2', h3', g1, g3, lH]
   ·have h3' : 1048576 < (p.blocks.length : Int) := by omega
    have hl : oP p = false := by simp [oP, h3]
    rw [hl]
    simp [Yt, IR.cells, h1', h2', h3', lH]
  ·have h2' : 1048576 < (p.arrays.length : Int) := by omega
   have hl : oP p = false := by simp [oP, h2]
   rw [hl]
   simp [Yt, IR.cells, h1', h2', lH]
 ·have h1' : 1048576 < p.temps := by omega
  have hl : oP p = false := by simp [oP, h1]
  rw [hl]
  simp [Yt, IR.cells, h1', lH]
end Go.Proofs.YtkeoalhglkfbkaaDoor


namespace Go.Proofs.YtkeoalhglkfbkaaDoor
open Go Hk
def Aw (n : Nat) (C : List lW) : Prop := ∀ m h, n ≤ m → oA m h C = some C
def xD (n : Nat) (cs : List kR) : Prop := ∀ m h, n ≤ m → mP m h cs = some cs
section
variable {n : Nat}
theorem Aw.mono {k : Nat} {C : List lW} (h : Aw n C) (hk : n ≤ k) : Aw k C := fun m x hm => h m x (Nat.le_trans hk hm)
theorem xR {m : Nat} {h : kT} : ∀ {B C : List lW}, oA m h B = some B → oA m h C = some C → oA m h (B ++ C) = some (B ++ C)
 | [], _, _, h2 => h2
 | b :: r, C, h1, h2 => by
  simp only [oA] at h1
  split at h1
  ·rename_i b' r' e1 e2
   simp only [Option.some.injEq, List.cons.injEq] at h1
   obtain ⟨rfl, rfl⟩ := h1
   simp only [List.cons_append, oA, e1, xR e2 h2]
  ·cases h1
theorem oT {B C : List lW} (h1 : Aw n B) (h2 : Aw n C) : Aw n (B ++ C) := fun m h hm => xR (h1 m h hm) (h2 m h hm)
theorem oW : Aw n [] := fun _ _ _ => rfl
theorem nW {i j : Nat} {C : List lW} (h : Aw n C) : Aw n (.front i j :: C) := fun m x hm => by simp [h m x hm]
theorem pM {cs : List kR} {C : List lW} (h1 : xD n cs) (h : Aw n C) : Aw n (.cells cs :: C) := fun m x hm => by simp [h m x hm, h1 m x hm]
theorem Nz : xD n [] := fun _ _ _ => rfl
end
section
variable {n : Nat}
theorem BP {i j : Nat} {C : List lW} : Aw n (.front i j :: C) ↔ Aw n C := ⟨fun h m x hm => by
 have := h m x hm
 simp only [wC, JN, Option.bind_some, Option.map_eq_some_iff] at this
 obtain ⟨r, h1, h2⟩ := this
 cases h2; exact h1, nW⟩
theorem zF {C : List lW} : Aw n (.gone :: C) ↔ Aw n C := ⟨fun h m x hm => by
 have := h m x hm
 have e : pA m x .gone = some .gone := rfl
 simp only [wC, e, Option.bind_some, Option.map_eq_some_iff] at this
 obtain ⟨r, h1, h2⟩ := this
 cases h2; exact h1, fun h m x hm => by
 have e : pA m x .gone = some .gone := rfl
 simp only [wC, e, Option.bind_some, h m x hm, Option.map_some]⟩
theorem BO {cs : List kR} {C : List lW} : Aw n (.cells cs :: C) ↔ xD n cs ∧ Aw n C := ⟨fun h => by
 have key : ∀ m x, n ≤ m → mP m x cs = some cs ∧ oA m x C = some C := fun m x hm => by
  have := h m x hm
  simp only [wC, JM, Option.bind_eq_some_iff, Option.map_eq_some_iff] at this
  obtain ⟨b, ⟨c, h1, h2⟩, r, h3, h4⟩ := this
  cases h2; cases h4; exact ⟨h1, h3⟩
 exact ⟨fun m x hm => (key m x hm).1, fun m x hm => (key m x hm).2⟩, fun h => pM h.1 h.2⟩
theorem zE {v : kR} {cs : List kR} (hv : ∀ m x, n ≤ m → v.nM m x = v) (hc : v.mC = true) : xD n (v :: cs) ↔ xD n cs := by
 constructor
 ·intro h m x hm
  have := h m x hm
  simp only [pB, hv m x hm, hc, cond_true, Option.map_eq_some_iff] at this
  obtain ⟨r, h1, h2⟩ := this
  cases h2; exact h1
 ·intro h m x hm
  simp only [pB, hv m x hm, hc, cond_true, h m x hm, Option.map_some]
theorem J7 {k : IntKind} {z : Int} {cs : List kR} : xD n (.int k z :: cs) ↔ xD n cs := zE (fun _ _ _ => rfl) rfl
theorem J_ {z : List UInt8} {cs : List kR} : xD n (.str z :: cs) ↔ xD n cs := zE (fun _ _ _ => rfl) rfl
theorem Iu {z : Bool} {cs : List kR} : xD n (.bool z :: cs) ↔ xD n cs := zE (fun _ _ _ => rfl) rfl
theorem GS {rows : List (List kR)} {cs : List kR} : xD n (.slice rows .no :: cs) ↔ xD n cs := zE (fun _ _ _ => rfl) rfl
theorem J8 {rows : List (List kR)} {id : Nat} {cs : List kR} : xD n (.slice rows (.own id) :: cs) ↔ id < n ∧ xD n cs := by
 have key : ∀ hi : id < n, xD n (.slice rows (.own id) :: cs) ↔ xD n cs := fun hi => zE (fun m x hm => by
  have : id < m := by omega
  simp [this]) rfl
 constructor
 ·intro h
  have hi : id < n := by
   have := h n [] (Nat.le_refl _)
   by_cases hi : id < n
   ·exact hi
   ·exfalso
    simp only [pB, R6, decide_eq_false hi, cond_false, IP, cond_true, Option.map_eq_some_iff] at this
    obtain ⟨r, h1, h2⟩ := this
    cases h2
  exact ⟨hi, (key hi).1 h⟩
 ·rintro ⟨hi, h⟩
  exact (key hi).2 h
theorem J9 {id o : Nat} {cs : List kR} : xD n (.ptr id o :: cs) ↔ id < n ∧ xD n cs := by
 have key : ∀ hi : id < n, xD n (.ptr id o :: cs) ↔ xD n cs := fun hi => zE (fun m x hm => by
  have : id < m := by omega
  simp [l_ this]) rfl
 constructor
 ·intro h
  have hi : id < n := by
   have := h n [] (Nat.le_refl _)
   by_cases hi : id < n
   ·exact hi
   ·exfalso
    have e : (kR.ptr id o).nM n [] = .junk := by simp [kR.nM, hi]
    simp [pB, e, kR.mC] at this
  exact ⟨hi, (key hi).1 h⟩
 ·rintro ⟨hi, h⟩
  exact (key hi).2 h
end
def OQ (A : List lW) (X : lW) (B : List lW) : kT := A ++ X :: B
def Tq (X : lW) : Prop := ∀ m h, pA m h X = some X
def HN (A B : List lW) : Nat := A.length + 1 + B.length
structure KB (A B : List lW) : Prop where
 a : ∀ n, HN A B ≤ n → Aw n A
 b : ∀ n, HN A B ≤ n → Aw n B
section
variable {A B C : List lW} {X Y Z : lW} {k : Nat}
theorem Dp : HN A (B ++ C) = HN A B + C.length := by simp [HN]; omega
theorem KB.app (h : KB A B) (hC : Aw (HN A B + C.length) C) : KB A (B ++ C) := by
 refine ⟨fun n hn => ?_, fun n hn => ?_⟩
 ·rw [Dp] at hn
  exact (h.a (HN A B) (Nat.le_refl _)).mono (by omega)
 ·rw [Dp] at hn
  exact oT ((h.b (HN A B) (Nat.le_refl _)).mono (by omega)) (hC.mono hn)
theorem Iy : OQ A X B ++ C = OQ A X (B ++ C) := by simp [OQ]
theorem vK : (OQ A X B).length = HN A B := by simp [OQ, HN]; omega
theorem agK {cs : List kR} : nJ (OQ A (.cells cs) B) A.length = some cs := by simp [OQ, nJ]
theorem xX : List.set (OQ A X B) A.length Y = OQ A Y B := by
 unfold OQ; rw [List.set_append_right _ _ (Nat.le_refl _), Nat.sub_self]; rfl
theorem NG : (OQ A X (B ++ C))[HN A B + k]? = C[k]? := by
 unfold OQ HN
 rw [List.getElem?_append_right (by omega), show A.length + 1 + B.length + k - A.length = B.length + k + 1 by omega, List.getElem?_cons_succ, List.getElem?_append_right (by omega), show B.length + k - B.length = k by omega]
theorem WH : (OQ A X (B ++ C))[HN A B]? = C[0]? := NG (k := 0)
theorem Qj : nJ (OQ A X (B ++ C)) (HN A B + k) = nJ C k := by unfold nJ; rw [NG]
theorem Tl : nJ (OQ A X (B ++ C)) (HN A B) = nJ C 0 := Qj (k := 0)
theorem Kf : rU (OQ A X (B ++ C)) (HN A B + k) = rU C k := by unfold rU; rw [NG]
theorem Og : rU (OQ A X (B ++ C)) (HN A B) = rU C 0 := Kf (k := 0)
theorem Ql {x : lW} : List.set (OQ A X (B ++ C)) (HN A B + k) x = OQ A X (B ++ C.set k x) := by
 unfold OQ HN
 rw [List.set_append_right _ _ (by omega), show A.length + 1 + B.length + k - A.length = B.length + k + 1 by omega, List.set_cons_succ, List.set_append_right _ _ (by omega), show B.length + k - B.length = k by omega]
theorem Tn {x : lW} : List.set (OQ A X (B ++ C)) (HN A B) x = OQ A X (B ++ C.set 0 x) := Ql (k := 0)
theorem Tm {cs : List kR} : sW (OQ A (.cells cs) B) A.length = OQ A .gone B := by
 unfold sW
 have : (OQ A (.cells cs) B)[A.length]? = some (.cells cs) := by unfold OQ; rw [List.getElem?_append_right (Nat.le_refl _), Nat.sub_self]; rfl
 rw [this]; exact xX
theorem Qk : sW (OQ A .gone B) A.length = OQ A .gone B := by
 unfold sW
 have : (OQ A .gone B)[A.length]? = some .gone := by unfold OQ; rw [List.getElem?_append_right (Nat.le_refl _), Nat.sub_self]; rfl
 rw [this]
theorem Oi {cs : List kR} : qE (OQ A (.cells cs) B) (OQ A Y C) A.length = OQ A (.cells cs) C := by
 unfold qE
 have : (OQ A (.cells cs) B)[A.length]? = some (.cells cs) := by unfold OQ; rw [List.getElem?_append_right (Nat.le_refl _), Nat.sub_self]; rfl
 rw [this]; exact xX
theorem KN {cs : List kR} {C : List lW} : sW (.cells cs :: C) 0 = .gone :: C := (rfl)
theorem Mh {C : List lW} : sW (.gone :: C) 0 = .gone :: C := (rfl)
theorem Mi {b : lW} {C : List lW} {k : Nat} : sW (b :: C) (k + 1) = b :: sW C k := by
 unfold sW
 simp only [List.getElem?_cons_succ]
 cases C[k]? with
 | none => rfl
 | some b => cases b <;> rfl
theorem Hq {cs : List kR} {b : lW} {C C' : List lW} : qE (.cells cs :: C) (b :: C') 0 = .cells cs :: C' := (rfl)
theorem JV {b b' : lW} {C C' : List lW} {k : Nat} : qE (b :: C) (b' :: C') (k + 1) = b' :: qE C C' k := by
 unfold qE
 simp only [List.getElem?_cons_succ]
 cases C[k]? with
 | none => rfl
 | some b => cases b <;> rfl
theorem Q9 {h : kT} : tN [] h = h := (rfl)
theorem OI {h : kT} {i : Nat} {ids : List Nat} : tN (i :: ids) h = tN ids (sW h i) := (rfl)
theorem Nt {h h' : kT} : nT [] h h' = h' := (rfl)
theorem LA {h h' : kT} {i : Nat} {ids : List Nat} : nT (i :: ids) h h' = nT ids h (qE h h' i) := (rfl)
theorem LX {i o : Nat} : wM (.ptr i o) = some i := (rfl)
theorem Ko {cs : List kR} : wM (.pptr cs) = none := (rfl)
theorem sS (h : KB A B) (hX : Tq X) : mL (HN A B) (OQ A X (B ++ C)) = some (OQ A X B) := by
 have e : OQ A X (B ++ C) = OQ A X B ++ C := Iy.symm
 unfold Hk.mL
 rw [e, ← vK (X := X), List.take_left, vK]
 exact xR (h.a _ (Nat.le_refl _) _ _ (Nat.le_refl _)) (by
  have := hX (HN A B) (OQ A X B ++ C)
  simp only [oA, this, h.b _ (Nat.le_refl _) _ _ (Nat.le_refl _)])
theorem pN (h : KB A B) (hX : Tq X) : mL (HN A B) (OQ A X B) = some (OQ A X B) := by
 have := sS (C := []) h hX
 rwa [List.append_nil] at this
theorem Tk {v : kR} (h : KB A B) (hX : Tq X) : nE (HN A B) v (OQ A X (B ++ C)) = some (.ret (v.oM (HN A B) (OQ A X (B ++ C))).k8, OQ A X B) := by simp [nE, sS h hX]
theorem Qi {v : kR} (h : KB A B) (hX : Tq X) : nE (HN A B) v (OQ A X B) = some (.ret (v.oM (HN A B) (OQ A X B)).k8, OQ A X B) := by simp [nE, pN h hX]
theorem Oh (h : KB A (B ++ C.take k)) (hX : Tq X) (hk : k ≤ C.length) : mL (HN A B + k) (OQ A X (B ++ C)) = some (OQ A X (B ++ C.take k)) := by
 have := sS (X := X) (C := C.drop k) h hX
 rw [Dp, List.append_assoc, List.take_append_drop, List.length_take, Nat.min_eq_left hk] at this
 exact this
theorem It : A.length < HN A B + k := by simp [HN]; omega
theorem sI : A.length < HN A B := It (k := 0)
attribute [simp] Iy vK agK xX NG WH Qj Tl Kf Og Ql Tn Tm Qk Oi Tk Qi Dp
attribute [simp] KN Mh Mi Hq JV Q9 OI Nt LA LX Ko mS
attribute [simp] KB.app oW BP zF BO Nz J7 J_ Iu GS J8 J9
end
end Go.Proofs.YtkeoalhglkfbkaaDoor


namespace Go.Proofs.YtkeoalhglkfbkaaDoor
open Go Hk
def ck (p : IR) (e : Int) : lW := .cells [.int .i64 p.temps, .slice (p.arrays.map mK.cells) .no, .slice (p.blocks.map lX.cells) .no, .int .i64 p.inn, .int .i64 p.out, .int .i64 e]
theorem wU {p : IR} {e : Int} : Tq (ck p e) := fun _ _ => rfl
structure Qh (p : IR) : Prop where
 t0 : 0 ≤ p.temps
 t1 : p.temps ≤ 1048576
 a1 : (p.arrays.length : Int) ≤ 1048576
 b1 : (p.blocks.length : Int) ≤ 1048576
 i0 : 0 ≤ p.inn
 i1 : p.inn ≤ 65536
 o0 : 0 ≤ p.out
 o1 : p.out ≤ 65536
section
variable {p : IR} (hp : Qh p) {A B : List lW} {e : Int} (hB : KB A B)
include hp hB
theorem Xo (t : Int) : KK 135 [.ptr A.length 0, .int .i64 t] (OQ A (ck p e) B) = some (.ret (.bool (mG t 0 (p.temps - 1))), OQ A (ck p e) B) := by
 refine mN (Uy _ _ _ _) ?_
 have h0 := hp.t0
 have h1 := hp.t1
 have w1 : IntKind.i64.wrap (p.temps - 1) = p.temps - 1 := by rw [wrap64] <;> omega
 have hX := wU (p := p) (e := e)
 simp only [ck] at hX ⊢
 simp -implicitDefEqProofs [adS, hB, hX, w1, CG]
theorem ag4 (t : Int) : KK 136 [.ptr A.length 0, .int .i64 t] (OQ A (ck p e) B) = some (.ret (.bool (mG t (-1) ((p.blocks.length : Int) - 1))), OQ A (ck p e) B) := by
 refine mN (Uz _ _ _ _) ?_
 have h1 := hp.b1
 have w1 : IntKind.i64.wrap ((p.blocks.length : Int) - 1) = (p.blocks.length : Int) - 1 := by rw [wrap64] <;> omega
 have hX := wU (p := p) (e := e)
 simp only [ck] at hX ⊢
 simp -implicitDefEqProofs [adT, hB, hX, w1, CG]
def zI (inn out e : Int) (x : mK) : Bool × Int :=
  if p5 x = true then
    (if x.kind = 0 then (decide (x.off = 0), e)
     else if x.kind = 1 then (mG x.off 0 (inn - x.elem * x.len) && decide (x.off.tmod 4 = 0), e)
     else if x.kind = 2 then (if mG x.off e (out - x.elem * x.len) = true ∧ x.off.tmod 4 = 0 then (true, Dm (x.off + x.elem * x.len)) else (false, e))
     else (false, e))
  else (false, e)
theorem c69 (x : mK) (he : 0 ≤ e) : KK 69 [.ptr A.length 0, .agg x.cells] (OQ A (ck p e) B) = some (.ret (.bool (zI p.inn p.out e x).1), OQ A (ck p (zI p.inn p.out e x).2) B) := by
 refine mN (Yw _ _ _ _) ?_
 have h132 := acI x
 have hX := fun e => wU (p := p) (e := e)
 have i0 := hp.i0
 have i1 := hp.i1
 have o0 := hp.o0
 have o1 := hp.o1
 cases hs : p5 x
 ·simp only [hs, mK.cells, ck, zI, Bool.false_eq_true, if_false] at h132 hX ⊢
  simp -implicitDefEqProofs [V6, hB, hX, h132]
 ·have hm := qS hs
  have w0 : IntKind.i64.wrap (x.elem * x.len) = x.elem * x.len := by rw [wrap64] <;> omega
  simp only [hs, mK.cells, ck, zI, if_true] at h132 hX ⊢
  by_cases k0 : x.kind = 0
  ·rw [k0] at h132 ⊢
   simp -implicitDefEqProofs [V6, hB, hX, h132, k0, w0]
  by_cases k1 : x.kind = 1
  ·rw [k1] at h132 ⊢
   have w1 : IntKind.i64.wrap (p.inn - x.elem * x.len) = p.inn - x.elem * x.len := by rw [wrap64] <;> omega
   cases hb : mG x.off 0 (p.inn - x.elem * x.len) <;> simp -implicitDefEqProofs [V6, hB, hX, h132, k1, w0, w1, CG, hb, nD]
  by_cases k2 : x.kind = 2
  ·rw [k2] at h132 ⊢
   have w1 : IntKind.i64.wrap (p.out - x.elem * x.len) = p.out - x.elem * x.len := by rw [wrap64] <;> omega
   cases hb : mG x.off e (p.out - x.elem * x.len)
   ·simp -implicitDefEqProofs [V6, hB, hX, h132, k2, w0, w1, CG, hb, nD]
   ·by_cases hr : x.off.tmod 4 = 0
    ·have hbb : e ≤ x.off ∧ x.off ≤ p.out - x.elem * x.len := by simpa [mG] using hb
     have w2 : IntKind.i64.wrap (x.off + x.elem * x.len) = x.off + x.elem * x.len := by rw [wrap64] <;> omega
     have h133 := Xm (x.off + x.elem * x.len) (by omega) (by omega)
     simp -implicitDefEqProofs [V6, hB, hX, h132, k2, w0, w1, w2, CG, hb, hr, h133, nD]
    ·simp -implicitDefEqProofs [V6, hB, hX, h132, k2, w0, w1, CG, hb, hr, nD]
  ·simp -implicitDefEqProofs [V6, hB, hX, h132, k0, k1, k2, w0]
def Ak (t : Term) : Bool :=
 if t.kind = 1 then decide (t.a = 0 ∧ t.no = 0) && mG t.yes (-1) ((p.blocks.length : Int) - 1)
 else if t.kind = 2 then mG t.a 0 (p.temps - 1) && (mG t.yes (-1) ((p.blocks.length : Int) - 1) && mG t.no (-1) ((p.blocks.length : Int) - 1))
 else decide (t = ⟨3, 0, 0, 0⟩)
end
end Go.Proofs.YtkeoalhglkfbkaaDoor


namespace Go.Proofs.YtkeoalhglkfbkaaDoor
open Go Hk
section
variable {p : IR} (hp : Qh p) {A B : List lW} {e : Int} (hB : KB A B)
include hp hB
theorem c71 (t : Term) : KK 71 [.ptr A.length 0, .agg t.cells] (OQ A (ck p e) B) = some (.ret (.bool (Ak (p := p) t)), OQ A (ck p e) B) := by
 refine mN (Yy _ _ _ _) ?_
 have hX := wU (p := p) (e := e)
 have hC : KB A (B ++ [.cells t.cells]) := hB.app (by simp [Term.cells])
 have h135 := fun z => Xo (e := e) hp hC z
 have h136 := fun z => ag4 (e := e) hp hC z
 obtain ⟨k, a, y, n⟩ := t
 simp only [Term.cells, Ak] at h135 h136 ⊢
 by_cases k1 : k = 1
 ·subst k1
  by_cases ha : a = 0
  ·subst ha
   by_cases hn : n = 0
   ·subst hn
    simp -implicitDefEqProofs [m71, hB, hX, h136, o_, oD, xE, It, sI]
   ·have hb := beq_false_of_ne hn
    simp -implicitDefEqProofs [m71, hB, hX, h136, o_, oD, xE, hn, hb, It, sI]
  ·have hb := beq_false_of_ne ha
   simp -implicitDefEqProofs [m71, hB, hX, h136, o_, oD, xE, ha, hb, It, sI]
 by_cases k2 : k = 2
 ·subst k2
  cases h1 : mG a 0 (p.temps - 1) <;> cases h2 : mG y (-1) ((p.blocks.length : Int) - 1) <;>
   simp -implicitDefEqProofs [m71, hB, hX, h135, h136, h1, h2, It, sI]
 ·have hr : decide ((⟨k, a, y, n⟩ : Term) = ⟨3, 0, 0, 0⟩) = (k == 3 && (a == 0 && (y == 0 && n == 0))) := by
   by_cases h3 : k = 3 <;> by_cases ha : a = 0 <;> by_cases hy : y = 0 <;> by_cases hn : n = 0 <;> simp [h3, ha, hy, hn]
  have hbd : ∀ x y : Int, (x == y) = decide (x = y) := fun x y => by by_cases h : x = y <;> simp [h]
  simp -implicitDefEqProofs [m71, hB, hX, k1, k2, hr, hbd, o_, oD, xE, Bool.and_assoc]
end
structure Form where
 dst : Bool
 src : Nat
 most : Int
 ok : Bool
def mM (k : Int) : Form :=
 if k = 1 then ⟨true, 0, 4294967295, true⟩
 else if k = 2 ∨ k = 10 then ⟨true, 1, 0, true⟩
 else if 3 ≤ k ∧ k ≤ 9 ∨ 14 ≤ k ∧ k ≤ 16 then ⟨true, 2, 0, true⟩
 else if 11 ≤ k ∧ k ≤ 13 then ⟨true, 1, 31, true⟩
 else if k = 17 then ⟨true, 3, 0, true⟩
 else if k = 18 then ⟨true, 1, 1048576, true⟩
 else if k = 19 then ⟨false, 2, 1048576, true⟩
 else ⟨false, 0, 0, false⟩
def Form.cells (f : Form) : List kR := [.bool f.dst, .int .i64 (f.src : Int), .int .i64 0, .int .i64 f.most, .bool f.ok]
theorem Xn (k : Int) (h : kT) : KK 134 [.int .i64 k] h = some (.ret (.agg (mM k).cells), h) := by
 refine lZ rfl rfl (mN (Ux _ _ _) ?_)
 by_cases hk : 1 ≤ k ∧ k ≤ 19
 ·have : k = 1 ∨ k = 2 ∨ k = 3 ∨ k = 4 ∨ k = 5 ∨ k = 6 ∨ k = 7 ∨ k = 8 ∨ k = 9 ∨ k = 10 ∨ k = 11 ∨ k = 12 ∨ k = 13 ∨ k = 14 ∨ k = 15 ∨ k = 16 ∨ k = 17 ∨ k = 18 ∨ k = 19 := by omega
  rcases this with rfl | rfl | rfl | rfl | rfl | rfl | rfl | rfl | rfl | rfl | rfl | rfl | rfl | rfl | rfl | rfl | rfl | rfl | rfl <;>
   simp -implicitDefEqProofs [XZ, mM, Form.cells, lH]
 ·have n1 : ¬ k = 1 := by omega
  have n2 : ¬ k = 2 := by omega
  have n3 : ¬ k = 3 := by omega
  have n4 : ¬ k = 4 := by omega
  have n5 : ¬ k = 5 := by omega
  have n6 : ¬ k = 6 := by omega
  have n7 : ¬ k = 7 := by omega
  have n8 : ¬ k = 8 := by omega
  have n9 : ¬ k = 9 := by omega
  have n10 : ¬ k = 10 := by omega
  have n11 : ¬ k = 11 := by omega
  have n12 : ¬ k = 12 := by omega
  have n13 : ¬ k = 13 := by omega
  have n14 : ¬ k = 14 := by omega
  have n15 : ¬ k = 15 := by omega
  have n16 : ¬ k = 16 := by omega
  have n17 : ¬ k = 17 := by omega
  have n18 : ¬ k = 18 := by omega
  have n19 : ¬ k = 19 := by omega
  have e : mM k = ⟨false, 0, 0, false⟩ := by
   unfold mM
   rw [if_neg n1, if_neg (by omega), if_neg (by omega), if_neg (by omega), if_neg n17, if_neg n18, if_neg n19]
  rw [e]
  simp -implicitDefEqProofs [XZ, Form.cells, lH, n1, n2, n3, n4, n5, n6, n7, n8, n9, n10, n11, n12, n13, n14, n15, n16, n17, n18, n19]
theorem c73 (o : Op) (h : kT) : KK 73 [.agg o.cells] h = some (.ret (.bool (mM o.kind).dst), h) := by
 refine lZ rfl rfl (mN (Yz _ _ _) ?_)
 have h134 := Xn o.kind
 simp only [Form.cells] at h134
 simp -implicitDefEqProofs [m73, Op.cells, h134, lH]
def mW (o : Op) : List Int := [o.a, o.b, o.c].take (mM o.kind).src
theorem c74 (o : Op) (h : kT) : KK 74 [.agg o.cells] h = some (.ret (.slice ((mW o).map fun z => [.int .i64 z]) .no), h) := by
 refine lZ rfl rfl (mN (YA _ _ _) ?_)
 have h134 := Xn o.kind
 have hs : (mM o.kind).src = 0 ∨ (mM o.kind).src = 1 ∨ (mM o.kind).src = 2 ∨ (mM o.kind).src = 3 := by
  unfold mM; (repeat' split) <;> simp
 simp only [Form.cells] at h134
 unfold mW
 rcases hs with hs | hs | hs | hs <;> rw [hs] at h134 ⊢ <;>
  simp -implicitDefEqProofs [m74, Op.cells, h134, lP, oL, mU, kR.tK, rowsOf, nK, oX, lH]
end Go.Proofs.YtkeoalhglkfbkaaDoor


namespace Go.Proofs.YtkeoalhglkfbkaaDoor
open Go Hk
section
variable {p : IR} (hp : Qh p) {A B : List lW} {e : Int} (hB : KB A B)
def oB (o : Op) (d a b c : Int) : List lW := [.cells o.cells, .cells (mM o.kind).cells, .cells [.int .i64 o.kind, .int .i64 d, .int .i64 a, .int .i64 b, .int .i64 c, .int .i64 o.imm]]
def oS (A B : List lW) (u : List Int) (v : Bool) (i : Int) : List kR := [.ptr A.length 0, .ptr (HN A B) 0, .bool v, .ptr (HN A B + 1) 0, .ptr (HN A B + 2) 0, .slice (u.map fun z => [.int .i64 z]) .no, .int .i64 (u.length : Int), .int .i64 i]
theorem RK {o : Op} {d a b c : Int} (hB : KB A B) : KB A (B ++ oB o d a b c) := hB.app (by simp [oB, Op.cells, Form.cells])
theorem KY {o : Op} {d a b c : Int} (hB : KB A B) : mL (HN A B + 3) (OQ A (ck p e) (B ++ oB o d a b c)) = some (OQ A (ck p e) (B ++ oB o d a b c)) := by
 have := Oh (X := ck p e) (A := A) (B := B) (C := oB o d a b c) (k := 3) (by simpa [oB] using RK (o := o) (d := d) (a := a) (b := b) (c := c) hB) wU (by simp [oB])
 simpa [oB] using this
include hp hB
theorem KV {o : Op} {u : List Int} {t d a b c : Int} {i : Nat} (hi : i < 3) (ht : u[i]? = some t) (hu : u.length ≤ 3) :
  vP KK (HN A B + 3) (oS A B u false (i : Int), OQ A (ck p e) (B ++ oB o d a b c)) = if mG t 0 (p.temps - 1) = true then
   some (.normal, oS A B u false ((i : Int) + 1), OQ A (ck p e) (B ++ oB o d (if i = 0 then t else a) (if i = 1 then t else b) (if i = 2 then t else c)))
   else some (.ret, oS A B u false (i : Int), OQ A (ck p e) (B ++ oB o d a b c)) := by
 have h135 := Xo (e := e) hp (RK (o := o) (d := d) (a := a) (b := b) (c := c) hB) t
 have htr := fun d a b c => KY (p := p) (e := e) (o := o) (d := d) (a := a) (b := b) (c := c) hB
 have hlt : i < u.length := (List.getElem?_eq_some_iff.1 ht).1
 have hlt' : (i : Int) < u.length := by omega
 have hti : u[i] = t := (List.getElem?_eq_some_iff.1 ht).2
 have q0 : ∀ h, kR.nM (HN A B + 3) h (.ptr A.length 0) = .ptr A.length 0 := fun h => l_ It
 have q1 : ∀ h, kR.nM (HN A B + 3) h (.ptr (HN A B) 0) = .ptr (HN A B) 0 := fun h => l_ (by omega)
 have q2 : ∀ h, kR.nM (HN A B + 3) h (.ptr (HN A B + 1) 0) = .ptr (HN A B + 1) 0 := fun h => l_ (by omega)
 have q3 : ∀ h, kR.nM (HN A B + 3) h (.ptr (HN A B + 2) 0) = .ptr (HN A B + 2) 0 := fun h => l_ (by omega)
 simp only [oB, oS] at h135 htr ⊢
 cases hb : mG t 0 (p.temps - 1)
 ·simp -implicitDefEqProofs [vP, hlt, hlt', ht, hti, h135, hb, lC, htr, q0, q1, q2, q3]
 ·rcases (show i = 0 ∨ i = 1 ∨ i = 2 by omega) with rfl | rfl | rfl <;>
   have hl0 : (0 : Int) < u.length := by omega
  all_goals simp only [Int.cast_ofNat_Int] at hlt'
  all_goals
   simp -implicitDefEqProofs [vP, hlt, hlt', ht, hti, h135, hb, IK, lC, htr, q0, q1, q2, q3, wrap64]
omit hp in
theorem UI {o : Op} {u : List Int} {d a b c : Int} {n : Nat} (hn : u.length = n) :
  vP KK (HN A B + 3) (oS A B u false (n : Int), OQ A (ck p e) (B ++ oB o d a b c)) = some (.exit 0, oS A B u false (n : Int), OQ A (ck p e) (B ++ oB o d a b c)) := by
 subst hn
 have htr := fun d a b c => KY (p := p) (e := e) (o := o) (d := d) (a := a) (b := b) (c := c) hB
 have q0 : ∀ h, kR.nM (HN A B + 3) h (.ptr A.length 0) = .ptr A.length 0 := fun h => l_ It
 have q1 : ∀ h, kR.nM (HN A B + 3) h (.ptr (HN A B) 0) = .ptr (HN A B) 0 := fun h => l_ (by omega)
 have q2 : ∀ h, kR.nM (HN A B + 3) h (.ptr (HN A B + 1) 0) = .ptr (HN A B + 1) 0 := fun h => l_ (by omega)
 have q3 : ∀ h, kR.nM (HN A B + 3) h (.ptr (HN A B + 2) 0) = .ptr (HN A B + 2) 0 := fun h => l_ (by omega)
 simp only [oB, oS] at htr ⊢
 simp -implicitDefEqProofs [vP, lC, htr, q0, q1, q2, q3]
theorem RB {o : Op} {d : Int} {s : Nat} (hs : s ≤ 3) {u : List Int} (hu : u = [o.a, o.b, o.c].take s) :
  (u.all (fun t => mG t 0 (p.temps - 1)) = true → mJ (vP KK (HN A B + 3)) (oS A B u false 0, OQ A (ck p e) (B ++ oB o d 0 0 0)) =
   some (.exit 0, oS A B u false (s : Int), OQ A (ck p e) (B ++ oB o d (if 1 ≤ s then o.a else 0) (if 2 ≤ s then o.b else 0) (if 3 ≤ s then o.c else 0)))) ∧
  (u.all (fun t => mG t 0 (p.temps - 1)) = false → ∃ (i : Nat) (x y z : Int), mJ (vP KK (HN A B + 3)) (oS A B u false 0, OQ A (ck p e) (B ++ oB o d 0 0 0)) =
   some (.ret, oS A B u false (i : Int), OQ A (ck p e) (B ++ oB o d x y z))) := by
 have hl : u.length = s := by subst hu; simp; omega
 have hu3 : u.length ≤ 3 := by omega
 have st : ∀ (i : Nat) (t a b c : Int), i < 3 → u[i]? = some t → mG t 0 (p.temps - 1) = true → mJ (vP KK (HN A B + 3)) (oS A B u false (i : Int), OQ A (ck p e) (B ++ oB o d a b c)) =
   mJ (vP KK (HN A B + 3)) (oS A B u false ((i + 1 : Nat) : Int), OQ A (ck p e) (B ++ oB o d (if i = 0 then t else a) (if i = 1 then t else b) (if i = 2 then t else c))) := by
  intro i t a b c hi ht hb
  rw [mE, KV hp hB hi ht hu3, if_pos hb]; rfl
 have no : ∀ (i : Nat) (t a b c : Int), i < 3 → u[i]? = some t → mG t 0 (p.temps - 1) = false → mJ (vP KK (HN A B + 3)) (oS A B u false (i : Int), OQ A (ck p e) (B ++ oB o d a b c)) =
   some (.ret, oS A B u false (i : Int), OQ A (ck p e) (B ++ oB o d a b c)) := by
  intro i t a b c hi ht hb
  rw [mE, KV hp hB hi ht hu3, if_neg (by rw [hb]; decide)]; rfl
 have en : ∀ a b c : Int, mJ (vP KK (HN A B + 3)) (oS A B u false (s : Int), OQ A (ck p e) (B ++ oB o d a b c)) = some (.exit 0, oS A B u false (s : Int), OQ A (ck p e) (B ++ oB o d a b c)) := by
  intro a b c
  rw [mE, UI hB hl]; rfl
 rcases (show s = 0 ∨ s = 1 ∨ s = 2 ∨ s = 3 by omega) with rfl | rfl | rfl | rfl
 ·exact ⟨fun _ => en _ _ _, fun h => by subst hu; cases h⟩
 ·have u0 : u[0]? = some o.a := by subst hu; rfl
  cases h0 : mG o.a 0 (p.temps - 1)
  ·exact ⟨fun h => by subst hu; simp [h0] at h, fun _ => ⟨0, 0, 0, 0, no 0 o.a 0 0 0 (by omega) u0 h0⟩⟩
  ·exact ⟨fun _ => (st 0 o.a 0 0 0 (by omega) u0 h0).trans (en _ _ _), fun h => by subst hu; simp [h0] at h⟩
 ·have u0 : u[0]? = some o.a := by subst hu; rfl
  have u1 : u[1]? = some o.b := by subst hu; rfl
  cases h0 : mG o.a 0 (p.temps - 1)
  ·exact ⟨fun h => by subst hu; simp [h0] at h, fun _ => ⟨0, 0, 0, 0, no 0 o.a 0 0 0 (by omega) u0 h0⟩⟩
  cases h1 : mG o.b 0 (p.temps - 1)
  ·exact ⟨fun h => by subst hu; simp [h0, h1] at h, fun _ => ⟨1, o.a, 0, 0, (st 0 o.a 0 0 0 (by omega) u0 h0).trans (no 1 o.b _ _ _ (by omega) u1 h1)⟩⟩
  ·exact ⟨fun _ => (st 0 o.a 0 0 0 (by omega) u0 h0).trans ((st 1 o.b _ _ _ (by omega) u1 h1).trans (en _ _ _)), fun h => by subst hu; simp [h0, h1] at h⟩
 ·have u0 : u[0]? = some o.a := by subst hu; rfl
  have u1 : u[1]? = some o.b := by subst hu; rfl
  have u2 : u[2]? = some o.c := by subst hu; rfl
  cases h0 : mG o.a 0 (p.temps - 1)
  ·exact ⟨fun h => by subst hu; simp [h0] at h, fun _ => ⟨0, 0, 0, 0, no 0 o.a 0 0 0 (by omega) u0 h0⟩⟩
  cases h1 : mG o.b 0 (p.temps - 1)
  ·exact ⟨fun h => by subst hu; simp [h0, h1] at h, fun _ => ⟨1, o.a, 0, 0, (st 0 o.a 0 0 0 (by omega) u0 h0).trans (no 1 o.b _ _ _ (by omega) u1 h1)⟩⟩
  cases h2 : mG o.c 0 (p.temps - 1)
  ·exact ⟨fun h => by subst hu; simp [h0, h1, h2] at h, fun _ => ⟨2, o.a, o.b, 0, (st 0 o.a 0 0 0 (by omega) u0 h0).trans ((st 1 o.b _ _ _ (by omega) u1 h1).trans (no 2 o.c _ _ _ (by omega) u2 h2))⟩⟩
  ·exact ⟨fun _ => (st 0 o.a 0 0 0 (by omega) u0 h0).trans ((st 1 o.b _ _ _ (by omega) u1 h1).trans ((st 2 o.c _ _ _ (by omega) u2 h2).trans (en _ _ _))), fun h => by subst hu; simp [h0, h1, h2] at h⟩
end
end Go.Proofs.YtkeoalhglkfbkaaDoor


namespace Go.Proofs.YtkeoalhglkfbkaaDoor
open Go Hk
def Kv (p : IR) (i : Int) : Int := match p.arrays[i.toNat]? with
 | some x => x.kind
 | none => 0
def Dc (p : IR) (o : Op) : Bool := if o.kind = 18 ∨ o.kind = 19 then decide (o.imm < (p.arrays.length : Int)) && (decide (o.kind = 18) || !decide (Kv p o.imm = 1)) else true
def M1 (p : IR) (o : Op) : Bool :=
 (mM o.kind).ok && (mG o.imm 0 (mM o.kind).most && ((mW o).all (fun t => mG t 0 (p.temps - 1)) &&
  (decide ((if (mM o.kind).dst = true then o.dst else 0) = o.dst ∧ (if 1 ≤ (mM o.kind).src then o.a else 0) = o.a ∧ (if 2 ≤ (mM o.kind).src then o.b else 0) = o.b ∧ (if 3 ≤ (mM o.kind).src then o.c else 0) = o.c) &&
   ((!(mM o.kind).dst || mG o.dst 0 (p.temps - 1)) && Dc p o))))
theorem FT (k : Int) : (mM k).src ≤ 3 := by
 unfold mM; (repeat' split) <;> simp
theorem Q_ {k i : Int} (h : mG i 0 (mM k).most = true) : 0 ≤ i := by
 simp only [mG, Bool.and_eq_true, decide_eq_true_eq] at h; exact h.1
section
variable {p : IR} (hp : Qh p) {A B : List lW} {e : Int} (hB : KB A B)
include hp hB
set_option maxHeartbeats 4000000 in
theorem c70 (o : Op) : KK 70 [.ptr A.length 0, .agg o.cells] (OQ A (ck p e) B) = some (.ret (.bool (M1 p o)), OQ A (ck p e) B) := by
 refine mN (Yx _ _ _ _) ?_
 have hX := wU (p := p) (e := e)
 have h134 := Xn o.kind
 have h74 := c74 o
 have hsrc := FT o.kind
 have hall := fun d => RB (e := e) hp hB (o := o) (d := d) hsrc (u := mW o) rfl
 have him : mG o.imm 0 (mM o.kind).most = true → 0 ≤ o.imm := fun h => Q_ h
 have hul : ((mW o).length : Int) = ((mM o.kind).src : Int) := by
  have : (mW o).length = (mM o.kind).src := by unfold mW; simp; omega
  omega
 have hKB := fun d a b c => RK (o := o) (d := d) (a := a) (b := b) (c := c) hB
 have h135 := fun d a b c => Xo (e := e) hp (hKB d a b c) o.dst
 unfold M1
 unfold oB at hall h135
 generalize hu : mW o = u at *
 generalize hf : mM o.kind = f at *
 obtain ⟨fd, fs, fm, fo⟩ := f
 simp only [Form.cells] at h134 hall h135
 cases fo
 ·simp only [Op.cells] at h134 ⊢
  simp -implicitDefEqProofs [KU, hB, hX, h134]
 cases hb : mG o.imm 0 fm
 ·simp only [Op.cells] at h134 ⊢
  simp -implicitDefEqProofs [KU, hB, hX, h134, CG, hb]
 have hi0 := him hb
 obtain ⟨d, hd⟩ : ∃ d, d = if fd = true then o.dst else 0 := ⟨_, rfl⟩
 obtain ⟨hall1, hall2⟩ := hall d
 cases hal : u.all (fun t => mG t 0 (p.temps - 1))
 ·obtain ⟨i, x, y, z, g⟩ := hall2 hal
  simp only [oS, Op.cells, hul] at g h74 h134 ⊢
  cases fd <;> simp only [if_true, if_false, Bool.false_eq_true] at hd <;> subst hd <;>
   simp -implicitDefEqProofs [KU, hB, hX, h134, CG, hb, h74, hul, g]
 ·have g := hall1 hal
  have hbd : ∀ x y : Int, (x == y) = decide (x = y) := fun x y => by by_cases h : x = y <;> simp [h]
  obtain ⟨ra, hra⟩ : ∃ x, x = if 1 ≤ fs then o.a else 0 := ⟨_, rfl⟩
  obtain ⟨rb, hrb⟩ : ∃ x, x = if 2 ≤ fs then o.b else 0 := ⟨_, rfl⟩
  obtain ⟨rc, hrc⟩ : ∃ x, x = if 3 ≤ fs then o.c else 0 := ⟨_, rfl⟩
  have h135 := h135 d ra rb rc
  simp only [← hra, ← hrb, ← hrc, ← hd] at g ⊢
  have hall : decide (d = o.dst ∧ ra = o.a ∧ rb = o.b ∧ rc = o.c) = (d == o.dst && (ra == o.a && (rb == o.b && rc == o.c))) := by
   simp only [hbd, Bool.decide_and]
  rw [hall]
  obtain ⟨ok, od, oa, ob, oc, oi⟩ := o
  simp only [oS, Op.cells, hul] at g h74 h134 h135 hd hi0 hb ⊢
  obtain ⟨n, rfl⟩ := Int.eq_ofNat_of_zero_le hi0
  cases hq : (d == od && (ra == oa && (rb == ob && rc == oc)))
  ·cases fd <;> simp only [if_true, if_false, Bool.false_eq_true] at hd <;> subst hd <;> (try simp only [beq_self_eq_true, Bool.true_and] at hq) <;>
    simp -implicitDefEqProofs [KU, hB, hX, h134, CG, hb, h74, hul, g, hq, o_, oD, xE]
  ·have hlt : A.length < HN A B + 3 := It
   simp only [ck] at hX g h135 ⊢
   by_cases hk : ok = 18
   ·subst hk
    cases fd <;> simp only [if_true, if_false, Bool.false_eq_true] at hd <;> subst hd <;> (try simp only [beq_self_eq_true, Bool.true_and] at hq)
    ·by_cases hl : n < p.arrays.length
     ·have hx : p.arrays[n]? = some p.arrays[n] := List.getElem?_eq_getElem hl
      have hl' : (n : Int) < p.arrays.length := by omega
      simp -implicitDefEqProofs [KU, hB, hX, h134, CG, hb, h74, hul, g, hq, o_, oD, xE, Dc, hl, hl', hx, mK.cells, Kv]
     ·have hl' : ¬ (n : Int) < p.arrays.length := by omega
      simp -implicitDefEqProofs [KU, hB, hX, h134, CG, hb, h74, hul, g, hq, o_, oD, xE, Dc, hl, hl']
    ·cases ht : mG d 0 (p.temps - 1) <;> rw [ht] at h135
     ·simp -implicitDefEqProofs [KU, hB, hX, h134, CG, hb, h74, hul, g, hq, o_, oD, xE, Dc, h135, ht]
     ·by_cases hl : n < p.arrays.length
      ·have hx : p.arrays[n]? = some p.arrays[n] := List.getElem?_eq_getElem hl
       have hl' : (n : Int) < p.arrays.length := by omega
       simp -implicitDefEqProofs [KU, hB, hX, h134, CG, hb, h74, hul, g, hq, o_, oD, xE, Dc, h135, ht, hl, hl', hx, mK.cells, Kv]
      ·have hl' : ¬ (n : Int) < p.arrays.length := by omega
       simp -implicitDefEqProofs [KU, hB, hX, h134, CG, hb, h74, hul, g, hq, o_, oD, xE, Dc, h135, ht, hl, hl']
   ·by_cases hk2 : ok = 19
    ·have hk := hk2
     clear hk2
     subst hk
     cases fd <;> simp only [if_true, if_false, Bool.false_eq_true] at hd <;> subst hd <;> (try simp only [beq_self_eq_true, Bool.true_and] at hq)
     ·by_cases hl : n < p.arrays.length
      ·have hx : p.arrays[n]? = some p.arrays[n] := List.getElem?_eq_getElem hl
       have hl' : (n : Int) < p.arrays.length := by omega
       simp -implicitDefEqProofs [KU, hB, hX, h134, CG, hb, h74, hul, g, hq, o_, oD, xE, Dc, hl, hl', hx, mK.cells, Kv]
      ·have hl' : ¬ (n : Int) < p.arrays.length := by omega
       simp -implicitDefEqProofs [KU, hB, hX, h134, CG, hb, h74, hul, g, hq, o_, oD, xE, Dc, hl, hl']
     ·cases ht : mG d 0 (p.temps - 1) <;> rw [ht] at h135
      ·simp -implicitDefEqProofs [KU, hB, hX, h134, CG, hb, h74, hul, g, hq, o_, oD, xE, Dc, h135, ht]
      ·by_cases hl : n < p.arrays.length
       ·have hx : p.arrays[n]? = some p.arrays[n] := List.getElem?_eq_getElem hl
        have hl' : (n : Int) < p.arrays.length := by omega
        simp -implicitDefEqProofs [KU, hB, hX, h134, CG, hb, h74, hul, g, hq, o_, oD, xE, Dc, h135, ht, hl, hl', hx, mK.cells, Kv]
       ·have hl' : ¬ (n : Int) < p.arrays.length := by omega
        simp -implicitDefEqProofs [KU, hB, hX, h134, CG, hb, h74, hul, g, hq, o_, oD, xE, Dc, h135, ht, hl, hl']
    ·cases fd <;> simp only [if_true, if_false, Bool.false_eq_true] at hd <;> subst hd <;> (try simp only [beq_self_eq_true, Bool.true_and] at hq)
     ·simp -implicitDefEqProofs [KU, hB, hX, h134, CG, hb, h74, hul, g, hq, o_, oD, xE, Dc, hk, hk2]
     ·cases ht : mG d 0 (p.temps - 1) <;> rw [ht] at h135 <;>
      simp -implicitDefEqProofs [KU, hB, hX, h134, CG, hb, h74, hul, g, hq, o_, oD, xE, Dc, hk, hk2, h135, ht]
end
end Go.Proofs.YtkeoalhglkfbkaaDoor


namespace Go.Proofs.YtkeoalhglkfbkaaDoor
open Go Hk
def AE (inn out : Int) : Int → List mK → Bool
 | _, [] => true
 | e, x :: r => (zI inn out e x).1 && AE inn out (zI inn out e x).2 r
theorem NP {inn out e : Int} {x : mK} (he : 0 ≤ e) : 0 ≤ (zI inn out e x).2 := by
 unfold zI
 split
 ·rename_i hs
  have hm := qS hs
  (repeat' split) <;> first
   | exact he
   | (rename_i h; simp only [mG, Bool.and_eq_true, decide_eq_true_eq] at h; simp only [Dm]; omega)
 ·exact he
def G6 (p : IR) (b : lX) : Bool := b.ops.all (M1 p) && Ak (p := p) b.term
def mZ (p : IR) : Int :=
 if oP p = false then 18
 else if mG p.inn 0 65536 = true ∧ mG p.out 0 65536 = true ∧ p.inn.tmod 4 = 0 ∧ p.out.tmod 4 = 0 ∧ 0 ≤ p.temps ∧ p.blocks ≠ [] then (if AE p.inn p.out 0 p.arrays && p.blocks.all (G6 p) then 0 else 2) else 2
section
variable {p : IR} (hp : Qh p) {A B : List lW} {q : Nat} (hq : q < A.length) (hB : KB A B)
include hp hq hB
theorem O7 : ∀ (n i : Nat) (e : Int), p.arrays.length < i + n → i ≤ p.arrays.length → 0 ≤ e →
  ∃ (ex : Ex) (r e' : Int) (j : Int), mJ (F6 KK (HN A B)) ([.ptr q 0, .int .i64 0, .ptr A.length 0, .slice (p.arrays.map mK.cells) .no, .int .i64 (p.arrays.length : Int), .int .i64 (i : Int)], OQ A (ck p e) B) =
   some (ex, [.ptr q 0, .int .i64 r, .ptr A.length 0, .slice (p.arrays.map mK.cells) .no, .int .i64 (p.arrays.length : Int), .int .i64 j], OQ A (ck p e') B) ∧
   ((ex = .ret ∧ r = 2 ∧ AE p.inn p.out e (p.arrays.drop i) = false) ∨ (ex = .exit 0 ∧ r = 0 ∧ AE p.inn p.out e (p.arrays.drop i) = true)) := by
 have hX := fun e => wU (p := p) (e := e)
 have q0 : ∀ h, kR.nM (HN A B) h (.ptr q 0) = .ptr q 0 := fun h => l_ (by have := sI (A := A) (B := B); omega)
 have q1 : ∀ h, kR.nM (HN A B) h (.ptr A.length 0) = .ptr A.length 0 := fun h => l_ sI
 have ha1 := hp.a1
 intro n
 induction n with
 | zero => intro i e a1 a2; omega
 | succ n ih =>
  intro i e a1 a2 he
  rw [mE]
  by_cases hi : i < p.arrays.length
  ·have hi' : (i : Int) < p.arrays.length := by omega
   have hx : p.arrays[i]? = some p.arrays[i] := List.getElem?_eq_getElem hi
   have w1 := vV (a := i) (by omega)
   rw [List.drop_eq_getElem_cons hi]
   generalize p.arrays[i] = y at *
   have hC : KB A (B ++ [.cells y.cells]) := hB.app (by simp [mK.cells])
   have h69 := c69 (e := e) hp hC y he
   have htr := fun e => sS (X := ck p e) (A := A) (B := B) (C := [.cells y.cells]) hB wU
   simp only [AE]
   cases hs : (zI p.inn p.out e y).1
   ·refine ⟨.ret, 2, (zI p.inn p.out e y).2, i, ?_, .inl ⟨rfl, rfl, rfl⟩⟩
    rw [hs] at h69
    simp only [mK.cells] at h69 htr hx ⊢
    simp -implicitDefEqProofs [F6, hi', hx, h69, lC, htr, q0, q1, mK.cells]
   ·obtain ⟨ex, r, e', j, g1, g2⟩ := ih (i + 1) (zI p.inn p.out e y).2 (by omega) hi (NP he)
    refine ⟨ex, r, e', j, ?_, g2⟩
    rw [hs] at h69
    simp only [Int.natCast_add, Int.cast_ofNat_Int] at g1
    rw [← g1]
    simp only [mK.cells] at h69 htr hx ⊢
    simp -implicitDefEqProofs [F6, hi', hx, h69, lC, htr, q0, q1, w1, mK.cells]
  ·have hi' : ¬ (i : Int) < p.arrays.length := by omega
   have htr := pN (X := ck p e) (A := A) (B := B) hB wU
   rw [List.drop_eq_nil_of_le (by omega)]
   refine ⟨.exit 0, 0, e, i, ?_, .inr ⟨rfl, rfl, rfl⟩⟩
   simp -implicitDefEqProofs [F6, hi', lC, htr, q0, q1]
theorem O8 (e : Int) (b : lX) (hb : b.ops.length ≤ 1048576) (k kk : Int) : ∀ (n i : Nat), b.ops.length < i + n → i ≤ b.ops.length →
  ∃ (ex : Ex) (r : Int) (j : Int), mJ (F7 KK (HN A B + 2)) ([.int .i64 0, .ptr A.length 0, .ptr (HN A B) 0, .slice (p.blocks.map lX.cells) .no, .int .i64 kk, .int .i64 k, .slice (b.ops.map Op.cells) .no, .int .i64 (b.ops.length : Int), .int .i64 (i : Int)], OQ A (ck p e) (B ++ [.cells b.cells, .front 0 0])) =
   some (ex, [.int .i64 r, .ptr A.length 0, .ptr (HN A B) 0, .slice (p.blocks.map lX.cells) .no, .int .i64 kk, .int .i64 k, .slice (b.ops.map Op.cells) .no, .int .i64 (b.ops.length : Int), .int .i64 j], OQ A (ck p e) (B ++ [.cells b.cells, .front 0 0])) ∧
   ((ex = .ret ∧ r = 2 ∧ (b.ops.drop i).all (M1 p) = false) ∨ (ex = .exit 4 ∧ r = 0 ∧ (b.ops.drop i).all (M1 p) = true)) := by
 have hX := wU (p := p) (e := e)
 have hB2 : KB A (B ++ [.cells b.cells, .front 0 0]) := hB.app (by simp [lX.cells])
 have q1 : ∀ h, kR.nM (HN A B + 2) h (.ptr A.length 0) = .ptr A.length 0 := fun h => l_ It
 have q2 : ∀ h, kR.nM (HN A B + 2) h (.ptr (HN A B) 0) = .ptr (HN A B) 0 := fun h => l_ (by omega)
 have hn2 : HN A (B ++ [.cells b.cells, .front 0 0]) = HN A B + 2 := by simp
 intro n
 induction n with
 | zero => intro i a1 a2; omega
 | succ n ih =>
  intro i a1 a2
  rw [mE]
  by_cases hi : i < b.ops.length
  ·have hi' : (i : Int) < b.ops.length := by omega
   have hx : b.ops[i]? = some b.ops[i] := List.getElem?_eq_getElem hi
   have w1 := vV (a := i) (by omega)
   rw [List.drop_eq_getElem_cons hi]
   generalize b.ops[i] = y at *
   have hC : KB A ((B ++ [.cells b.cells, .front 0 0]) ++ [.cells y.cells]) := hB2.app (by simp [Op.cells])
   have h70 := c70 (e := e) hp hC y
   have htr := sS (X := ck p e) (A := A) (B := B ++ [.cells b.cells, .front 0 0]) (C := [.cells y.cells]) hB2 wU
   rw [hn2] at htr
   simp only [List.append_assoc, List.cons_append, List.nil_append] at h70 htr
   simp only [List.all_cons]
   cases hs : M1 p y
   ·refine ⟨.ret, 2, i, ?_, .inl ⟨rfl, rfl, rfl⟩⟩
    rw [hs] at h70
    simp only [Op.cells] at h70 htr hx ⊢
    simp -implicitDefEqProofs [F7, hi', hx, h70, lC, htr, q1, q2, Op.cells]
   ·obtain ⟨ex, r, j, g1, g2⟩ := ih (i + 1) (by omega) hi
    refine ⟨ex, r, j, ?_, by simpa using g2⟩
    rw [hs] at h70
    simp only [Int.natCast_add, Int.cast_ofNat_Int] at g1
    rw [← g1]
    simp only [Op.cells] at h70 htr hx ⊢
    simp -implicitDefEqProofs [F7, hi', hx, h70, lC, htr, q1, q2, w1, Op.cells]
  ·have hi' : ¬ (i : Int) < b.ops.length := by omega
   have htr := pN (X := ck p e) (A := A) (B := B ++ [.cells b.cells, .front 0 0]) hB2 wU
   rw [hn2] at htr
   rw [List.drop_eq_nil_of_le (by omega)]
   refine ⟨.exit 4, 0, i, ?_, .inr ⟨rfl, rfl, rfl⟩⟩
   simp -implicitDefEqProofs [F7, hi', lC, htr, q1, q2]
theorem O9 (e : Int) (hops : ∀ b ∈ p.blocks, b.ops.length ≤ 1048576) : ∀ (n i : Nat), p.blocks.length < i + n → i ≤ p.blocks.length →
  ∃ (ex : Ex) (r : Int) (j : Int), mJ (DH KK (HN A B)) ([.int .i64 0, .ptr A.length 0, .slice (p.blocks.map lX.cells) .no, .int .i64 (p.blocks.length : Int), .int .i64 (i : Int)], OQ A (ck p e) B) =
   some (ex, [.int .i64 r, .ptr A.length 0, .slice (p.blocks.map lX.cells) .no, .int .i64 (p.blocks.length : Int), .int .i64 j], OQ A (ck p e) B) ∧
   ((ex = .ret ∧ r = 2 ∧ (p.blocks.drop i).all (G6 p) = false) ∨ (ex = .exit 2 ∧ r = 0 ∧ (p.blocks.drop i).all (G6 p) = true)) := by
 have hX := wU (p := p) (e := e)
 have q1 : ∀ h, kR.nM (HN A B) h (.ptr A.length 0) = .ptr A.length 0 := fun h => l_ sI
 have hb1 := hp.b1
 intro n
 induction n with
 | zero => intro i a1 a2; omega
 | succ n ih =>
  intro i a1 a2
  rw [mE]
  by_cases hi : i < p.blocks.length
  ·have hi' : (i : Int) < p.blocks.length := by omega
   have hx : p.blocks[i]? = some p.blocks[i] := List.getElem?_eq_getElem hi
   have hm := hops p.blocks[i] (List.getElem_mem hi)
   have w1 := vV (a := i) (by omega)
   rw [List.drop_eq_getElem_cons hi]
   generalize p.blocks[i] = y at *
   have hB2 : KB A (B ++ [.cells y.cells, .front 0 0]) := hB.app (by simp [lX.cells])
   have h71 := c71 (e := e) hp hB2 y.term
   have htr := sS (X := ck p e) (A := A) (B := B) (C := [.cells y.cells, .front 0 0]) hB wU
   obtain ⟨ex, r, j, g1, g2⟩ := O8 hp hq hB e y hm (i : Int) (p.blocks.length : Int) (y.ops.length + 1) 0 (by omega) (Nat.zero_le _)
   simp only [List.drop_zero, Int.cast_ofNat_Int] at g1 g2
   simp only [List.all_cons, G6]
   rcases g2 with ⟨rfl, rfl, g2⟩ | ⟨rfl, rfl, g2⟩
   ·refine ⟨.ret, 2, i, ?_, .inl ⟨rfl, rfl, by rw [g2]; rfl⟩⟩
    simp only [lX.cells, Term.cells] at h71 htr hx g1 ⊢
    simp -implicitDefEqProofs [DH, hi', hx, g1, h71, lC, htr, q1, lX.cells]
   ·rw [g2]
    cases ht : Ak (p := p) y.term
    ·refine ⟨.ret, 2, i, ?_, .inl ⟨rfl, rfl, rfl⟩⟩
     rw [ht] at h71
     simp only [lX.cells, Term.cells] at h71 htr hx g1 ⊢
     simp -implicitDefEqProofs [DH, hi', hx, g1, h71, lC, htr, q1, lX.cells]
    ·obtain ⟨ex, r, j, g3, g4⟩ := ih (i + 1) (by omega) hi
     refine ⟨ex, r, j, ?_, by simpa [G6] using g4⟩
     rw [ht] at h71
     simp only [Int.natCast_add, Int.cast_ofNat_Int] at g3
     rw [← g3]
     simp only [lX.cells, Term.cells] at h71 htr hx g1 ⊢
     simp -implicitDefEqProofs [DH, hi', hx, g1, h71, lC, htr, q1, w1, lX.cells]
  ·have hi' : ¬ (i : Int) < p.blocks.length := by omega
   have htr := pN (X := ck p e) (A := A) (B := B) hB wU
   rw [List.drop_eq_nil_of_le (by omega)]
   refine ⟨.exit 2, 0, i, ?_, .inr ⟨rfl, rfl, rfl⟩⟩
   simp -implicitDefEqProofs [DH, hi', lC, htr, q1]
end
end Go.Proofs.YtkeoalhglkfbkaaDoor


namespace Go.Proofs.YtkeoalhglkfbkaaDoor
open Go Hk
theorem Gg {l : List lX} {b : lX} (h : b ∈ l) : (b.ops.length : Int) ≤ Ap l := by
 induction l with
 | nil => cases h
 | cons x r ih =>
  have := EW r
  rcases List.mem_cons.1 h with rfl | h
  ·simp only [Ap]; omega
  ·have := ih h; simp only [Ap]; omega
structure WG (p : IR) : Prop where
 t1 : p.temps ≤ 1048576
 a1 : (p.arrays.length : Int) ≤ 1048576
 b1 : (p.blocks.length : Int) ≤ 1048576
 o1 : Ap p.blocks ≤ 1048576
 r1 : max p.out 0 + sL p.arrays ≤ 65536
theorem xJ {p : IR} : oP p = true ↔ WG p := by
 simp only [oP, Bool.and_eq_true, decide_eq_true_eq]
 exact ⟨fun ⟨⟨⟨⟨a, b⟩, c⟩, d⟩, e⟩ => ⟨a, b, c, d, e⟩, fun h => ⟨⟨⟨⟨h.t1, h.a1⟩, h.b1⟩, h.o1⟩, h.r1⟩⟩
set_option maxHeartbeats 1000000 in
theorem c30 (p : IR) (h : kT) : KK 30 [.agg p.cells] h = some (.ret (.int .i64 (mZ p)), h) := by
 refine lZ rfl rfl (mN (X_ _ _ _) ?_)
 have h67 := c67 p
 unfold mZ
 cases hl : oP p
 ·rw [hl] at h67
  simp only [IR.cells] at h67 ⊢
  simp [Rs, h67, lH]
 rw [hl] at h67
 obtain ⟨l1, l2, l3, l4, l5⟩ := xJ.1 hl
 cases c1 : mG p.inn 0 65536
 ·simp only [IR.cells] at h67 ⊢
  simp [Rs, h67, CG, c1, lH]
 cases c2 : mG p.out 0 65536
 ·simp only [IR.cells] at h67 ⊢
  simp [Rs, h67, CG, c1, c2, lH]
 by_cases c3 : p.inn.tmod 4 = 0
 case neg =>
  simp only [IR.cells] at h67 ⊢
  simp [Rs, h67, CG, c1, c2, c3, nD, lH]
 by_cases c4 : p.out.tmod 4 = 0
 case neg =>
  simp only [IR.cells] at h67 ⊢
  simp [Rs, h67, CG, c1, c2, c3, c4, nD, lH]
 by_cases c5 : 0 ≤ p.temps
 case neg =>
  have c5' : p.temps < 0 := by omega
  simp only [IR.cells] at h67 ⊢
  simp [Rs, h67, CG, c1, c2, c3, c4, c5, c5', nD, lH]
 by_cases c6 : p.blocks = []
 ·have c5' : ¬ p.temps < 0 := by omega
  simp only [IR.cells] at h67 ⊢
  rw [c6] at h67
  simp only [List.map_nil] at h67
  simp [Rs, h67, CG, c1, c2, c3, c4, c5, c5', c6, nD, lH]
 have c5' : ¬ p.temps < 0 := by omega
 have c6' : ¬ (p.blocks.length : Int) = 0 := by
  have : p.blocks.length ≠ 0 := fun e => c6 (List.eq_nil_of_length_eq_zero e)
  omega
 have hp : Qh p := by
  simp only [mG, Bool.and_eq_true, decide_eq_true_eq] at c1 c2
  exact ⟨c5, l1, l2, l3, c1.1, c1.2, c2.1, c2.2⟩
 have hB : KB [lW.cells p.cells] [] := ⟨fun n hn => by simp [IR.cells], fun n hn => by simp⟩
 have hq : 0 < [lW.cells p.cells].length := by simp
 obtain ⟨ex, r, e', j, g1, g2⟩ := O7 hp hq hB (p.arrays.length + 1) 0 0 (by omega) (Nat.zero_le _) (by omega)
 obtain ⟨ex2, r2, j2, g3, g4⟩ := O9 hp hq hB e' (fun b hb => by have := Gg hb; omega) (p.blocks.length + 1) 0 (by omega) (Nat.zero_le _)
 simp only [List.drop_zero, Int.cast_ofNat_Int, OQ, HN, List.length_cons, List.length_nil, List.cons_append, List.nil_append, ck, IR.cells, Nat.zero_add, Nat.add_zero, Nat.reduceAdd] at g1 g2 g3 g4
 rcases g2 with ⟨rfl, rfl, g2⟩ | ⟨rfl, rfl, g2⟩
 ·simp only [IR.cells] at h67 ⊢
  simp [Rs, h67, CG, c1, c2, c3, c4, c5, c5', c6, c6', nD, lH, g1, g2]
 ·rcases g4 with ⟨rfl, rfl, g4⟩ | ⟨rfl, rfl, g4⟩
  ·simp only [IR.cells] at h67 ⊢
   simp [Rs, h67, CG, c1, c2, c3, c4, c5, c5', c6, c6', nD, lH, g1, g2, g3, g4]
  ·simp only [IR.cells] at h67 ⊢
   simp [Rs, h67, CG, c1, c2, c3, c4, c5, c5', c6, c6', nD, lH, g1, g2, g3, g4]
end Go.Proofs.YtkeoalhglkfbkaaDoor


namespace Go.Proofs.YtkeoalhglkfbkaaDoor
open Go Hk
def Rf : List (List UInt8) := [[], [100,110], [100,97], [100,97,98], [100,97,98], [100,97,98], [100,97,98], [100,97,98], [100,97,98], [100,97,98], [100,97], [100,97,115], [100,97,115], [100,97,115], [100,97,98], [100,97,98], [100,97,98], [100,97,98,99], [100,97,114], [97,98,114]]
def oH (k : Int) : List UInt8 := if 1 ≤ k ∧ k ≤ 19 then Rf.getD k.toNat [] else []
theorem ER {k : Int} (h : 1 ≤ k ∧ k ≤ 19) : k = 1 ∨ k = 2 ∨ k = 3 ∨ k = 4 ∨ k = 5 ∨ k = 6 ∨ k = 7 ∨ k = 8 ∨ k = 9 ∨ k = 10 ∨ k = 11 ∨ k = 12 ∨ k = 13 ∨ k = 14 ∨ k = 15 ∨ k = 16 ∨ k = 17 ∨ k = 18 ∨ k = 19 := by omega
theorem B_ (k : Int) (h : kT) : KK 163 [.int .i64 k] h = some (.ret (.str (oH k)), h) := by
 refine lZ rfl rfl (mN (UD _ _ _) ?_)
 by_cases hk : 1 ≤ k ∧ k ≤ 19
 ·rcases ER hk with rfl | rfl | rfl | rfl | rfl | rfl | rfl | rfl | rfl | rfl | rfl | rfl | rfl | rfl | rfl | rfl | rfl | rfl | rfl <;> kernel_rfl
 ·have e : oH k = [] := if_neg hk
  rw [e]
  by_cases h1 : k < 1
  ·simp [X2, h1, lH]
  ·have h2 : 19 < k := by omega
   simp [X2, h1, h2, lH]
theorem OV (s : List UInt8) (hs : s.length ≤ 1000) (c : UInt8) : ∀ (n i : Nat), s.length < i + n → i ≤ s.length →
  ∃ (ex : Ex) (r : Bool) (j : Int), mJ (Da KK 0) ([.str s, .int .u8 (c.toNat : Int), .bool false, .int .i64 (i : Int)], []) = some (ex, [.str s, .int .u8 (c.toNat : Int), .bool r, .int .i64 j], []) ∧
   ((ex = .ret ∧ r = true ∧ c ∈ s.drop i) ∨ (ex = .exit 0 ∧ ¬ c ∈ s.drop i)) := by
 intro n
 induction n with
 | zero => intro i a1 a2; omega
 | succ n ih =>
  intro i a1 a2
  rw [mE]
  by_cases hi : i < s.length
  ·have hi' : (i : Int) < s.length := by omega
   have hx : s[i]? = some s[i] := List.getElem?_eq_getElem hi
   have w1 := vV (a := i) (by omega)
   rw [List.drop_eq_getElem_cons hi]
   generalize s[i] = y at *
   by_cases hc : y = c
   ·subst hc
    refine ⟨.ret, true, i, ?_, .inl ⟨rfl, rfl, by simp⟩⟩
    simp [Da, hi', hx, wE]
   ·have hc' : ¬ (y.toNat : Int) = c.toNat := fun e => hc (UInt8.toNat_inj.1 (by omega))
    obtain ⟨ex, r, j, g1, g2⟩ := ih (i + 1) (by omega) hi
    refine ⟨ex, r, j, ?_, ?_⟩
    ·simp only [Int.natCast_add, Int.cast_ofNat_Int] at g1
     rw [← g1]
     simp [Da, hi', hx, wE, hc', w1]
    ·have : ∀ l : List UInt8, c ∈ y :: l ↔ c ∈ l := fun l => by
      rw [List.mem_cons]; exact ⟨fun h => h.elim (fun e => absurd e.symm hc) id, .inr⟩
     simpa only [this] using g2
  ·have hi' : ¬ (i : Int) < s.length := by omega
   rw [List.drop_eq_nil_of_le (by omega)]
   refine ⟨.exit 0, false, i, ?_, .inr ⟨rfl, by simp⟩⟩
   simp [Da, hi', wE]
theorem ag7 (s : List UInt8) (hs : s.length ≤ 1000) (c : UInt8) (h : kT) : KK 164 [.str s, .int .u8 (c.toNat : Int)] h = some (.ret (.bool (decide (c ∈ s))), h) := by
 refine lZ rfl rfl (mN (UE _ _ _ _) ?_)
 obtain ⟨ex, r, j, g1, g2⟩ := OV s hs c (s.length + 1) 0 (by omega) (Nat.zero_le _)
 simp only [List.drop_zero, Int.cast_ofNat_Int] at g1 g2
 rcases g2 with ⟨rfl, rfl, g2⟩ | ⟨rfl, g2⟩
 ·simp [X3, g1, g2, lH]
 ·simp [X3, g1, g2, lH]
theorem KS (k : Int) : (oH k).length ≤ 1000 := by
 unfold oH
 split
 ·rename_i h
  rcases ER h with rfl | rfl | rfl | rfl | rfl | rfl | rfl | rfl | rfl | rfl | rfl | rfl | rfl | rfl | rfl | rfl | rfl | rfl | rfl <;> decide
 ·decide
theorem qP (k : Int) : decide ((100 : UInt8) ∈ oH k) = (mM k).dst ∧ decide ((97 : UInt8) ∈ oH k) = decide (1 ≤ (mM k).src) ∧ decide ((98 : UInt8) ∈ oH k) = decide (2 ≤ (mM k).src) ∧
  decide ((99 : UInt8) ∈ oH k) = decide (3 ≤ (mM k).src) ∧ decide (oH k = []) = !(mM k).ok ∧ decide ((110 : UInt8) ∈ oH k) = decide (k = 1) ∧ decide ((115 : UInt8) ∈ oH k) = decide (11 ≤ k ∧ k ≤ 13) ∧ decide ((114 : UInt8) ∈ oH k) = decide (k = 18 ∨ k = 19) := by
 by_cases h : 1 ≤ k ∧ k ≤ 19
 ·rcases ER h with rfl | rfl | rfl | rfl | rfl | rfl | rfl | rfl | rfl | rfl | rfl | rfl | rfl | rfl | rfl | rfl | rfl | rfl | rfl <;> decide
 ·have e : oH k = [] := if_neg h
  have e2 : mM k = ⟨false, 0, 0, false⟩ := by
   unfold mM
   rw [if_neg (by omega), if_neg (by omega), if_neg (by omega), if_neg (by omega), if_neg (by omega), if_neg (by omega), if_neg (by omega)]
  rw [e, e2]
  have h1 : ¬ k = 1 := by omega
  have h2 : ¬ (11 ≤ k ∧ k ≤ 13) := by omega
  have h3 : ¬ (k = 18 ∨ k = 19) := by omega
  simp [h1, h2, h3]
theorem FB (k : Int) (c : UInt8) (z : Int) (hz : z = (c.toNat : Int)) (h : kT) : KK 164 [.str (oH k), .int .u8 z] h = some (.ret (.bool (decide (c ∈ oH k))), h) := by
 subst hz; exact ag7 _ (KS k) c h
section
variable (k : Int) (h : kT)
theorem FW : KK 164 [.str (oH k), .int .u8 100] h = some (.ret (.bool (mM k).dst), h) := by have g := FB k 100 100 rfl h; rwa [(qP k).1] at g
theorem Hd : KK 164 [.str (oH k), .int .u8 97] h = some (.ret (.bool (decide (1 ≤ (mM k).src))), h) := by have g := FB k 97 97 rfl h; rwa [(qP k).2.1] at g
theorem hasB : KK 164 [.str (oH k), .int .u8 98] h = some (.ret (.bool (decide (2 ≤ (mM k).src))), h) := by have g := FB k 98 98 rfl h; rwa [(qP k).2.2.1] at g
theorem KL : KK 164 [.str (oH k), .int .u8 99] h = some (.ret (.bool (decide (3 ≤ (mM k).src))), h) := by have g := FB k 99 99 rfl h; rwa [(qP k).2.2.2.1] at g
theorem Q7 : KK 164 [.str (oH k), .int .u8 110] h = some (.ret (.bool (decide (k = 1))), h) := by have g := FB k 110 110 rfl h; rwa [(qP k).2.2.2.2.2.1] at g
theorem TT : KK 164 [.str (oH k), .int .u8 115] h = some (.ret (.bool (decide (11 ≤ k ∧ k ≤ 13))), h) := by have g := FB k 115 115 rfl h; rwa [(qP k).2.2.2.2.2.2.1] at g
theorem XK : KK 164 [.str (oH k), .int .u8 114] h = some (.ret (.bool (decide (k = 18 ∨ k = 19))), h) := by have g := FB k 114 114 rfl h; rwa [(qP k).2.2.2.2.2.2.2] at g
end
def vN (p : IR) (there : Bool) (t : Int) : Bool := if there then decide (0 ≤ t) && decide (t < p.temps) else decide (t = 0)
theorem ag8 (p : IR) (there : Bool) (t : Int) (h : kT) : KK 176 [.agg p.cells, .bool there, .int .i64 t] h = some (.ret (.bool (vN p there t)), h) := by
 refine lZ rfl rfl (mN (UG _ _ _ _ _) ?_)
 cases there
 ·simp [X5, IR.cells, vN, lH]
 ·by_cases h1 : 0 ≤ t <;> by_cases h2 : t < p.temps <;> simp [X5, IR.cells, vN, lH, h1, h2]
def q8 (x : mK) : Int := if p5 x = true then Dm (x.elem * x.len) else 0
theorem OW (z : Int) (mm : Nat) (hp : kT) (ht : mL mm hp = some hp) : ∀ (n : Nat) (v : Int), 0 ≤ v → v ≤ 100000 → v.toNat % 4 + n = 4 ∨ (n = 0 ∧ v.toNat % 4 = 0) → mJ (Bt KK mm) ([.int .i64 z, .int .i64 v], hp) = some (.exit 0, [.int .i64 z, .int .i64 (Dm v)], hp) := by
 have fin : ∀ v : Int, 0 ≤ v → v.toNat % 4 = 0 → mJ (Bt KK mm) ([.int .i64 z, .int .i64 v], hp) = some (.exit 0, [.int .i64 z, .int .i64 (Dm v)], hp) := by
  intro v h0 h1
  rw [mE]
  have hm : v.tmod 4 = 0 := by rw [Int.tmod_eq_emod_of_nonneg h0]; omega
  have hu : Dm v = v := by unfold Dm; omega
  simp [Bt, lC, ht, nD, hm, hu]
 intro n
 induction n with
 | zero => intro v h0 h1 h2; exact fin v h0 (by omega)
 | succ n ih =>
  intro v h0 h1 h2
  by_cases h3 : v.toNat % 4 = 0
  ·exact fin v h0 h3
  ·rw [mE]
   have hm : ¬ v.tmod 4 = 0 := by rw [Int.tmod_eq_emod_of_nonneg h0]; omega
   have w1 : IntKind.i64.wrap (v + 1) = v + 1 := by rw [wrap64] <;> omega
   have hu : Dm (v + 1) = Dm v := by unfold Dm; omega
   have g := fin
   by_cases h4 : (v + 1).toNat % 4 = 0
   ·have g := fin (v + 1) (by omega) h4
    rw [hu] at g
    rw [← g]
    simp [Bt, lC, ht, nD, hm, w1]
   ·have hle : v + 1 ≤ 100000 := by omega
    have g := ih (v + 1) (by omega) hle (by omega)
    rw [hu] at g
    rw [← g]
    simp [Bt, lC, ht, nD, hm, w1]
theorem acJ (x : mK) (h : kT) : KK 175 [.agg x.cells] h = some (.ret (.int .i64 (q8 x)), h) := by
 refine lZ rfl rfl (mN (UF _ _ _) ?_)
 cases hs : p5 x
 ·have e : q8 x = 0 := by simp [q8, hs]
  rw [e]
  by_cases h1 : x.elem = 1 ∨ x.elem = 4
  ·have h2 : x.len < 1 ∨ 16384 < x.len := by
    simp only [p5, Bool.and_eq_false_iff, Bool.or_eq_false_iff, decide_eq_false_iff_not] at hs
    omega
   by_cases h3 : x.len < 1
   ·rcases h1 with h1 | h1 <;> simp [Rq, mK.cells, h1, h3, lH]
   ·have h4 : 16384 < x.len := by omega
    rcases h1 with h1 | h1 <;> simp [Rq, mK.cells, h1, h3, h4, lH]
  ·have h2 : ¬ x.elem = 1 := by omega
   have h3 : ¬ x.elem = 4 := by omega
   simp [Rq, mK.cells, h2, h3, lH]
 ·have hm := qS hs
  have e : q8 x = Dm (x.elem * x.len) := by simp [q8, hs]
  rw [e]
  have w1 : IntKind.i64.wrap (x.elem * x.len) = x.elem * x.len := by rw [wrap64] <;> omega
  have g := OW 0 1 [.cells x.cells] (by simp [mL, mK.cells]) (4 - (x.elem * x.len).toNat % 4) (x.elem * x.len) (by omega) (by omega) (by omega)
  simp only [p5, Bool.and_eq_true, Bool.or_eq_true, decide_eq_true_eq] at hs
  obtain ⟨h1, h2, h3⟩ := hs
  have h4 : ¬ x.len < 1 := by omega
  have h5 : ¬ 16384 < x.len := by omega
  simp only [mK.cells] at g
  rcases h1 with h1 | h1 <;> rw [h1] at g w1 ⊢ <;> (try simp only [Int.one_mul] at g w1 ⊢) <;> simp [Rq, mK.cells, h1, h4, h5, lH, w1, g]
end Go.Proofs.YtkeoalhglkfbkaaDoor


namespace Go.Proofs.YtkeoalhglkfbkaaDoor
open Go Hk
def Mk (p : IR) (o : Op) : Bool :=
 if o.kind = 1 then decide (o.imm ≤ 4294967295) else if 11 ≤ o.kind ∧ o.kind ≤ 13 then decide (o.imm < 32)
 else if o.kind = 18 ∨ o.kind = 19 then decide (o.imm < (p.arrays.length : Int)) && (decide (o.kind = 18) || !decide (Kv p o.imm = 1)) else decide (o.imm = 0)
def opR (p : IR) (o : Op) : Bool :=
 (mM o.kind).ok && (vN p (mM o.kind).dst o.dst && (vN p (decide (1 ≤ (mM o.kind).src)) o.a && (vN p (decide (2 ≤ (mM o.kind).src)) o.b && (vN p (decide (3 ≤ (mM o.kind).src)) o.c && (decide (0 ≤ o.imm) && Mk p o)))))
theorem Q4 {k : Int} (h : ¬ (1 ≤ k ∧ k ≤ 19)) : mM k = ⟨false, 0, 0, false⟩ := by
 unfold mM
 rw [if_neg (by omega), if_neg (by omega), if_neg (by omega), if_neg (by omega), if_neg (by omega), if_neg (by omega), if_neg (by omega)]
set_option maxHeartbeats 4000000 in
theorem YW {p : IR} (ha : (p.arrays.length : Int) ≤ 1048576) (o : Op) : opR p o = M1 p o := by
 obtain ⟨k, d, a, b, c, i⟩ := o
 by_cases hk : 1 ≤ k ∧ k ≤ 19
 ·rw [Bool.eq_iff_iff]
  rcases ER hk with rfl | rfl | rfl | rfl | rfl | rfl | rfl | rfl | rfl | rfl | rfl | rfl | rfl | rfl | rfl | rfl | rfl | rfl | rfl <;>
   (simp [opR, M1, mM, vN, Mk, Dc, mW, mG]; try omega)
 ·simp [opR, M1, Q4 hk]
theorem Xk (o : Op) (h : kT) : KK 101 [.agg o.cells] h = some (.ret (.bool (mM o.kind).dst), h) := by
 refine lZ rfl rfl (mN (Uh _ _ _) ?_)
 simp [adM, Op.cells, B_, FW, lH]
set_option maxHeartbeats 4000000 in
theorem agY {p : IR} (ha : (p.arrays.length : Int) ≤ 1048576) (o : Op) (h : kT) : KK 128 [.agg p.cells, .agg o.cells] h = some (.ret (.bool (M1 p o)), h) := by
 rw [← YW ha]
 refine lZ rfl rfl (mN (Ur _ _ _ _) ?_)
 have hl := (qP o.kind).2.2.2.2.1
 have f := fun b t => ag8 p b t
 obtain ⟨k, d, a, b, c, i⟩ := o
 unfold opR
 simp only [Op.cells, IR.cells] at f hl ⊢
 cases ho : (mM k).ok
 ·rw [ho] at hl
  have hl : oH k = [] := by simpa using hl
  have g := B_ k
  rw [hl] at g
  simp [EH, g, lH]
 rw [ho] at hl
 have hl : ¬ oH k = [] := by simpa using hl
 cases h1 : vN p (mM k).dst d
 ·simp [EH, B_, FW, hl, f, h1, lH]
 cases h2 : vN p (decide (1 ≤ (mM k).src)) a
 ·simp [EH, B_, FW, Hd, hl, f, h1, h2, lH]
 cases h3 : vN p (decide (2 ≤ (mM k).src)) b
 ·simp [EH, B_, FW, Hd, hasB, hl, f, h1, h2, h3, lH]
 cases h4 : vN p (decide (3 ≤ (mM k).src)) c
 ·simp [EH, B_, FW, Hd, hasB, KL, hl, f, h1, h2, h3, h4, lH]
 by_cases h5 : 0 ≤ i
 case neg =>
  have h5' : i < 0 := by omega
  simp [EH, B_, FW, Hd, hasB, KL, hl, f, h1, h2, h3, h4, h5, h5', lH]
 have h5' : ¬ i < 0 := by omega
 obtain ⟨n, rfl⟩ := Int.eq_ofNat_of_zero_le h5
 by_cases k1 : k = 1
 ·subst k1
  simp [EH, B_, FW, Hd, hasB, KL, Q7, hl, f, h1, h2, h3, h4, h5', lH, Mk]
 by_cases k2 : 11 ≤ k ∧ k ≤ 13
 ·simp [EH, B_, FW, Hd, hasB, KL, Q7, TT, hl, f, h1, h2, h3, h4, h5', lH, Mk, k1, k2]
 by_cases k3 : k = 18 ∨ k = 19
 ·by_cases hn : n < p.arrays.length
  ·have hx : p.arrays[n]? = some p.arrays[n] := List.getElem?_eq_getElem hn
   have hn' : (n : Int) < p.arrays.length := by omega
   rcases k3 with rfl | rfl <;>
   simp [EH, B_, FW, Hd, hasB, KL, Q7, TT, XK, hl, f, h1, h2, h3, h4, h5', lH, Mk, hn, hn', hx, mK.cells, Kv]
  ·have hn' : ¬ (n : Int) < p.arrays.length := by omega
   rcases k3 with rfl | rfl <;>
   simp [EH, B_, FW, Hd, hasB, KL, Q7, TT, XK, hl, f, h1, h2, h3, h4, h5', lH, Mk, hn, hn', Kv]
 ·have k3' : ¬ k = 18 ∧ ¬ k = 19 := by omega
  have hr := XK k
  have hs := TT k
  rw [show decide (k = 18 ∨ k = 19) = false by simp [k3']] at hr
  rw [show decide (11 ≤ k ∧ k ≤ 13) = false by simpa using fun h => by omega] at hs
  simp [EH, B_, FW, Hd, hasB, KL, Q7, hs, hr, hl, f, h1, h2, h3, h4, h5', lH, Mk, k1, k2, k3, k3']
end Go.Proofs.YtkeoalhglkfbkaaDoor


namespace Go.Proofs.YtkeoalhglkfbkaaDoor
open Go Hk
set_option maxHeartbeats 1000000 in
theorem agZ {p : IR} (t : Term) (h : kT) : KK 129 [.agg p.cells, .agg t.cells] h = some (.ret (.bool (Ak (p := p) t)), h) := by
 refine lZ rfl rfl (mN (Us _ _ _ _) ?_)
 obtain ⟨k, a, y, n⟩ := t
 unfold Ak mG
 have e1 : ∀ z : Int, decide (z ≤ (p.blocks.length : Int) - 1) = decide (z < (p.blocks.length : Int)) := fun z => by congr 1; exact propext ⟨by omega, by omega⟩
 have e2 : ∀ z : Int, decide (z ≤ p.temps - 1) = decide (z < p.temps) := fun z => by congr 1; exact propext ⟨by omega, by omega⟩
 simp only [Term.cells, IR.cells, e1, e2]
 by_cases k1 : k = 1
 ·subst k1
  by_cases ha : a = 0 <;> by_cases hn : n = 0 <;> by_cases h1 : -1 ≤ y <;> by_cases h2 : y < (p.blocks.length : Int) <;> simp [I7, ha, hn, h1, h2, lH]
 by_cases k2 : k = 2
 ·subst k2
  by_cases ha : 0 ≤ a
  case neg => simp [I7, ha, lH]
  by_cases ha2 : a < p.temps
  case neg => simp [I7, ha, ha2, lH]
  by_cases hy : -1 ≤ y
  case neg => simp [I7, ha, ha2, hy, lH]
  by_cases hy2 : y < (p.blocks.length : Int)
  case neg => simp [I7, ha, ha2, hy, hy2, lH]
  by_cases hn : -1 ≤ n <;> by_cases hn2 : n < (p.blocks.length : Int) <;> simp [I7, ha, ha2, hy, hy2, hn, hn2, lH]
 ·by_cases k3 : k = 3
  ·subst k3
   by_cases ha : a = 0 <;> by_cases hy : y = 0 <;> by_cases hn : n = 0 <;> simp [I7, ha, hy, hn, lH]
  ·simp [I7, k1, k2, k3, lH]
theorem N9 {x : mK} (h : p5 x = true) : q8 x = Dm (x.elem * x.len) ∧ 1 ≤ q8 x ∧ q8 x ≤ 65536 := by
 have hm := qS h
 have e : q8 x = Dm (x.elem * x.len) := by simp [q8, h]
 rw [e]; unfold Dm; omega
def Dv (inn out e : Int) (x : mK) : Bool × Int :=
 if q8 x = 0 ∨ x.off < 0 ∨ ¬ x.off.tmod 4 = 0 ∨ 65536 < x.off then (false, e)
 else if x.kind = 0 ∧ x.off = 0 then (true, e)
 else if x.kind = 1 ∧ x.off + x.elem * x.len ≤ inn then (true, e)
 else if x.kind = 2 ∧ x.off + x.elem * x.len ≤ out ∧ e ≤ x.off then (true, x.off + q8 x)
 else (false, e)
theorem TA {inn out e : Int} (hi : inn ≤ 65536) (ho : out ≤ 65536) (he : 0 ≤ e) (x : mK) : (Dv inn out e x).1 = (zI inn out e x).1 ∧ ((zI inn out e x).1 = true → (Dv inn out e x).2 = (zI inn out e x).2) := by
 cases hs : p5 x
 ·have : q8 x = 0 := by simp [q8, hs]
  simp [Dv, zI, hs, this]
 ·obtain ⟨r1, r2, r3⟩ := N9 hs
  have hm := qS hs
  have hr0 : ¬ q8 x = 0 := by omega
  by_cases h1 : x.off < 0 ∨ ¬ x.off.tmod 4 = 0 ∨ 65536 < x.off
  ·have e1 : Dv inn out e x = (false, e) := by unfold Dv; rw [if_pos (.inr h1)]
   rw [e1]
   have e2 : (zI inn out e x).1 = false := by
    unfold zI mG
    rw [if_pos hs]
    split
    ·simp only [decide_eq_false_iff_not]
     rintro h0; rw [h0] at h1; simp at h1
    ·split
     ·simp only [Bool.and_eq_false_iff, decide_eq_false_iff_not]; omega
     ·split
      ·split
       ·rename_i h2
        simp only [Bool.and_eq_true, decide_eq_true_eq] at h2; omega
       ·rfl
      ·rfl
   rw [e2]; simp
  ·have h2 : ¬ (q8 x = 0 ∨ x.off < 0 ∨ ¬ x.off.tmod 4 = 0 ∨ 65536 < x.off) := by omega
   have t4 : x.off.tmod 4 = 0 := by omega
   have hu : Dm (x.off + x.elem * x.len) = x.off + q8 x := by
    rw [r1]; unfold Dm
    have : x.off % 4 = 0 := by rw [← Int.tmod_eq_emod_of_nonneg (by omega)]; exact t4
    omega
   unfold Dv zI mG
   rw [if_neg h2, if_pos hs]
   by_cases k0 : x.kind = 0
   ·by_cases h3 : x.off = 0 <;> simp [k0, h3]
   by_cases k1 : x.kind = 1
   ·by_cases h3 : x.off + x.elem * x.len ≤ inn
    ·have h4 : x.off ≤ inn - x.elem * x.len := by omega
     have h5 : 0 ≤ x.off := by omega
     simp [k1, h3, h4, h5, t4]
    ·have h4 : ¬ x.off ≤ inn - x.elem * x.len := by omega
     simp [k1, h3, h4]
   by_cases k2 : x.kind = 2
   ·by_cases h3 : x.off + x.elem * x.len ≤ out
    ·have h4 : x.off ≤ out - x.elem * x.len := by omega
     by_cases h5 : e ≤ x.off
     ·simp [k2, h3, h4, h5, t4, hu]
     ·simp [k2, h3, h4, h5]
    ·have h4 : ¬ x.off ≤ out - x.elem * x.len := by omega
     simp [k2, h3, h4]
   ·simp [k0, k1, k2]
section
variable {p : IR} (hp : Qh p)
include hp
set_option maxHeartbeats 4000000 in
theorem OR : ∀ (n i : Nat) (e : Int), p.arrays.length < i + n → i ≤ p.arrays.length → 0 ≤ e → e ≤ 200000 →
  ∃ (ex : Ex) (r : Bool) (e' j : Int), mJ (rE KK 1) ([.ptr 0 0, .bool false, .int .i64 e, .int .i64 (i : Int)], [.cells p.cells]) = some (ex, [.ptr 0 0, .bool r, .int .i64 e', .int .i64 j], [.cells p.cells]) ∧
   ((ex = .ret ∧ r = false ∧ AE p.inn p.out e (p.arrays.drop i) = false) ∨ (ex = .exit 0 ∧ AE p.inn p.out e (p.arrays.drop i) = true)) := by
 have ha1 := hp.a1
 have htr : ∀ C, mL 1 (.cells p.cells :: C) = some [.cells p.cells] := fun C => by simp [mL, IR.cells]
 intro n
 induction n with
 | zero => intro i e a1 a2; omega
 | succ n ih =>
  intro i e a1 a2 he he2
  rw [mE]
  by_cases hi : i < p.arrays.length
  ·have hi' : (i : Int) < p.arrays.length := by omega
   have hx : p.arrays[i]? = some p.arrays[i] := List.getElem?_eq_getElem hi
   have w1 := vV (a := i) (by omega)
   rw [List.drop_eq_getElem_cons hi]
   generalize p.arrays[i] = y at *
   have g175 := acJ y
   obtain ⟨eq1, eq2⟩ := TA hp.i1 hp.o1 he y
   have i1 := hp.i1
   have o1 := hp.o1
   simp only [AE]
   rw [← eq1] at eq2 ⊢
   cases hs : (Dv p.inn p.out e y).1
   ·refine ⟨.ret, false, e, i, ?_, .inl ⟨rfl, rfl, rfl⟩⟩
    unfold Dv at hs
    by_cases c1 : q8 y = 0
    ·simp only [mK.cells, IR.cells] at g175 htr hx ⊢
     simp [rE, hi', hx, mK.cells, g175, c1, lC, htr, l_]
    by_cases c2 : y.off < 0
    ·simp only [mK.cells, IR.cells] at g175 htr hx ⊢
     simp [rE, hi', hx, mK.cells, g175, c1, c2, lC, htr, l_]
    by_cases c3 : y.off.tmod 4 = 0
    case neg =>
     simp only [mK.cells, IR.cells] at g175 htr hx ⊢
     simp [rE, hi', hx, mK.cells, g175, c1, c2, c3, nD, lC, htr, l_]
    by_cases c4 : 65536 < y.off
    ·simp only [mK.cells, IR.cells] at g175 htr hx ⊢
     simp [rE, hi', hx, mK.cells, g175, c1, c2, c3, c4, nD, lC, htr, l_]
    rw [if_neg (by omega)] at hs
    have hsh : p5 y = true := by
     cases h : p5 y
     ·exact absurd (by simp [q8, h]) c1
     ·rfl
    have hm := qS hsh
    have w2 : IntKind.i64.wrap (y.elem * y.len) = y.elem * y.len := by rw [wrap64] <;> omega
    have w3 : IntKind.i64.wrap (y.off + y.elem * y.len) = y.off + y.elem * y.len := by rw [wrap64] <;> omega
    by_cases k0 : y.kind = 0
    ·have c5 : ¬ y.off = 0 := fun h => by simp [k0, h] at hs
     simp only [mK.cells, IR.cells] at g175 htr hx ⊢
     rw [k0] at g175
     simp [rE, hi', hx, mK.cells, g175, c1, c2, c3, c4, c5, k0, nD, lC, htr, l_]
    by_cases k1 : y.kind = 1
    ·have c5 : ¬ y.off + y.elem * y.len ≤ p.inn := fun h => by simp [k1, h] at hs
     simp only [mK.cells, IR.cells] at g175 htr hx ⊢
     rw [k1] at g175
     simp [rE, hi', hx, mK.cells, g175, c1, c2, c3, c4, c5, k1, w2, w3, nD, lC, htr, l_]
    by_cases k2 : y.kind = 2
    ·by_cases c5 : y.off + y.elem * y.len ≤ p.out
     ·have c6 : ¬ e ≤ y.off := fun h => by simp [k2, c5, h] at hs
      simp only [mK.cells, IR.cells] at g175 htr hx ⊢
      rw [k2] at g175
      simp [rE, hi', hx, mK.cells, g175, c1, c2, c3, c4, c5, c6, k2, w2, w3, nD, lC, htr, l_]
     ·simp only [mK.cells, IR.cells] at g175 htr hx ⊢
      rw [k2] at g175
      simp [rE, hi', hx, mK.cells, g175, c1, c2, c3, c4, c5, k2, w2, w3, nD, lC, htr, l_]
    ·simp only [mK.cells, IR.cells] at g175 htr hx ⊢
     simp [rE, hi', hx, mK.cells, g175, c1, c2, c3, c4, k0, k1, k2, nD, lC, htr, l_]
   ·rw [eq1] at hs
    have eq2 := eq2 (by rw [eq1]; exact hs)
    simp only [Bool.true_and]
    rw [← eq1] at hs
    have hen : 0 ≤ (zI p.inn p.out e y).2 := NP he
    rw [← eq2] at hen ⊢
    have hsh : ¬ q8 y = 0 ∧ ¬ y.off < 0 ∧ y.off.tmod 4 = 0 ∧ ¬ 65536 < y.off := by
     unfold Dv at hs
     split at hs
     ·cases hs
     ·omega
    obtain ⟨c1, c2, c3, c4⟩ := hsh
    have hsd : p5 y = true := by
     cases h : p5 y
     ·exact absurd (by simp [q8, h]) c1
     ·rfl
    have hm := qS hsd
    obtain ⟨r1, r2, r3⟩ := N9 hsd
    have w2 : IntKind.i64.wrap (y.elem * y.len) = y.elem * y.len := by rw [wrap64] <;> omega
    have w3 : IntKind.i64.wrap (y.off + y.elem * y.len) = y.off + y.elem * y.len := by rw [wrap64] <;> omega
    have w4 : IntKind.i64.wrap (y.off + q8 y) = y.off + q8 y := by rw [wrap64] <;> omega
    have hle : (Dv p.inn p.out e y).2 ≤ 200000 := by
     unfold Dv; (repeat' split) <;> simp only [] <;> omega
    obtain ⟨ex, r, e', j, g1, g2⟩ := ih (i + 1) (Dv p.inn p.out e y).2 (by omega) hi hen hle
    refine ⟨ex, r, e', j, ?_, g2⟩
    simp only [Int.natCast_add, Int.cast_ofNat_Int] at g1
    rw [← g1]
    unfold Dv at hs ⊢
    rw [if_neg (by omega)] at hs ⊢
    by_cases k0 : y.kind = 0
    ·have c5 : y.off = 0 := by
      by_cases h : y.off = 0
      ·exact h
      ·simp [k0, h] at hs
     simp only [mK.cells, IR.cells] at g175 htr hx ⊢
     rw [k0, c5] at g175
     rw [c5] at c3
     simp [rE, hi', hx, mK.cells, g175, c1, c5, k0, nD, lC, htr, w1, l_]
    by_cases k1 : y.kind = 1
    ·have c5 : y.off + y.elem * y.len ≤ p.inn := by
      by_cases h : y.off + y.elem * y.len ≤ p.inn
      ·exact h
      ·simp [k1, h] at hs
     simp only [mK.cells, IR.cells] at g175 htr hx ⊢
     rw [k1] at g175
     simp [rE, hi', hx, mK.cells, g175, c1, c2, c3, c4, c5, k1, w1, w2, w3, nD, lC, htr, l_]
    by_cases k2 : y.kind = 2
    ·have c5 : y.off + y.elem * y.len ≤ p.out ∧ e ≤ y.off := by
      by_cases h : y.off + y.elem * y.len ≤ p.out ∧ e ≤ y.off
      ·exact h
      ·simp [k2, h] at hs
     simp only [mK.cells, IR.cells] at g175 htr hx ⊢
     rw [k2] at g175
     simp [rE, hi', hx, mK.cells, g175, c1, c2, c3, c4, c5, k2, w1, w2, w3, w4, nD, lC, htr, l_]
    ·simp [k0, k1, k2] at hs
  ·have hi' : ¬ (i : Int) < p.arrays.length := by omega
   rw [List.drop_eq_nil_of_le (by omega)]
   refine ⟨.exit 0, false, e, i, ?_, .inr ⟨rfl, rfl⟩⟩
   simp only [IR.cells] at htr ⊢
   simp [rE, hi', lC, htr, l_]
theorem agX (h : kT) : KK 127 [.agg p.cells] h = some (.ret (.bool (AE p.inn p.out 0 p.arrays)), h) := by
 refine lZ rfl rfl (mN (Uq _ _ _) ?_)
 obtain ⟨ex, r, e', j, g1, g2⟩ := OR hp (p.arrays.length + 1) 0 0 (by omega) (Nat.zero_le _) (by omega) (by omega)
 simp only [List.drop_zero, Int.cast_ofNat_Int, IR.cells] at g1 g2 ⊢
 rcases g2 with ⟨rfl, rfl, g2⟩ | ⟨rfl, g2⟩ <;> simp [adQ, g1, g2, lH]
end
end Go.Proofs.YtkeoalhglkfbkaaDoor


namespace Go.Proofs.YtkeoalhglkfbkaaDoor
open Go Hk
theorem Px (x : mK) : tM x = if x.kind = 0 then q8 x else 0 := by
 unfold tM q8
 by_cases h : x.kind = 0 <;> simp [h]
section
variable {p : IR} (ha : (p.arrays.length : Int) ≤ 1048576) (hb : (p.blocks.length : Int) ≤ 1048576)
include hb
theorem Mu (z : Int) : ∀ (n i : Nat) (acc : Int), p.blocks.length < i + n → i ≤ p.blocks.length → 0 ≤ acc → acc ≤ 3000000 →
  ∃ (acc' j : Int), mJ (C9 KK 1) ([.ptr 0 0, .bool false, .int .i64 acc, .int .i64 z, .int .i64 (i : Int)], [.cells p.cells]) = some (.exit 0, [.ptr 0 0, .bool false, .int .i64 acc', .int .i64 z, .int .i64 j], [.cells p.cells]) ∧
   (1048576 < acc' ↔ 1048576 < acc + Ap (p.blocks.drop i)) := by
 have htr : ∀ C, mL 1 (.cells p.cells :: C) = some [.cells p.cells] := fun C => by simp [mL, IR.cells]
 intro n
 induction n with
 | zero => intro i acc a1 a2; omega
 | succ n ih =>
  intro i acc a1 a2 h0 h1
  rw [mE]
  simp only [IR.cells] at htr ih ⊢
  by_cases hi : i < p.blocks.length
  ·have hi' : (i : Int) < p.blocks.length := by omega
   have hx : p.blocks[i]? = some p.blocks[i] := List.getElem?_eq_getElem hi
   have w1 := vV (a := i) (by omega)
   rw [List.drop_eq_getElem_cons hi]
   generalize p.blocks[i] = y at *
   have hnn := EW (p.blocks.drop (i + 1))
   by_cases hg : acc ≤ 1048576
   ·have w2 : IntKind.i64.wrap (acc + min (y.ops.length : Int) 1048577) = acc + min (y.ops.length : Int) 1048577 := by rw [wrap64] <;> omega
    obtain ⟨acc', j, g1, g2⟩ := ih (i + 1) (acc + min (y.ops.length : Int) 1048577) (by omega) hi (by omega) (by omega)
    refine ⟨acc', j, ?_, ?_⟩
    ·simp only [Int.natCast_add, Int.cast_ofNat_Int] at g1
     rw [← g1]
     simp [C9, hi', hx, lX.cells, w1, w2, hg, lC, htr, l_]
    ·rw [g2]; simp only [Ap]; omega
   ·refine ⟨acc, i, ?_, by simp only [Ap]; omega⟩
    simp [C9, hi', hg, lC, htr, l_]
  ·have hi' : ¬ (i : Int) < p.blocks.length := by omega
   rw [List.drop_eq_nil_of_le (by omega)]
   refine ⟨acc, i, ?_, by simp only [Ap]; omega⟩
   simp [C9, hi', lC, htr, l_]
omit hb
include ha
theorem Mv (z : Int) : ∀ (n i : Nat) (acc : Int), p.arrays.length < i + n → i ≤ p.arrays.length → 0 ≤ acc → acc ≤ 200000 →
  ∃ (acc' j : Int), mJ (Br KK 1) ([.ptr 0 0, .bool false, .int .i64 z, .int .i64 acc, .int .i64 (i : Int)], [.cells p.cells]) = some (.exit 2, [.ptr 0 0, .bool false, .int .i64 z, .int .i64 acc', .int .i64 j], [.cells p.cells]) ∧
   (65536 < acc' ↔ 65536 < acc + sL (p.arrays.drop i)) := by
 have htr : ∀ C, mL 1 (.cells p.cells :: C) = some [.cells p.cells] := fun C => by simp [mL, IR.cells]
 intro n
 induction n with
 | zero => intro i acc a1 a2; omega
 | succ n ih =>
  intro i acc a1 a2 h0 h1
  rw [mE]
  simp only [IR.cells] at htr ih ⊢
  by_cases hi : i < p.arrays.length
  ·have hi' : (i : Int) < p.arrays.length := by omega
   have hx : p.arrays[i]? = some p.arrays[i] := List.getElem?_eq_getElem hi
   have w1 := vV (a := i) (by omega)
   rw [List.drop_eq_getElem_cons hi]
   generalize p.arrays[i] = y at *
   have hnn := wI (p.arrays.drop (i + 1))
   have hr := JK y
   have hrr := Px y
   have g175 := acJ y
   by_cases hg : acc ≤ 65536
   ·obtain ⟨acc', j, g1, g2⟩ := ih (i + 1) (acc + tM y) (by omega) hi (by omega) (by omega)
    refine ⟨acc', j, ?_, ?_⟩
    ·simp only [Int.natCast_add, Int.cast_ofNat_Int] at g1
     rw [← g1]
     simp only [mK.cells] at g175
     by_cases hk : y.kind = 0
     ·rw [if_pos hk] at hrr
      rw [hrr] at hr ⊢
      have w2 : IntKind.i64.wrap (acc + q8 y) = acc + q8 y := by rw [wrap64] <;> omega
      rw [hk] at g175
      simp [Br, hi', hx, mK.cells, w1, w2, hg, hk, g175, lC, htr, l_]
     ·rw [if_neg hk] at hrr
      rw [hrr, Int.add_zero]
      simp [Br, hi', hx, mK.cells, w1, hg, hk, lC, htr, l_]
    ·rw [g2]; simp only [sL]; omega
   ·refine ⟨acc, i, ?_, by simp only [sL]; omega⟩
    simp [Br, hi', hg, lC, htr, l_]
  ·have hi' : ¬ (i : Int) < p.arrays.length := by omega
   rw [List.drop_eq_nil_of_le (by omega)]
   refine ⟨acc, i, ?_, by simp only [sL]; omega⟩
   simp [Br, hi', lC, htr, l_]
end
set_option maxHeartbeats 1000000 in
theorem agW (p : IR) (h : kT) : KK 126 [.agg p.cells] h = some (.ret (.bool (!oP p)), h) := by
 refine lZ rfl rfl (mN (Up _ _ _) ?_)
 have key : ∀ b : Bool, (b = true ↔ ¬ WG p) → b = !oP p := fun b hb => by
  have := xJ (p := p)
  cases b <;> cases hl : oP p <;> simp_all
 have hr0 := wI p.arrays
 by_cases h1 : 1048576 < p.temps
 ·rw [← key true ⟨fun _ l => by have := l.t1; omega, fun _ => rfl⟩]
  simp [OP, IR.cells, h1, lH]
 by_cases h2 : 1048576 < (p.arrays.length : Int)
 ·rw [← key true ⟨fun _ l => by have := l.a1; omega, fun _ => rfl⟩]
  simp [OP, IR.cells, h1, h2, lH]
 by_cases h3 : 1048576 < (p.blocks.length : Int)
 ·rw [← key true ⟨fun _ l => by have := l.b1; omega, fun _ => rfl⟩]
  simp [OP, IR.cells, h1, h2, h3, lH]
 by_cases h4 : 65536 < p.out
 ·rw [← key true ⟨fun _ l => by have := l.r1; omega, fun _ => rfl⟩]
  simp [OP, IR.cells, h1, h2, h3, h4, lH]
 obtain ⟨a1, j1, g1, g2⟩ := Mu (p := p) (by omega) (max 0 p.out) (p.blocks.length + 1) 0 0 (by omega) (Nat.zero_le _) (by omega) (by omega)
 obtain ⟨a2, j2, g3, g4⟩ := Mv (p := p) (by omega) a1 (p.arrays.length + 1) 0 (max 0 p.out) (by omega) (Nat.zero_le _) (by omega) (by omega)
 simp only [List.drop_zero, Int.cast_ofNat_Int, Int.zero_add] at g1 g2 g3 g4
 rw [← key (decide (1048576 < a1) || decide (65536 < a2)) (by
  rw [Bool.or_eq_true, decide_eq_true_eq, decide_eq_true_eq, g2, g4]
  have : max 0 p.out = max p.out 0 := by omega
  rw [this]
  exact ⟨fun hh l => by have := l.o1; have := l.r1; omega, fun hn => by
   by_cases c1 : 1048576 < Ap p.blocks
   ·exact .inl c1
   ·by_cases c2 : 65536 < max p.out 0 + sL p.arrays
    ·exact .inr c2
    ·exact absurd ⟨by omega, by omega, by omega, by omega, by omega⟩ hn⟩)]
 simp only [IR.cells] at g1 g3 ⊢
 by_cases c1 : 1048576 < a1 <;> simp [OP, h1, h2, h3, h4, g1, g3, c1, lH]
section
variable {p : IR} (hp : Qh p)
include hp
theorem Pm (k : Nat) (b : lX) (hk : p.blocks[k]? = some b) (hb : b.ops.length ≤ 1048576) : ∀ (n i : Nat), b.ops.length < i + n → i ≤ b.ops.length →
  ∃ (ex : Ex) (r j : Int), mJ (F_ KK 1) ([.ptr 0 0, .int .i64 0, .int .i64 (k : Int), .int .i64 (i : Int)], [.cells p.cells]) = some (ex, [.ptr 0 0, .int .i64 r, .int .i64 (k : Int), .int .i64 j], [.cells p.cells]) ∧
   ((ex = .ret ∧ r = 2 ∧ (b.ops.drop i).all (M1 p) = false) ∨ (ex = .exit 2 ∧ r = 0 ∧ (b.ops.drop i).all (M1 p) = true)) := by
 have htr : ∀ C, mL 1 (.cells p.cells :: C) = some [.cells p.cells] := fun C => by simp [mL, IR.cells]
 intro n
 induction n with
 | zero => intro i a1 a2; omega
 | succ n ih =>
  intro i a1 a2
  rw [mE]
  by_cases hi : i < b.ops.length
  ·have hi' : (i : Int) < b.ops.length := by omega
   have hx : b.ops[i]? = some b.ops[i] := List.getElem?_eq_getElem hi
   have w1 := vV (a := i) (by omega)
   rw [List.drop_eq_getElem_cons hi]
   generalize b.ops[i] = y at *
   have g128 := agY hp.a1 y
   simp only [List.all_cons]
   cases hs : M1 p y
   ·refine ⟨.ret, 2, i, ?_, .inl ⟨rfl, rfl, rfl⟩⟩
    rw [hs] at g128
    simp only [Op.cells, IR.cells] at g128 htr hx ⊢
    simp [F_, hi', hk, hx, lX.cells, Op.cells, g128, lC, htr, l_]
   ·obtain ⟨ex, r, j, g1, g2⟩ := ih (i + 1) (by omega) hi
    refine ⟨ex, r, j, ?_, by simpa using g2⟩
    simp only [Int.natCast_add, Int.cast_ofNat_Int] at g1
    rw [← g1]
    rw [hs] at g128
    simp only [Op.cells, IR.cells] at g128 htr hx ⊢
    simp [F_, hi', hk, hx, lX.cells, Op.cells, g128, lC, htr, w1, l_]
  ·have hi' : ¬ (i : Int) < b.ops.length := by omega
   rw [List.drop_eq_nil_of_le (by omega)]
   refine ⟨.exit 2, 0, i, ?_, .inr ⟨rfl, rfl, rfl⟩⟩
   simp only [IR.cells] at htr ⊢
   simp [F_, hi', hk, lX.cells, lC, htr, l_]
theorem Pn (hops : ∀ b ∈ p.blocks, b.ops.length ≤ 1048576) : ∀ (n i : Nat), p.blocks.length < i + n → i ≤ p.blocks.length →
  ∃ (ex : Ex) (r j : Int), mJ (DP KK 1) ([.ptr 0 0, .int .i64 0, .int .i64 (i : Int)], [.cells p.cells]) = some (ex, [.ptr 0 0, .int .i64 r, .int .i64 j], [.cells p.cells]) ∧
   ((ex = .ret ∧ r = 2 ∧ (p.blocks.drop i).all (G6 p) = false) ∨ (ex = .exit 0 ∧ r = 0 ∧ (p.blocks.drop i).all (G6 p) = true)) := by
 have htr : ∀ C, mL 1 (.cells p.cells :: C) = some [.cells p.cells] := fun C => by simp [mL, IR.cells]
 have hb1 := hp.b1
 intro n
 induction n with
 | zero => intro i a1 a2; omega
 | succ n ih =>
  intro i a1 a2
  rw [mE]
  by_cases hi : i < p.blocks.length
  ·have hi' : (i : Int) < p.blocks.length := by omega
   have hx : p.blocks[i]? = some p.blocks[i] := List.getElem?_eq_getElem hi
   have hm := hops p.blocks[i] (List.getElem_mem hi)
   have w1 := vV (a := i) (by omega)
   rw [List.drop_eq_getElem_cons hi]
   generalize p.blocks[i] = y at *
   have g129 := agZ (p := p) y.term
   obtain ⟨ex, r, j, g1, g2⟩ := Pm hp i y hx hm (y.ops.length + 1) 0 (by omega) (Nat.zero_le _)
   simp only [List.drop_zero, Int.cast_ofNat_Int] at g1 g2
   simp only [List.all_cons, G6]
   rcases g2 with ⟨rfl, rfl, g2⟩ | ⟨rfl, rfl, g2⟩
   ·refine ⟨.ret, 2, i, ?_, .inl ⟨rfl, rfl, by rw [g2]; rfl⟩⟩
    simp only [Term.cells, IR.cells] at g129 htr hx g1 ⊢
    simp [DP, hi', hx, g1, lC, htr, l_]
   ·rw [g2]
    cases ht : Ak (p := p) y.term
    ·refine ⟨.ret, 2, i, ?_, .inl ⟨rfl, rfl, rfl⟩⟩
     rw [ht] at g129
     simp only [Term.cells, IR.cells] at g129 htr hx g1 ⊢
     simp [DP, hi', hx, g1, lX.cells, g129, lC, htr, l_]
    ·obtain ⟨ex, r, j, g3, g4⟩ := ih (i + 1) (by omega) hi
     refine ⟨ex, r, j, ?_, by simpa [G6] using g4⟩
     rw [ht] at g129
     simp only [Int.natCast_add, Int.cast_ofNat_Int] at g3
     rw [← g3]
     simp only [Term.cells, IR.cells] at g129 htr hx g1 ⊢
     simp [DP, hi', hx, g1, lX.cells, g129, lC, htr, w1, l_]
  ·have hi' : ¬ (i : Int) < p.blocks.length := by omega
   rw [List.drop_eq_nil_of_le (by omega)]
   refine ⟨.exit 0, 0, i, ?_, .inr ⟨rfl, rfl, rfl⟩⟩
   simp only [IR.cells] at htr ⊢
   simp [DP, hi', lC, htr, l_]
end
set_option maxHeartbeats 1000000 in
theorem c64 (p : IR) (h : kT) : KK 64 [.agg p.cells] h = some (.ret (.int .i64 (mZ p)), h) := by
 refine lZ rfl rfl (mN (Yq _ _ _) ?_)
 have g126 := agW p
 unfold mZ
 cases hl : oP p
 ·rw [hl] at g126
  simp only [IR.cells] at g126 ⊢
  simp [m64, g126, lH]
 rw [hl] at g126
 obtain ⟨l1, l2, l3, l4, l5⟩ := xJ.1 hl
 have hr0 := wI p.arrays
 have b1 : mG p.inn 0 65536 = true ↔ ¬ p.inn < 0 ∧ ¬ 65536 < p.inn := by simp only [mG, Bool.and_eq_true, decide_eq_true_eq]; omega
 have b2 : mG p.out 0 65536 = true ↔ ¬ p.out < 0 := by simp only [mG, Bool.and_eq_true, decide_eq_true_eq]; omega
 simp only [b1, b2]
 by_cases c1 : p.inn < 0
 ·simp only [IR.cells] at g126 ⊢
  simp [m64, g126, c1, lH]
 by_cases c2 : 65536 < p.inn
 ·simp only [IR.cells] at g126 ⊢
  simp [m64, g126, c1, c2, lH]
 by_cases c3 : p.inn.tmod 4 = 0
 case neg =>
  simp only [IR.cells] at g126 ⊢
  simp [m64, g126, c1, c2, c3, nD, lH]
 by_cases c4 : p.out < 0
 ·simp only [IR.cells] at g126 ⊢
  simp [m64, g126, c1, c2, c3, c4, nD, lH]
 by_cases c5 : p.out.tmod 4 = 0
 case neg =>
  simp only [IR.cells] at g126 ⊢
  simp [m64, g126, c1, c2, c3, c4, c5, nD, lH]
 by_cases c6 : p.temps < 0
 ·have c6' : ¬ 0 ≤ p.temps := by omega
  simp only [IR.cells] at g126 ⊢
  simp [m64, g126, c1, c2, c3, c4, c5, c6, c6', nD, lH]
 have c6' : 0 ≤ p.temps := by omega
 by_cases c7 : p.blocks = []
 ·simp only [IR.cells] at g126 ⊢
  rw [c7] at g126
  simp only [List.map_nil] at g126
  simp [m64, g126, c1, c2, c3, c4, c5, c6, c6', c7, nD, lH]
 have c7' : ¬ (p.blocks.length : Int) = 0 := by
  have : p.blocks.length ≠ 0 := fun e => c7 (List.eq_nil_of_length_eq_zero e)
  omega
 have hp : Qh p := ⟨c6', l1, l2, l3, by omega, by omega, by omega, by omega⟩
 have g127 := agX hp
 obtain ⟨ex, r, j, g1, g2⟩ := Pn hp (fun b hb => by have := Gg hb; omega) (p.blocks.length + 1) 0 (by omega) (Nat.zero_le _)
 simp only [List.drop_zero, Int.cast_ofNat_Int] at g1 g2
 cases ha : AE p.inn p.out 0 p.arrays
 ·rw [ha] at g127
  simp only [IR.cells] at g126 g127 ⊢
  simp [m64, g126, g127, c1, c2, c3, c4, c5, c6, c6', c7, c7', nD, lH]
 rw [ha] at g127
 simp only [IR.cells] at g126 g127 g1 ⊢
 rcases g2 with ⟨rfl, rfl, g2⟩ | ⟨rfl, rfl, g2⟩ <;>
  simp [m64, g126, g127, g1, g2, c1, c2, c3, c4, c5, c6, c6', c7, c7', nD, lH]
end Go.Proofs.YtkeoalhglkfbkaaDoor


namespace Go.Proofs.YtkeoalhglkfbkaaDoor
open Go Hk
def Sy (o : Op) (S : Int → Prop) : Int → Prop := fun t => t ∈ mW o ∨ (S t ∧ ¬((mM o.kind).dst = true ∧ o.dst = t))
def Oa (x : Term) (S : Int → Prop) : Int → Prop := fun t => (x.kind = 2 ∧ x.a = t) ∨ S t
def zC (l : List Op) (x : Term) (S : Int → Prop) : Int → Prop := l.foldr Sy (Oa x S)
def A9 (b : lX) (S : Int → Prop) : Int → Prop := zC b.ops b.term S
def qZ : List Op → Term → Int → Int
 | [], x, t => if x.kind = 2 ∧ x.a = t then 1 else 0
 | o :: r, x, t => if t ∈ mW o then 1 else if (mM o.kind).dst = true ∧ o.dst = t then 2 else qZ r x t
theorem KG (l : List Op) (x : Term) (t : Int) : qZ l x t = 0 ∨ qZ l x t = 1 ∨ qZ l x t = 2 := by
  induction l with
  | nil => simp only [qZ]; split <;> simp
  | cons o r ih => simp only [qZ]; split; · simp
                   split; · simp
                   exact ih
theorem rG (l : List Op) (x : Term) (S : Int → Prop) (t : Int) : zC l x S t ↔ qZ l x t = 1 ∨ (qZ l x t = 0 ∧ S t) := by
 induction l with
 | nil =>
  simp only [zC, List.foldr_nil, Oa, qZ]
  by_cases h : x.kind = 2 ∧ x.a = t <;> simp [h]
 | cons o r ih =>
  have e : zC (o :: r) x S t ↔ t ∈ mW o ∨ (zC r x S t ∧ ¬((mM o.kind).dst = true ∧ o.dst = t)) := Iff.rfl
  rw [e, ih]
  simp only [qZ]
  by_cases h1 : t ∈ mW o
  ·simp [h1]
  ·by_cases h2 : (mM o.kind).dst = true ∧ o.dst = t
   ·simp [h1, h2]
   ·simp [h1, h2]
def oY (x : Term) : List Int := if x.kind = 1 then [x.yes].filter (fun k => decide (0 ≤ k)) else if x.kind = 2 then [x.yes, x.no].filter (fun k => decide (0 ≤ k)) else []
inductive Reach (bs : List lX) (t : Int) : Nat → Prop
 | here {k : Nat} {b : lX} (hb : bs[k]? = some b) (hf : qZ b.ops b.term t = 1) : Reach bs t k
 | step {k : Nat} {b : lX} {j : Int} (hb : bs[k]? = some b) (hf : qZ b.ops b.term t = 0) (hj : j ∈ oY b.term) (hr : Reach bs t j.toNat) : Reach bs t k
def pS (bs : List lX) (t : Int) (x : Term) : Prop := ∃ j ∈ oY x, Reach bs t j.toNat
theorem Ib {bs : List lX} {t : Int} {k : Nat} {b : lX} (hb : bs[k]? = some b) : Reach bs t k ↔ A9 b (fun t => pS bs t b.term) t := by
 unfold A9
 rw [rG]
 constructor
 ·intro h
  cases h with
  | here hb' hf => rw [hb] at hb'; cases hb'; exact .inl hf
  | step hb' hf hj hr => rw [hb] at hb'; cases hb'; exact .inr ⟨hf, _, hj, hr⟩
 ·rintro (h | ⟨h, j, hj, hr⟩)
  ·exact .here hb h
  ·exact .step hb h hj hr
theorem Ad {l : List Op} {x : Term} {S T : Int → Prop} (h : ∀ t, S t → T t) {t : Int} (ht : zC l x S t) : zC l x T t := by
 rw [rG] at ht ⊢
 rcases ht with h1 | ⟨h1, h2⟩
 ·exact .inl h1
 ·exact .inr ⟨h1, h _ h2⟩
theorem Mt {bs : List lX} {W : Nat → Int → Prop} (hW : ∀ k t, W k t → Reach bs t k) {k : Nat} {b : lX} (hb : bs[k]? = some b) {t : Int}
  (ht : A9 b (fun t => ∃ j ∈ oY b.term, W j.toNat t) t) : Reach bs t k :=
 (Ib hb).2 (Ad (fun t ⟨j, hj, hw⟩ => ⟨j, hj, hW _ _ hw⟩) ht)
theorem Hf {bs : List lX} {W : Nat → Int → Prop} (hfix : ∀ k b, bs[k]? = some b → ∀ t, A9 b (fun t => ∃ j ∈ oY b.term, W j.toNat t) t → W k t) {t : Int} {k : Nat} (h : Reach bs t k) : W k t := by
 induction h with
 | here hb hf => exact hfix _ _ hb _ (by unfold A9; rw [rG]; exact .inl hf)
 | step hb hf hj hr ih => exact hfix _ _ hb _ (by unfold A9; rw [rG]; exact .inr ⟨hf, _, hj, ih⟩)
structure tP (bs : List lX) (t : Int) (src : List Int) (seen : List Bool) (todo : List Int) : Prop where
 len : seen.length = bs.length
 lt : ∀ k ∈ todo, 0 ≤ k ∧ k.toNat < bs.length
 srcOk : ∀ k ∈ src, seen[k.toNat]? = some true ∨ k ∈ todo
 seenOk : ∀ (k : Nat) (b : lX), seen[k]? = some true → bs[k]? = some b → qZ b.ops b.term t ≠ 1 ∧ (qZ b.ops b.term t = 0 → ∀ j ∈ oY b.term, seen[j.toNat]? = some true ∨ j ∈ todo)
 back : ∀ k ∈ todo, Reach bs t k.toNat → ∃ f ∈ src, Reach bs t f.toNat
theorem tP.start {bs : List lX} {t : Int} {src : List Int} (h : ∀ k ∈ src, 0 ≤ k ∧ k.toNat < bs.length) : tP bs t src (List.replicate bs.length false) src :=
 ⟨by simp, h, fun k hk => .inr hk, fun k b hs => by simp [List.getElem?_replicate] at hs, fun k hk hr => ⟨k, hk, hr⟩⟩
theorem tP.done {bs : List lX} {t : Int} {src : List Int} {seen : List Bool} (h : tP bs t src seen []) : ¬ ∃ f ∈ src, Reach bs t f.toNat := by
 have key : ∀ k, Reach bs t k → seen[k]? = some true → False := by
  intro k hr
  induction hr with
  | here hb hf => intro hs; exact (h.seenOk _ _ hs hb).1 hf
  | step hb hf hj _ ih =>
   intro hs
   rcases (h.seenOk _ _ hs hb).2 hf _ hj with h1 | h1
   ·exact ih h1
   ·simp at h1
 rintro ⟨f, hf, hr⟩
 rcases h.srcOk f hf with h1 | h1
 ·exact key _ hr h1
 ·simp at h1
theorem tP.skip {bs : List lX} {t k : Int} {src todo : List Int} {seen : List Bool} (h : tP bs t src seen (todo ++ [k])) (hk : seen[k.toNat]? = some true) (hnn : ∀ f ∈ src, 0 ≤ f) (hl : ∀ b ∈ bs, ∀ j ∈ oY b.term, 0 ≤ j) : tP bs t src seen todo := by
 have mem : ∀ j : Int, 0 ≤ j → j ∈ todo ++ [k] → seen[j.toNat]? = some true ∨ j ∈ todo := by
  intro j _ hj
  rcases List.mem_append.1 hj with h1 | h1
  ·exact .inr h1
  ·simp at h1; subst h1; exact .inl hk
 refine ⟨h.len, fun j hj => h.lt j (by simp [hj]), fun f hf => ?_, fun i b hs hb => ⟨(h.seenOk i b hs hb).1, fun h0 j hj => ?_⟩, fun j hj => h.back j (by simp [hj])⟩
 ·rcases h.srcOk f hf with h1 | h1
  ·exact .inl h1
  ·exact mem f (hnn f hf) h1
 ·rcases (h.seenOk i b hs hb).2 h0 j hj with h1 | h1
  ·exact .inl h1
  ·exact mem j (hl b (List.mem_of_getElem? hb) j hj) h1
theorem tP.push {bs : List lX} {t k : Int} {src todo : List Int} {seen : List Bool} {b : lX} {new : List Int} (h : tP bs t src seen (todo ++ [k])) (hb : bs[k.toNat]? = some b) (h1 : qZ b.ops b.term t ≠ 1)
  (hnew : new = if qZ b.ops b.term t = 0 then oY b.term else []) (hlt : ∀ j ∈ oY b.term, 0 ≤ j ∧ j.toNat < bs.length) : tP bs t src (seen.set k.toNat true) (todo ++ new) := by
 have hkl : k.toNat < seen.length := by rw [h.len]; exact (List.getElem?_eq_some_iff.1 hb).1
 have hk : (seen.set k.toNat true)[k.toNat]? = some true := by simp [hkl]
 have F0 : ∀ i : Nat, seen[i]? = some true → (seen.set k.toNat true)[i]? = some true := by
  intro i hi
  rw [List.getElem?_set]
  split
  ·rename_i he; subst he; simp [hkl]
  ·exact hi
 have mem : ∀ j : Int, j ∈ todo ++ [k] → (seen.set k.toNat true)[j.toNat]? = some true ∨ j ∈ todo ++ new := by
  intro j hj
  rcases List.mem_append.1 hj with h1 | h1
  ·exact .inr (by simp [h1])
  ·simp at h1; subst h1; exact .inl hk
 refine ⟨by simp [h.len], fun j hj => ?_, fun f hf => ?_, fun i c hs hc => ?_, fun j hj hr => ?_⟩
 ·rcases List.mem_append.1 hj with h2 | h2
  ·exact h.lt j (by simp [h2])
  ·rw [hnew] at h2
   split at h2
   ·exact hlt j h2
   ·simp at h2
 ·rcases h.srcOk f hf with h2 | h2
  ·exact .inl (F0 _ h2)
  ·exact mem f h2
 ·by_cases hi : k.toNat = i
  ·subst hi
   rw [hb] at hc; cases hc
   refine ⟨h1, fun h0 j hj => .inr ?_⟩
   rw [hnew, if_pos h0]; simp [hj]
  ·rw [List.getElem?_set_ne hi] at hs
   obtain ⟨a1, a2⟩ := h.seenOk i c hs hc
   refine ⟨a1, fun h0 j hj => ?_⟩
   rcases a2 h0 j hj with h2 | h2
   ·exact .inl (F0 _ h2)
   ·exact mem j h2
 ·rcases List.mem_append.1 hj with h2 | h2
  ·exact h.back j (by simp [h2]) hr
  ·rw [hnew] at h2
   split at h2
   ·rename_i h0
    exact h.back k (by simp) (.step hb h0 h2 hr)
   ·simp at h2
theorem tP.Am {bs : List lX} {t k : Int} {src todo : List Int} {seen : List Bool} {b : lX} (h : tP bs t src seen (todo ++ [k])) (hb : bs[k.toNat]? = some b) (h1 : qZ b.ops b.term t = 1) : ∃ f ∈ src, Reach bs t f.toNat :=
 h.back k (by simp) (.here hb h1)
end Go.Proofs.YtkeoalhglkfbkaaDoor


namespace Go.Proofs.Wd
abbrev Wd := BitVec 64
theorem RL (n : Nat) (h : 0 < n) : ∃ k m, n = 2 ^ k * (2 * m + 1) := by
 induction n using Nat.strongRecOn with
 | _ n ih =>
  by_cases h1 : n % 2 = 1
  ·exact ⟨0, n / 2, by omega⟩
  ·obtain ⟨k, m, e⟩ := ih (n / 2) (by omega) (by omega)
   refine ⟨k + 1, m, ?_⟩
   rw [Nat.pow_succ, Nat.mul_comm (2 ^ k) 2, Nat.mul_assoc, ← e]; omega
theorem lowest (w : Wd) (h : w ≠ 0#64) : ∃ k, k < 64 ∧ w.getLsbD k = true ∧ (∀ i, i < k → w.getLsbD i = false) ∧ (∀ i, (w - 1#64).getLsbD i = if i < k then true else if i = k then false else w.getLsbD i) := by
 have h0 : w.toNat ≠ 0 := fun e => h (BitVec.eq_of_toNat_eq (by simpa using e))
 obtain ⟨k, m, e⟩ := RL w.toNat (by omega)
 have hw := w.isLt
 have e1 : w.toNat = 2 ^ (k + 1) * m + 2 ^ k := by rw [e, Nat.pow_succ]; rw [Nat.mul_add, Nat.mul_one, Nat.mul_assoc]
 have hp : 0 < 2 ^ k := Nat.two_pow_pos k
 have e2 : (w - 1#64).toNat = 2 ^ (k + 1) * m + (2 ^ k - 1) := by
  rw [BitVec.toNat_sub]
  have : (1#64).toNat = 1 := rfl
  rw [this]
  have : 2 ^ 64 - 1 + w.toNat = (w.toNat - 1) + 2 ^ 64 := by omega
  rw [this, Nat.add_mod_right, Nat.mod_eq_of_lt (by omega), e1]
  omega
 have hpk : 2 ^ k < 2 ^ (k + 1) := Nat.pow_lt_pow_right (by omega) (by omega)
 have b1 : ∀ i, w.getLsbD i = if i < k + 1 then decide (k = i) else m.testBit (i - (k + 1)) := fun i => by
  rw [BitVec.getLsbD, e1, Nat.testBit_two_pow_mul_add m hpk, Nat.testBit_two_pow]
 have b2 : ∀ i, (w - 1#64).getLsbD i = if i < k + 1 then decide (i < k) else m.testBit (i - (k + 1)) := fun i => by
  rw [BitVec.getLsbD, e2, Nat.testBit_two_pow_mul_add m (by omega), Nat.testBit_two_pow_sub_one]
 have hk : k < 64 := by
  rcases Nat.lt_or_ge k 64 with h1 | h1
  ·exact h1
  ·have : 2 ^ 64 ≤ 2 ^ k := Nat.pow_le_pow_right (by omega) h1
   omega
 refine ⟨k, hk, by rw [b1]; simp, fun i hi => ?_, fun i => ?_⟩
 ·rw [b1, if_pos (by omega)]; simp; omega
 ·rw [b2, b1]
  by_cases h1 : i < k
  ·rw [if_pos (by omega), if_pos h1]; simp [h1]
  ·rw [if_neg h1]
   by_cases h2 : i = k
   ·rw [if_pos (by omega), if_pos h2]; simp [h2]
   ·rw [if_neg (by omega), if_neg h2, if_neg (by omega)]
theorem Ue (w : Wd) {k : Nat} (hk : k < 64) (h1 : w.getLsbD k = true) (h2 : ∀ i, i < k → w.getLsbD i = false) (h3 : ∀ i, (w - 1#64).getLsbD i = if i < k then true else if i = k then false else w.getLsbD i) :
  w &&& -w = BitVec.twoPow 64 k := by
 have e : -w = ~~~(w - 1#64) := by
  rw [BitVec.neg_eq_not_add]
  apply BitVec.eq_of_toNat_eq
  rw [BitVec.toNat_add, BitVec.toNat_not, BitVec.toNat_not, BitVec.toNat_sub]
  have hw := w.isLt
  have : (1#64).toNat = 1 := rfl
  rw [this]
  omega
 apply BitVec.eq_of_getLsbD_eq
 intro i hi
 rw [BitVec.getLsbD_and, e, BitVec.getLsbD_not, h3, BitVec.getLsbD_twoPow]
 by_cases c1 : i < k
 ·simp [c1, h2 i c1]; omega
 ·by_cases c2 : i = k
  ·subst c2; simp [h1, hi]
  ·simp [c1, c2, hi]; omega
theorem OM (w : Wd) {k : Nat} (h2 : ∀ i, i < k → w.getLsbD i = false) (h3 : ∀ i, (w - 1#64).getLsbD i = if i < k then true else if i = k then false else w.getLsbD i) (i : Nat) :
  (w &&& (w - 1#64)).getLsbD i = (w.getLsbD i && !decide (i = k)) := by
 rw [BitVec.getLsbD_and, h3]
 by_cases c1 : i < k
 ·simp [c1, h2 i c1]
 ·by_cases c2 : i = k
  ·subst c2; simp
  ·simp [c1, c2]
theorem QN (w : Wd) (h : w ≠ 0#64) : (w &&& (w - 1#64)).toNat < w.toNat := by
 have h0 : w.toNat ≠ 0 := fun e => h (BitVec.eq_of_toNat_eq (by simpa using e))
 have hw := w.isLt
 have e1 : (w - 1#64).toNat = w.toNat - 1 := by
  rw [BitVec.toNat_sub]
  have : (1#64).toNat = 1 := rfl
  rw [this]; omega
 rw [BitVec.toNat_and, e1]
 have := Nat.and_le_right (n := w.toNat) (m := w.toNat - 1)
 omega
def uF (w : Wd) : List Nat := (List.range 64).filter fun i => w.getLsbD i
theorem Ms : uF 0#64 = [] := by simp [uF]
theorem Mr (w : Wd) {k : Nat} (hk : k < 64) (h1 : w.getLsbD k = true) (h2 : ∀ i, i < k → w.getLsbD i = false) (h3 : ∀ i, (w - 1#64).getLsbD i = if i < k then true else if i = k then false else w.getLsbD i) :
  uF w = k :: uF (w &&& (w - 1#64)) := by
 have er : List.range 64 = List.range k ++ (k :: List.range' (k + 1) (63 - k)) := by
  have : k :: List.range' (k + 1) (63 - k) = List.range' k (63 - k + 1) := by rw [List.range'_succ]
  rw [this, List.range_eq_range', List.range_eq_range', show 63 - k + 1 = 64 - k by omega]
  have := List.range'_append_1 (s := 0) (m := k) (n := 64 - k)
  simp only [Nat.zero_add] at this
  rw [this]; congr 1; omega
 have lo : ∀ v : Wd, (∀ i, i < k → v.getLsbD i = false) → (List.range k).filter (fun i => v.getLsbD i) = [] := fun v hv => by
  rw [List.filter_eq_nil_iff]
  intro i hi
  rw [hv i (List.mem_range.1 hi)]; simp
 have hc := OM w h2 h3
 unfold uF
 rw [er, List.filter_append, List.filter_append, lo w h2, lo _ (fun i hi => by rw [hc, h2 i hi]; simp), List.nil_append, List.nil_append, List.filter_cons, List.filter_cons, if_pos h1, if_neg (by rw [hc]; simp)]
 congr 1
 apply List.filter_congr
 intro i hi
 have := List.mem_range'_1.1 hi
 rw [hc]
 have : ¬ i = k := by omega
 simp [this]
def oV (ws : List Wd) (t : Nat) : Bool := (ws.getD (t / 64) 0#64).getLsbD (t % 64)
def yX (ws : List Wd) (n : Nat) : List Wd := ws ++ List.replicate (n - ws.length) 0#64
theorem yZ (ws : List Wd) (n : Nat) : (yX ws n).length = max ws.length n := by simp [yX]; omega
theorem yY (ws : List Wd) (n i : Nat) : (yX ws n).getD i 0#64 = ws.getD i 0#64 := by
 unfold yX
 rw [List.getD_eq_getElem?_getD, List.getD_eq_getElem?_getD]
 by_cases h : i < ws.length
 ·rw [List.getElem?_append_left h]
 ·rw [List.getElem?_append_right (by omega), List.getElem?_eq_none (l := ws) (by omega), List.getElem?_replicate]
  split <;> rfl
theorem Gi {ws : List Wd} {n : Nat} (h : n ≤ ws.length) : yX ws n = ws := by simp [yX, Nat.sub_eq_zero_of_le h]
theorem HZ {ws : List Wd} {n : Nat} (h : ws.length < n) : yX (ws ++ [0#64]) n = yX ws n := by
 unfold yX
 rw [List.length_append, List.length_singleton, List.append_assoc, List.singleton_append, ← List.replicate_succ]
 congr 2; omega
theorem FU (ws : List Wd) (i j : Nat) (x : Wd) (h : i < ws.length) : (ws.set i x).getD j 0#64 = if i = j then x else ws.getD j 0#64 := by
 rw [List.getD_eq_getElem?_getD, List.getD_eq_getElem?_getD, List.getElem?_set]
 split
 ·rename_i e; subst e; simp [h]
 ·rfl
def uK (ws : List Wd) (t : Nat) : List Wd := (yX ws (t / 64 + 1)).set (t / 64) ((yX ws (t / 64 + 1)).getD (t / 64) 0#64 ||| BitVec.twoPow 64 (t % 64))
theorem Is (ws : List Wd) (t : Nat) : (uK ws t).length = max ws.length (t / 64 + 1) := by simp [uK, yZ]
theorem Iq (ws : List Wd) (t u : Nat) : oV (uK ws t) u = (oV ws u || decide (u = t)) := by
 unfold oV uK
 rw [FU _ _ _ _ (by rw [yZ]; omega)]
 by_cases h : t / 64 = u / 64
 ·rw [if_pos h, yY, h, BitVec.getLsbD_or, BitVec.getLsbD_twoPow]
  have : decide (t % 64 = u % 64) = decide (u = t) := by
   by_cases e : u = t
   ·simp [e]
   ·simp [e]; omega
  have h64 : t % 64 < 64 := Nat.mod_lt _ (by omega)
  simp only [this]
  have : decide (t % 64 < 64) = true := by simp [h64]
  simp [this]
 ·rw [if_neg h, yY]
  have : ¬ u = t := fun e => h (by rw [e])
  simp [this]
def s7 (ws : List Wd) (t : Nat) : List Wd := if t / 64 < ws.length then ws.set (t / 64) (ws.getD (t / 64) 0#64 &&& ~~~ BitVec.twoPow 64 (t % 64)) else ws
theorem Dl (ws : List Wd) (t : Nat) : (s7 ws t).length = ws.length := by unfold s7; split <;> simp
theorem JX (ws : List Wd) (t u : Nat) : oV (s7 ws t) u = (oV ws u && !decide (u = t)) := by
 unfold s7
 split
 ·rename_i hlt
  unfold oV
  rw [FU _ _ _ _ hlt]
  have hu64 : u % 64 < 64 := Nat.mod_lt _ (by omega)
  by_cases h : t / 64 = u / 64
  ·rw [if_pos h, h, BitVec.getLsbD_and, BitVec.getLsbD_not, BitVec.getLsbD_twoPow]
   have : decide (t % 64 = u % 64) = decide (u = t) := by
    by_cases e : u = t
    ·simp [e]
    ·simp [e]; omega
   simp only [this]
   have h64 : t % 64 < 64 := Nat.mod_lt _ (by omega)
   simp [hu64, h64]
  ·rw [if_neg h]
   have : ¬ u = t := fun e => h (by rw [e])
   simp [this]
 ·rename_i hlt
  by_cases h : u = t
  ·subst h
   unfold oV
   rw [List.getD_eq_getElem?_getD, List.getElem?_eq_none (by omega)]
   simp
  ·simp [h]
def EJ (out s : List Wd) : List Wd := (yX out s.length).mapIdx fun i w => w ||| s.getD i 0#64
theorem N5 (out s : List Wd) : (EJ out s).length = max out.length s.length := by simp [EJ, yZ]
theorem K_ (out s : List Wd) (i : Nat) : (EJ out s).getD i 0#64 = out.getD i 0#64 ||| s.getD i 0#64 := by
 unfold EJ
 rw [List.getD_eq_getElem?_getD, List.getElem?_mapIdx]
 have := yY out s.length i
 rw [List.getD_eq_getElem?_getD] at this
 cases h : (yX out s.length)[i]? with
 | some x => rw [h] at this; simp at this; simp [this]
 | none =>
  rw [h] at this
  have hl := List.getElem?_eq_none_iff.1 h
  rw [yZ] at hl
  clear this
  rw [List.getD_eq_getElem?_getD, List.getD_eq_getElem?_getD, List.getElem?_eq_none (l := out) (by omega), List.getElem?_eq_none (l := s) (by omega)]
  simp
theorem U7 (out s : List Wd) (t : Nat) : oV (EJ out s) t = (oV out t || oV s t) := by unfold oV; rw [K_, BitVec.getLsbD_or]
def nN (ws : List Wd) : List Nat := (List.range (64 * ws.length)).filter (oV ws)
theorem BI {ws : List Wd} {t : Nat} (h : oV ws t = true) : t < 64 * ws.length := by
 unfold oV at h
 by_cases hlt : t / 64 < ws.length
 ·omega
 ·rw [List.getD_eq_getElem?_getD, List.getElem?_eq_none (by omega)] at h; simp at h
theorem CX {p : Nat → Bool} : ∀ {n m : Nat}, n ≤ m → (∀ t, p t = true → t < n) → (List.range m).filter p = (List.range n).filter p := by
 intro n m hnm hp
 obtain ⟨d, rfl⟩ := Nat.exists_eq_add_of_le hnm
 rw [List.range_add, List.filter_append]
 have : (List.map (fun x => n + x) (List.range d)).filter p = [] := by
  rw [List.filter_eq_nil_iff]
  intro t ht
  obtain ⟨i, _, rfl⟩ := List.mem_map.1 ht
  intro h
  have := hp _ h
  omega
 rw [this, List.append_nil]
theorem AK {ws : List Wd} {n : Nat} (h : ∀ t, oV ws t = true → t < n) : nN ws = (List.range n).filter (oV ws) := by
 unfold nN
 rcases Nat.le_total n (64 * ws.length) with h1 | h1
 ·exact CX h1 h
 ·exact (CX h1 fun t ht => BI ht).symm
theorem HU {ws : List Wd} {t : Nat} : t ∈ nN ws ↔ oV ws t = true := by
 unfold nN
 rw [List.mem_filter, List.mem_range]
 exact ⟨fun h => h.2, fun h => ⟨BI h, h⟩⟩
theorem OK {a b : List Wd} : nN a = nN b ↔ ∀ t, oV a t = oV b t := by
 constructor
 ·intro h t
  have : t ∈ nN a ↔ t ∈ nN b := by rw [h]
  rw [HU, HU] at this
  cases ha : oV a t <;> cases hb : oV b t <;> simp_all
 ·intro h
  have ha : nN a = (List.range (64 * max a.length b.length)).filter (oV a) := AK fun t ht => by have := BI ht; omega
  have hb : nN b = (List.range (64 * max a.length b.length)).filter (oV b) := AK fun t ht => by have := BI ht; omega
  rw [ha, hb]
  exact List.filter_congr fun t _ => h t
def oE (ws : List Wd) (n : Nat) : List Nat := (List.range n).flatMap fun i => (uF (ws.getD i 0#64)).map (64 * i + ·)
theorem AL (ws : List Wd) : ∀ n, oE ws n = (List.range (64 * n)).filter (oV ws)
 | 0 => by simp [oE]
 | n + 1 => by
  have ih := AL ws n
  unfold oE at ih ⊢
  rw [List.range_succ, List.flatMap_append, ih, Nat.mul_add, Nat.mul_one, List.range_add, List.filter_append]
  congr 1
  simp only [List.flatMap_cons, List.flatMap_nil, List.append_nil, uF, List.filter_map]
  congr 1
  apply List.filter_congr
  intro i hi
  have := List.mem_range.1 hi
  simp only [Function.comp, oV]
  rw [show (64 * n + i) / 64 = n by omega, show (64 * n + i) % 64 = i by omega]
theorem Mq (ws : List Wd) : nN ws = oE ws ws.length := (AL ws _).symm
end Go.Proofs.Wd


namespace Go.Proofs.YtkeoalhglkfbkaaDoor
open Go Hk Go.Proofs.Wd
def wc (w : Wd) : kR := .int .u64 (w.toNat : Int)
theorem LF {n : Int} : IntKind.wrap .u64 n = n % 18446744073709551616 := by simp [IntKind.wrap, IntKind.signed, IntKind.bits]
theorem yV (w : Wd) : BitVec.ofInt 64 (w.toNat : Int) = w := by
 apply BitVec.eq_of_toNat_eq
 rw [BitVec.toNat_ofInt]
 have := w.isLt
 omega
theorem JZ (w : Wd) : IntKind.wrap .u64 (w.toNat : Int) = w.toNat := by
 rw [LF]; have := w.isLt; omega
theorem Fk (a b : Wd) : kZ .or (wc a) (wc b) = some (wc (a ||| b)) := by
 show (some (kR.int .u64 (IntKind.wrap .u64 ((BitVec.ofInt 64 (a.toNat : Int) ||| BitVec.ofInt 64 (b.toNat : Int)).toNat : Int))) : Option kR) = _
 rw [yV, yV, JZ]; rfl
theorem D7 (a b : Wd) : kZ .and (wc a) (wc b) = some (wc (a &&& b)) := by
 show (some (kR.int .u64 (IntKind.wrap .u64 ((BitVec.ofInt 64 (a.toNat : Int) &&& BitVec.ofInt 64 (b.toNat : Int)).toNat : Int))) : Option kR) = _
 rw [yV, yV, JZ]; rfl
theorem Fi (a b : Wd) : kZ .andNot (wc a) (wc b) = some (wc (a &&& ~~~ b)) := by
 show (some (kR.int .u64 (IntKind.wrap .u64 ((BitVec.ofInt 64 (a.toNat : Int) &&& ~~~ BitVec.ofInt 64 (b.toNat : Int)).toNat : Int))) : Option kR) = _
 rw [yV, yV, JZ]; rfl
theorem D8 {s : Nat} (hs : s < 64) : kZ .shl (.int .u64 1) (.int .i64 (s : Int)) = some (wc (BitVec.twoPow 64 s)) := by
 have h0 : ¬ (s : Int) < 0 := by omega
 simp only [kZ, if_neg h0, wc, BitVec.toNat_twoPow, Int.toNat_natCast, Option.some.injEq, kR.int.injEq, true_and]
 rw [LF]
 have : min s (IntKind.bits .u64) = s := by simp [IntKind.bits]; omega
 rw [this, Int.natCast_emod]
 simp
theorem Kj (a : Wd) : kZ .sub (wc a) (.int .u64 1) = some (wc (a - 1#64)) := by
 unfold wc
 rw [Qy, LF, BitVec.toNat_sub]
 have := a.isLt
 congr 2
 have e : (1#64).toNat = 1 := rfl
 rw [e]
 omega
theorem U6 (a : Wd) : kZ .neq (wc a) (.int .u64 0) = some (.bool (!decide (a = 0#64))) := by
 unfold wc
 rw [Qx]
 congr 3
 rw [decide_eq_decide]
 have : ((a.toNat : Int) = 0) ↔ a = 0#64 := ⟨fun h => BitVec.eq_of_toNat_eq (by have : (0#64).toNat = 0 := rfl; omega), fun h => by subst h; rfl⟩
 exact this
theorem ZU (a : Wd) : kZ .eql (wc a) (.int .u64 0) = some (.bool (decide (a = 0#64))) := by
 unfold wc
 rw [Qv]
 congr 2
 rw [decide_eq_decide]
 have : ((a.toNat : Int) = 0) ↔ a = 0#64 := ⟨fun h => BitVec.eq_of_toNat_eq (by have : (0#64).toNat = 0 := rfl; omega), fun h => by subst h; rfl⟩
 exact this
theorem LZ (a : Wd) : yF .neg (wc a) = some (wc (-a)) := by
 unfold wc
 rw [TF, LF, BitVec.toNat_neg]
 have := a.isLt
 congr 2
 omega
theorem PW (a : Wd) : kZ .mul (wc a) (.int .u64 285870213051353865) = some (wc (a * 285870213051353865#64)) := by
 unfold wc
 rw [Qw, LF, BitVec.toNat_mul]
 have e : (285870213051353865#64).toNat = 285870213051353865 := rfl
 rw [e]
 congr 2
theorem PX (a : Wd) : kZ .shr (wc a) (.int .u64 58) = some (.int .u64 ((a.toNat >>> 58 : Nat) : Int)) := by
 have h0 : ¬ (58 : Int) < 0 := by omega
 simp only [kZ, wc, if_neg h0, Option.some.injEq, kR.int.injEq, true_and]
 rw [Int.fdiv_eq_ediv_of_nonneg _ (by simp [IntKind.bits]), Nat.shiftRight_eq_div_pow]
 simp [IntKind.bits]
def acC : List Nat := [0,1,56,2,57,49,28,3,61,58,42,50,38,29,17,4,62,47,59,36,45,43,51,22,53,39,33,30,24,18,12,5,63,55,48,27,60,41,37,16,46,35,44,21,52,32,23,11,54,26,40,15,34,20,31,10,25,14,19,9,13,8,7,6]
def Vz (k : Nat) : Nat := 2 ^ k * 285870213051353865 % 18446744073709551616 / 288230376151711744
theorem Xe : (List.range 64).all (fun k => (acC[Vz k]? == some k) && decide (Vz k < 64)) = true := by decide +kernel
theorem Xd {k : Nat} (hk : k < 64) : (BitVec.twoPow 64 k * 285870213051353865#64).toNat >>> 58 = Vz k := by
 have e : (285870213051353865#64).toNat = 285870213051353865 := rfl
 have h2 : 2 ^ k % 2 ^ 64 = 2 ^ k := Nat.mod_eq_of_lt (Nat.pow_lt_pow_right (by omega) hk)
 rw [BitVec.toNat_mul, BitVec.toNat_twoPow, h2, e, Nat.shiftRight_eq_div_pow]
 rfl
theorem Md : u6 = acC.map fun n => .int .u8 (n : Int) := by rfl
attribute [irreducible] Vz
theorem Xf {k : Nat} (hk : k < 64) : u6[Vz k]? = some (.int .u8 (k : Int)) ∧ Vz k < 64 := by
 have h := List.all_eq_true.1 Xe k (List.mem_range.2 hk)
 rw [Bool.and_eq_true, beq_iff_eq, decide_eq_true_eq] at h
 rw [Md, List.getElem?_map, h.1]
 exact ⟨rfl, h.2⟩
theorem QI {k j : Nat} (b1 : u6[j]? = some (.int .u8 (k : Int))) (b2 : j < 64) : ∃ p, wO 64 1 (.pptr u6) (.int .u64 (j : Int)) = some p ∧ kV false 1 [] p = some (.int .u8 (k : Int)) := by
 refine ⟨.pptr (u6.drop (j * 1)), ?_, ?_⟩
 ·have h1 : (0 : Int) ≤ (j : Int) ∧ (j : Int) < ((64 : Nat) : Int) := by omega
  simp only [wO, if_pos h1, Int.toNat_natCast]
 ·rw [Kq, List.getElem?_drop, Nat.mul_one, Nat.add_zero]; exact b1
theorem Rk {a b c d p : kR} {j k : Nat} (hk : k < 64) (f0 : kZ .eql a (.int .u64 0) = some (.bool false)) (f1 : yF .neg a = some b) (f2 : kZ .and a b = some c)
  (f3 : kZ .mul c (.int .u64 285870213051353865) = some d) (f4 : kZ .shr d (.int .u64 58) = some (.int .u64 (j : Int))) (e1 : wO 64 1 (.pptr u6) (.int .u64 (j : Int)) = some p) (e2 : kV false 1 [] p = some (.int .u8 (k : Int))) :
  Un KK a [] = some (.ret (.int .i64 (k : Int)), []) := by
 have hw64 : IntKind.i64.wrap (k : Int) = k := by rw [wrap64] <;> omega
 simp [Un, f0, f1, f2, f3, f4, e1, e2, hw64, lH]
theorem Ow {a : kR} {k : Nat} (ha : [a].all (kR.rX 0) = true) (hm : Un KK a [] = some (.ret (.int .i64 (k : Int)), [])) (h : kT) : KK 125 [a] h = some (.ret (.int .i64 (k : Int)), h) :=
 lZ rfl ha (mN (Uo _ _ _) hm)
theorem agV (w : Wd) {k : Nat} (hk : k < 64) (h1 : w.getLsbD k = true) (h2 : ∀ i, i < k → w.getLsbD i = false) (h3 : ∀ i, (w - 1#64).getLsbD i = if i < k then true else if i = k then false else w.getLsbD i) (h : kT) :
  KK 125 [wc w] h = some (.ret (.int .i64 (k : Int)), h) := by
 have hw : w ≠ 0#64 := fun e => by subst e; simp at h1
 have hl := Ue w hk h1 h2 h3
 obtain ⟨b1, b2⟩ := Xf hk
 have f0 : kZ .eql (wc w) (.int .u64 0) = some (.bool false) := by rw [ZU, decide_eq_false hw]
 have f1 := LZ w
 have f2 : kZ .and (wc w) (wc (-w)) = some (wc (BitVec.twoPow 64 k)) := by rw [D7, hl]
 have f3 := PW (BitVec.twoPow 64 k)
 have f4 : kZ .shr (wc (BitVec.twoPow 64 k * 285870213051353865#64)) (.int .u64 58) = some (.int .u64 (Vz k : Int)) := by rw [PX, Xd hk]
 have ha : [wc w].all (kR.rX 0) = true := rfl
 generalize Vz k = j at *
 generalize wc (-w) = b at *
 generalize wc (BitVec.twoPow 64 k * 285870213051353865#64) = d at *
 generalize wc (BitVec.twoPow 64 k) = c at *
 generalize wc w = a at *
 obtain ⟨p, e1, e2⟩ := QI b1 b2
 exact Ow ha (Rk hk f0 f1 f2 f3 f4 e1 e2) h
def VS (id : Nat) : List Wd → kR
 | [] => .slice [] (.own id)
 | w :: r => .vslice id (r.length + 1) 0 (r.length + 1) 1
def XS : List Wd → lW
 | [] => .front 0 0
 | w :: r => .vec (r.length + 1) 1 ((w :: r).map wc)
section
variable {A B C : List lW} {ws : List Wd} {id m i : Nat} {h : kT} {k : IntKind}
theorem E_ : lN (VS id ws) = some (.int .i64 (ws.length : Int)) := by cases ws <;> rfl
theorem Tp (hi : id < m) : kR.nM m h (VS id ws) = VS id ws := by
 cases ws with
 | nil => simp [VS, hi]
 | cons w r => exact xQ hi
theorem uM (hi : id < m) : kR.oM m h (VS id ws) = VS id ws := by
 cases ws with
 | nil => simp [VS, hi]
 | cons w r => exact Ct hi
theorem wL : Tq (XS ws) := by
 intro m h
 cases ws with
 | nil => rfl
 | cons w r =>
  have : mP m h ((w :: r).map wc) = some ((w :: r).map wc) := u_ fun c hc => by
   obtain ⟨x, _, rfl⟩ := List.mem_map.1 hc; exact ⟨_, _, rfl⟩
  show (mP m h ((w :: r).map wc)).map _ = _
  rw [this]; rfl
theorem CJ (hi : i < ws.length) : kY 1 (VS id ws) (.int k (i : Int)) = some (.vptr id ws.length i) := by
 cases ws with
 | nil => simp at hi
 | cons w r =>
  have : i < r.length + 1 := by simpa using hi
  simp [VS, this]
theorem EM {X : lW} : (OQ A X B)[A.length]? = some X := by
 unfold OQ; rw [List.getElem?_append_right (Nat.le_refl _), Nat.sub_self]; rfl
theorem Bl (h0 : ws ≠ []) : nA (OQ A (XS ws) B) A.length ws.length = some (1, ws.map wc) := by
 unfold nA
 rw [EM]
 cases ws with
 | nil => exact absurd rfl h0
 | cons w r => simp [XS]
theorem EN (hi : i < ws.length) : kV false 1 (OQ A (XS ws) B) (.vptr A.length ws.length i) = some (wc (ws.getD i 0#64)) := by
 rw [lL, Bl (by intro e; subst e; simp at hi)]
 simp [List.getD_eq_getElem?_getD, hi]
theorem Fa (hi : i < ws.length) (w : Wd) : lU 1 (OQ A (XS ws) B) (.vptr A.length ws.length i) (wc w) = some (OQ A (XS (ws.set i w)) B) := by
 rw [lJ, Bl (by intro e; subst e; simp at hi)]
 have e1 : putCells (ws.map wc) i [wc w] = (ws.set i w).map wc := by
  unfold putCells
  rw [List.map_set, List.set_eq_take_append_cons_drop, if_pos (by simpa using hi)]
  simp
 have e2 : XS (ws.set i w) = .vec ws.length 1 ((ws.set i w).map wc) := by
  cases ws with
  | nil => simp at hi
  | cons x r => cases i <;> simp [XS]
 simp only [Option.bind_some]
 rw [if_pos ⟨rfl, by simp; omega, rfl⟩]
 show some (List.set _ _ (lW.vec ws.length 1 (putCells (ws.map wc) i [wc w]))) = _
 rw [e1, ← e2, xX]
theorem Hv (hl : ws.length ≤ 2000000) (w : Wd) {t : Hk.Tok} : mY 1 8 (OQ A (XS ws) B) (VS A.length ws) (.slice [[wc w]] t) = some (VS A.length (ws ++ [w]), OQ A (XS (ws ++ [w])) B) := by
 have hr : wS 1 (OQ A (XS ws) B) (.slice [[wc w]] t) = some [[wc w]] := by simp
 cases ws with
 | nil =>
  unfold mY
  simp only [VS, hr]
  rw [EM]
  simp [XS, VS, xX]
 | cons x r =>
  have hg := Bl (A := A) (B := B) (ws := x :: r) (by simp)
  unfold mY
  simp only [VS, hr]
  simp only [List.length_cons] at hg hl ⊢
  rw [hg]
  simp only [List.length_nil, Nat.zero_add]
  rw [if_pos ⟨trivial, trivial, by omega, by omega⟩, if_neg (by omega), if_neg (by omega)]
  simp [XS, VS, xX, List.take_of_length_le]
end
end Go.Proofs.YtkeoalhglkfbkaaDoor


namespace Go.Proofs.YtkeoalhglkfbkaaDoor
open Go Hk Go.Proofs.Wd
theorem Qt {id : Nat} {a b : List Wd} (h : a.length = b.length) : VS id a = VS id b := by
 cases a <;> cases b <;> simp_all [VS]
theorem N8 {t : Nat} (ht : t ≤ 2000000) : kZ .quo (.int .i64 (t : Int)) (.int .i64 64) = some (.int .i64 ((t / 64 : Nat) : Int)) := by
 rw [Ki (by omega)]
 have : ((t : Int)).tdiv 64 = ((t / 64 : Nat) : Int) := by rw [Int.tdiv_eq_ediv_of_nonneg (by omega)]; omega
 rw [this, wrap64 (by omega) (by omega)]
theorem Wh {t : Nat} : kZ .rem (.int .i64 (t : Int)) (.int .i64 64) = some (.int .i64 ((t % 64 : Nat) : Int)) := by
 rw [nD (by omega), Int.tmod_eq_emod_of_nonneg (by omega)]; rfl
theorem KZ {h : kT} : lP 1 1 [.int .u64 0] [(0, .int .u64 0)] h = some (.slice [[wc 0#64]] (.own h.length), h ++ [.front 1 1]) := by rfl
section
variable {A B : List lW}
theorem ON (hB : KB A B) {t n : Nat} (ht : t ≤ 2000000) (hn : n = t / 64 + 1) {v : kR} (hv : ∀ h, v.oM (HN A B) h = v) : ∀ (d : Nat) (ws : List Wd), n - ws.length = d →
  mJ (Bq KK (HN A B)) ([VS A.length ws, .int .i64 (t : Int), v], OQ A (XS ws) B) = some (.exit 0, [VS A.length (yX ws n), .int .i64 (t : Int), v], OQ A (XS (yX ws n)) B) := by
 intro d
 induction d with
 | zero =>
  intro ws hd
  rw [mE, Gi (by omega)]
  have hc : ¬ ((ws.length : Int) ≤ ((t / 64 : Nat) : Int)) := by omega
  have q64 := N8 ht
  clear hd
  generalize t / 64 = q at *
  have htr := pN (X := XS ws) (A := A) (B := B) hB wL
  have hs := fun h => uM (ws := ws) (m := HN A B) (h := h) sI
  have step : Bq KK (HN A B) ([VS A.length ws, .int .i64 (t : Int), v], OQ A (XS ws) B) = some (.exit 0, [VS A.length ws, .int .i64 (t : Int), v], OQ A (XS ws) B) := by
   unfold Bq
   simp only [List.getD_cons_zero, List.getD_cons_succ]
   rw [q64, E_]
   simp -implicitDefEqProofs [hc, lC, htr, hs, hv]
  rw [step]; rfl
 | succ d ih =>
  intro ws hd
  rw [mE]
  have hc : ((ws.length : Int) ≤ ((t / 64 : Nat) : Int)) := by omega
  have htr := sS (X := XS (ws ++ [0#64])) (A := A) (B := B) (C := [.front 1 1]) hB wL
  have hs := fun h => uM (ws := ws ++ [0#64]) (m := HN A B) (h := h) sI
  have g := ih (ws ++ [0#64]) (by simp; omega)
  rw [HZ (by omega)] at g
  rw [← g]
  have ha := fun t => Hv (A := A) (B := B ++ [.front 1 1]) (ws := ws) (by omega) 0#64 (t := t)
  have q64 := N8 ht
  clear g ih
  have hl : ws.length ≤ 1000000 := by omega
  clear hd hn
  generalize t / 64 = q at *
  have step : Bq KK (HN A B) ([VS A.length ws, .int .i64 (t : Int), v], OQ A (XS ws) B) = some (.normal, [VS A.length (ws ++ [0#64]), .int .i64 (t : Int), v], OQ A (XS (ws ++ [0#64])) B) := by
   unfold Bq
   simp only [List.getD_cons_zero, List.getD_cons_succ]
   rw [q64, E_]
   simp -implicitDefEqProofs [hc, lC, htr, hs, hv, KZ, ha]
  rw [step]; rfl
theorem acF (hB : KB A B) {t : Nat} (ht : t ≤ 2000000) (ws : List Wd) : KK 122 [VS A.length ws, .int .i64 (t : Int)] (OQ A (XS ws) B) = some (.ret (VS A.length (uK ws t)), OQ A (XS (uK ws t)) (B ++ [.front 0 0])) := by
 refine mN (Uk _ _ _ _) ?_
 have hB2 : KB A (B ++ [.front 0 0]) := hB.app (by simp)
 have g := ON hB2 ht rfl (v := .slice [] (.own (HN A B))) (fun h => by simp) _ ws rfl
 have hl : t / 64 < (yX ws (t / 64 + 1)).length := by rw [yZ]; omega
 have h1 := fun k => CJ (id := A.length) (k := k) hl
 have h2 := EN (A := A) (B := B ++ [.front 0 0]) hl
 have h3 := Fa (A := A) (B := B ++ [.front 0 0]) hl
 have h4 := D8 (s := t % 64) (Nat.mod_lt _ (by omega))
 simp only [Dp, List.length_cons, List.length_nil, Nat.zero_add] at g
 unfold uK adO
 simp only [vK, Iy, Dp, List.length_cons, List.length_nil, Nat.zero_add]
 rw [g]
 simp only [Option.bind_some, Lw, I4, BEq.rfl, beq_self_eq_true, cond_true, List.getD_cons_zero, List.getD_cons_succ]
 rw [N8 ht, Option.bind_some, h1, Option.bind_some, h2, Option.bind_some, Wh, Option.bind_some, h4, Option.bind_some, Fk, Option.bind_some, Option.bind_some, h3]
 simp only [Option.bind_some, QQ, Option.some.injEq, Prod.mk.injEq, n_.ret.injEq, and_true, List.getD_cons_zero]
 exact Qt (by simp)
theorem agT (hB : KB A B) {t : Nat} (ht : t ≤ 2000000) (ws : List Wd) : KK 123 [(VS A.length ws).k8, .int .i64 (t : Int)] (OQ A (XS ws) B) = some (.ret (.tuple []), OQ A (XS (s7 ws t)) B) := by
 refine mN (Ul _ _ _ _) ?_
 have htr := fun ws => pN (X := XS ws) (A := A) (B := B) hB wL
 have hlen : lN (VS A.length ws).k8 = some (.int .i64 (ws.length : Int)) := by cases ws <;> rfl
 unfold s7 adP
 rw [N8 ht, Option.bind_some, hlen]
 by_cases hl : t / 64 < ws.length
 ·have hl' : ((t / 64 : Nat) : Int) < (ws.length : Int) := by omega
  have e : (VS A.length ws).k8 = VS A.length ws := by cases ws with | nil => simp at hl | cons w r => rfl
  have h1 := fun k => CJ (id := A.length) (k := k) hl
  have h2 := EN (A := A) (B := B) hl
  have h3 := Fa (A := A) (B := B) hl
  have h4 := D8 (s := t % 64) (Nat.mod_lt _ (by omega))
  rw [e, if_pos hl]
  simp only [Option.bind_some, Fj, decide_eq_true hl', lS, cond_true]
  rw [h1, Option.bind_some, h2, Option.bind_some, Wh, Option.bind_some, h4, Option.bind_some, Fi, Option.bind_some, Option.bind_some, h3]
  simp -implicitDefEqProofs [nE, htr]
 ·have hl' : ¬ ((t / 64 : Nat) : Int) < (ws.length : Int) := by omega
  rw [if_neg hl]
  simp only [Option.bind_some, Fj, decide_eq_false hl', lS, cond_false]
  simp -implicitDefEqProofs [nE, htr]
end
end Go.Proofs.YtkeoalhglkfbkaaDoor


namespace Go.Proofs.YtkeoalhglkfbkaaDoor
open Go Hk Go.Proofs.Wd
abbrev TH (h : kT) : Prop := Aw h.length h
theorem pW {h C : kT} (hK : TH h) : mL h.length (h ++ C) = some h := by
 unfold mL
 rw [List.take_left]
 exact hK _ _ (Nat.le_refl _)
theorem pI {h : kT} (hK : TH h) : mL h.length h = some h := by
 have := pW (C := []) hK
 rwa [List.append_nil] at this
theorem LM {h C : kT} (hK : TH h) (hC : Aw (h.length + C.length) C) : TH (h ++ C) := by
 unfold TH
 rw [List.length_append]
 exact oT (hK.mono (by omega)) hC
theorem abN {A B : List lW} {X : lW} (hB : KB A B) (hX : Tq X) : TH (OQ A X B) := by
 intro m h' hm
 rw [vK] at hm
 refine xR (hB.a m hm m h' (Nat.le_refl _)) ?_
 simp only [oA, hX m h', hB.b m hm m h' (Nat.le_refl _)]
structure BQ (h : kT) (S : kR) (ws : List Wd) : Prop where
 len : lN S = some (.int .i64 (ws.length : Int))
 at_ : ∀ i, i < ws.length → ∃ p, kY 1 S (.int .i64 (i : Int)) = some p ∧ ∀ C, kV false 1 (h ++ C) p = some (wc (ws.getD i 0#64))
 oM : ∀ m h', h.length ≤ m → S.nM m h' = S
def PS (ws : List Wd) : kR := .slice (ws.map fun w => [wc w]) .no
theorem Ll {h : kT} {ws : List Wd} : BQ h (PS ws) ws := by
 refine ⟨by simp [PS], fun i hi => ⟨.pptr [wc (ws.getD i 0#64)], ?_, fun C => by simp⟩, fun m h' _ => rfl⟩
 rw [PS, lF, List.getElem?_eq_getElem hi]
 simp [List.getD_eq_getElem?_getD, hi]
theorem R8 {A B : List lW} {ws : List Wd} : BQ (OQ A (XS ws) B) (VS A.length ws) ws := by
 refine ⟨E_, fun i hi => ⟨_, CJ hi, fun C => ?_⟩, fun m h' hm => Tp (by rw [vK] at hm; have := sI (A := A) (B := B); omega)⟩
 rw [Iy]; exact EN hi
theorem BQ.k8 {h : kT} {A B : List lW} {ws : List Wd} (e : h = OQ A (XS ws) B) : BQ h (VS A.length ws).k8 ws := by
 subst e
 cases ws with
 | nil => exact ⟨rfl, fun i hi => by simp at hi, fun _ _ _ => rfl⟩
 | cons w r => exact R8
def FR (n : Nat) : lW := if n = 0 then .front 0 0 else .front n 1
theorem uD {n k : Nat} : Aw k [FR n] := by
 unfold FR; split <;> exact nW oW
def zs (l : List Nat) : List Int := l.map fun k : Nat => (k : Int)
theorem D6 {l : List Nat} : (zs l).length = l.length := by simp [zs]
def ints (l : List Int) : List (List kR) := l.map fun n => [.int .i64 n]
theorem yH {h C : kT} {l : List Int} {z : Int} (hl : l.length ≤ 2000000) {t : Hk.Tok} :
  nQ 1 8 (h ++ FR l.length :: C) (.slice (ints l) (.own h.length)) (.slice [[.int .i64 z]] t) = some (.slice (ints (l ++ [z])) (.own h.length), h ++ FR (l.length + 1) :: C) := by
 have hr : ∀ H : kT, tA 1 H (.slice [[.int .i64 z]] t) = some [[.int .i64 z]] := fun H => by simp
 have hg : ∀ x, (h ++ x :: C)[h.length]? = some x := fun x => by rw [List.getElem?_append_right (Nat.le_refl _), Nat.sub_self]; rfl
 have hs : ∀ x y, (h ++ x :: C).set h.length y = h ++ y :: C := fun x y => by rw [List.set_append_right _ _ (Nat.le_refl _), Nat.sub_self]; rfl
 have hi : (ints l).length = l.length := by simp [ints]
 have e1 : FR (l.length + 1) = .front (l.length + 1) 1 := by simp [FR]
 have e2 : ints (l ++ [z]) = ints l ++ [[.int .i64 z]] := by simp [ints]
 unfold nQ
 simp only [hr]
 rw [hg, e1, e2]
 by_cases h0 : l.length = 0
 ·have e3 : FR l.length = .front 0 0 := by simp [FR, h0]
  rw [e3]
  simp only [hi, List.length_singleton, hs]
  rw [if_pos ⟨h0, .inr ⟨trivial, trivial⟩, by omega, by omega⟩, if_neg (by omega), h0]
 ·have e3 : FR l.length = .front l.length 1 := by simp [FR, h0]
  rw [e3]
  simp only [hi, List.length_singleton, hs]
  rw [if_pos ⟨trivial, .inl trivial, by omega, by omega⟩, if_neg (by omega)]
section
variable {h : kT} (hK : TH h) {S : kR} {ws : List Wd} (hS : BQ h S ws) (hw : ws.length ≤ 20000)
include hK hS hw
theorem Pk (i : Nat) (hi : i ≤ 20000) (c : Int) {v : kR} (hv : ∀ h', v.nM (h.length + 2) h' = v) (hv2 : ∀ h', v.oM (h.length + 2) h' = v) : ∀ (n : Nat) (w : Wd) (l : List Int), w.toNat < n → l.length + (uF w).length ≤ 64 * i + 64 →
  mJ (DN KK (h.length + 2)) ([v, .slice (ints l) (.own (h.length + 1)), .int .i64 (i : Int), wc w, S, .int .i64 c, .int .i64 (i : Int)], h ++ [.front 0 0, FR l.length]) =
   some (.exit 2, [v, .slice (ints (l ++ (uF w).map fun k => ((64 * i + k : Nat) : Int))) (.own (h.length + 1)), .int .i64 (i : Int), wc 0#64, S, .int .i64 c, .int .i64 (i : Int)], h ++ [.front 0 0, FR (l ++ (uF w).map fun k => ((64 * i + k : Nat) : Int)).length]) := by
 have hSs : ∀ h', S.oM (h.length + 2) h' = S := fun h' => by
  have h1 := hS.len
  cases S with
  | slice rows t => exact hS.oM _ h' (by omega)
  | mslice a b c d => exact hS.oM _ h' (by omega)
  | vslice a b c d e => exact hS.oM _ h' (by omega)
  | _ => simp [lN] at h1
 have hT : ∀ n, TH (h ++ [.front 0 0, FR n]) := fun n => LM hK (nW uD)
 have htr : ∀ n C, mL (h.length + 2) (h ++ .front 0 0 :: FR n :: C) = some (h ++ [.front 0 0, FR n]) := fun n C => by
  have := pW (C := C) (hT n)
  simpa using this
 have hwc : ∀ w h', kR.oM (h.length + 2) h' (wc w) = wc w := fun w h' => rfl
 intro n
 induction n with
 | zero => intro w l a1; omega
 | succ n ih =>
  intro w l a1 a2
  rw [mE]
  have f0 := U6 w
  by_cases h0 : w = 0#64
  ·subst h0
   rw [Ms]
   have step : DN KK (h.length + 2) ([v, .slice (ints l) (.own (h.length + 1)), .int .i64 (i : Int), wc 0#64, S, .int .i64 c, .int .i64 (i : Int)], h ++ [.front 0 0, FR l.length]) =
     some (.exit 2, [v, .slice (ints l) (.own (h.length + 1)), .int .i64 (i : Int), wc 0#64, S, .int .i64 c, .int .i64 (i : Int)], h ++ [.front 0 0, FR l.length]) := by
    unfold DN
    simp only [List.getD_cons_zero, List.getD_cons_succ]
    rw [f0]
    simp -implicitDefEqProofs [lC, htr, hv2, hSs, hwc]
   rw [step]; simp
  ·obtain ⟨k, hk, h1, h2, h3⟩ := lowest w h0
   have hc := QN w h0
   have hlw := Mr w hk h1 h2 h3
   have f1 := Kj w
   have f2 := D7 w (w - 1#64)
   have f3 := fun h' => agV w hk h1 h2 h3 h'
   have g := ih (w &&& (w - 1#64)) (l ++ [((64 * i + k : Nat) : Int)]) (by omega) (by rw [hlw] at a2; simp at a2 ⊢; omega)
   have hle : (uF w).length ≤ 64 := by unfold uF; exact Nat.le_trans (List.length_filter_le _ _) (by simp)
   have w1 : IntKind.i64.wrap (64 * (i : Int)) = 64 * (i : Int) := by rw [wrap64] <;> omega
   have w2 : IntKind.i64.wrap (64 * (i : Int) + (k : Int)) = ((64 * i + k : Nat) : Int) := by rw [wrap64] <;> omega
   have fa := fun C t => yH (h := h ++ [.front 0 0]) (C := C) (l := l) (z := ((64 * i + k : Nat) : Int)) (by omega) (t := t)
   simp only [List.length_append, List.length_cons, List.length_nil, Nat.zero_add, List.append_assoc, List.cons_append, List.nil_append] at fa
   have fb : ∀ (h' : kT) (z : Int), lP 1 1 [.int .i64 0] [(0, .int .i64 z)] h' = some (.slice [[.int .i64 z]] (.own h'.length), h' ++ [.front 1 1]) := fun h' z => rfl
   rw [hlw]
   simp only [List.map_cons]
   have e : l ++ ((64 * i + k : Nat) : Int) :: (uF (w &&& (w - 1#64))).map (fun k => ((64 * i + k : Nat) : Int)) = (l ++ [((64 * i + k : Nat) : Int)]) ++ (uF (w &&& (w - 1#64))).map (fun k => ((64 * i + k : Nat) : Int)) := by simp
   rw [e, ← g]
   clear g ih a2 hlw e a1 hc h1 h2 h3 hle
   generalize (64 * i + k : Nat) = z at *
   generalize w - 1#64 = wm at *
   generalize w &&& wm = w' at *
   have f0' : kZ .neq (wc w) (.int .u64 0) = some (.bool true) := by rw [f0, decide_eq_false h0]; rfl
   have fu : kR.k8 (wc w) = wc w := rfl
   have step : DN KK (h.length + 2) ([v, .slice (ints l) (.own (h.length + 1)), .int .i64 (i : Int), wc w, S, .int .i64 c, .int .i64 (i : Int)], h ++ [.front 0 0, FR l.length]) =
     some (.normal, [v, .slice (ints (l ++ [(z : Int)])) (.own (h.length + 1)), .int .i64 (i : Int), wc w', S, .int .i64 c, .int .i64 (i : Int)], h ++ [.front 0 0, FR (l.length + 1)]) := by
    clear f0
    have hw' := fun h' => hwc w' h'
    clear hwc
    generalize wc w = a at *
    generalize wc w' = a' at *
    generalize wc wm = am at *
    unfold DN
    simp only [List.getD_cons_zero, List.getD_cons_succ]
    rw [f0']
    simp -implicitDefEqProofs [lC, htr, hv2, hSs, w1, w2, f1, f2, f3, fa, fb, fu, hw']
   rw [step]; simp
theorem Pl {v : kR} (hv : ∀ h', v.nM (h.length + 2) h' = v) (hv2 : ∀ h', v.oM (h.length + 2) h' = v) : ∀ (n i : Nat), ws.length < i + n → i ≤ ws.length →
  ∃ j : Int, mJ (DO KK (h.length + 2)) ([v, .slice (ints (zs (oE ws i))) (.own (h.length + 1)), S, .int .i64 (ws.length : Int), .int .i64 (i : Int)], h ++ [.front 0 0, FR (oE ws i).length]) =
   some (.exit 0, [v, .slice (ints (zs (oE ws ws.length))) (.own (h.length + 1)), S, .int .i64 (ws.length : Int), .int .i64 j], h ++ [.front 0 0, FR (oE ws ws.length).length]) := by
 have hSs : ∀ h', S.oM (h.length + 2) h' = S := fun h' => by
  have h1 := hS.len
  cases S with
  | slice rows t => exact hS.oM _ h' (by omega)
  | mslice a b c d => exact hS.oM _ h' (by omega)
  | vslice a b c d e => exact hS.oM _ h' (by omega)
  | _ => simp [lN] at h1
 have hT : ∀ n, TH (h ++ [.front 0 0, FR n]) := fun n => LM hK (nW uD)
 have htr : ∀ n C, mL (h.length + 2) (h ++ .front 0 0 :: FR n :: C) = some (h ++ [.front 0 0, FR n]) := fun n C => by
  have := pW (C := C) (hT n)
  simpa using this
 have hlu : ∀ i, (oE ws i).length ≤ 64 * i := fun i => by
  rw [AL]; exact Nat.le_trans (List.length_filter_le _ _) (by simp)
 intro n
 induction n with
 | zero => intro i a1 a2; omega
 | succ n ih =>
  intro i a1 a2
  rw [mE]
  by_cases hi : i < ws.length
  ·have hi' : (i : Int) < ws.length := by omega
   obtain ⟨p, e1, e2⟩ := hS.at_ i hi
   have w1 := vV (a := i) (by omega)
   have g0 := Pk hK hS hw i (by omega) (ws.length : Int) hv hv2 ((ws.getD i 0#64).toNat + 1) (ws.getD i 0#64) (zs (oE ws i)) (by omega) (by
    have h1 := hlu i
    have h2 : (uF (ws.getD i 0#64)).length ≤ 64 := by unfold uF; exact Nat.le_trans (List.length_filter_le _ _) (by simp)
    rw [D6]; omega)
   have eu : oE ws (i + 1) = oE ws i ++ (uF (ws.getD i 0#64)).map (64 * i + ·) := by
    unfold oE; rw [List.range_succ, List.flatMap_append]; simp
   have el : (zs (oE ws i)) ++ (uF (ws.getD i 0#64)).map (fun k => ((64 * i + k : Nat) : Int)) = zs (oE ws (i + 1)) := by
    rw [eu, zs, zs, List.map_append, List.map_map]; rfl
   rw [el] at g0
   simp only [D6] at g0
   obtain ⟨j, g1⟩ := ih (i + 1) (by omega) hi
   refine ⟨j, ?_⟩
   rw [← g1]
   simp only [Int.natCast_add, Int.cast_ofNat_Int]
   have e2' := e2 [.front 0 0, FR (oE ws i).length]
   clear g1 ih e2 eu el
   generalize wc (ws.getD i 0#64) = a at *
   have step : DO KK (h.length + 2) ([v, .slice (ints (zs (oE ws i))) (.own (h.length + 1)), S, .int .i64 (ws.length : Int), .int .i64 (i : Int)], h ++ [.front 0 0, FR (oE ws i).length]) =
     some (.normal, [v, .slice (ints (zs (oE ws (i + 1)))) (.own (h.length + 1)), S, .int .i64 (ws.length : Int), .int .i64 ((i : Int) + 1)], h ++ [.front 0 0, FR (oE ws (i + 1)).length]) := by
    unfold DO
    simp -implicitDefEqProofs [hi', e1, e2', g0, lC, htr, hv2, hSs, w1]
   rw [step]; rfl
  ·have hi' : ¬ (i : Int) < ws.length := by omega
   obtain rfl : i = ws.length := by omega
   refine ⟨(ws.length : Int), ?_⟩
   have step : DO KK (h.length + 2) ([v, .slice (ints (zs (oE ws ws.length))) (.own (h.length + 1)), S, .int .i64 (ws.length : Int), .int .i64 (ws.length : Int)], h ++ [.front 0 0, FR (oE ws ws.length).length]) =
     some (.exit 0, [v, .slice (ints (zs (oE ws ws.length))) (.own (h.length + 1)), S, .int .i64 (ws.length : Int), .int .i64 (ws.length : Int)], h ++ [.front 0 0, FR (oE ws ws.length).length]) := by
    unfold DO
    simp -implicitDefEqProofs [lC, htr, hv2, hSs]
   rw [step]; rfl
theorem c63 : KK 63 [S] h = some (.ret (.slice (ints (zs (nN ws))) .no), h) := by
 refine mN (Yp _ _ _) ?_
 obtain ⟨j, g⟩ := Pl hK hS hw (v := .slice [] (.own h.length)) (fun h' => by simp) (fun h' => by simp) (ws.length + 1) 0 (by omega) (Nat.zero_le _)
 have e0 : oE ws 0 = [] := rfl
 rw [e0] at g
 have hl := hS.len
 have htr := fun C => pW (C := C) hK
 rw [Mq]
 have e1 : FR ([] : List Nat).length = .front 0 0 := rfl
 have e2 : ints (zs []) = [] := rfl
 rw [e1, e2] at g
 simp only [Int.cast_ofNat_Int] at g
 unfold m63
 have hd : decide (h.length + 1 < h.length) = false := by simp
 simp -implicitDefEqProofs [hl, g, nE, htr, hd]
end
theorem OO (a b : List Int) (hab : a.length = b.length) (hl : a.length ≤ 2000000) : ∀ (n i : Nat), a.length < i + n → i ≤ a.length →
  ∃ (ex : Ex) (r : Bool) (j : Int), mJ (C8 KK 0) ([.slice (ints a) .no, .slice (ints b) .no, .bool false, .int .i64 (a.length : Int), .int .i64 (i : Int)], []) = some (ex, [.slice (ints a) .no, .slice (ints b) .no, .bool r, .int .i64 (a.length : Int), .int .i64 j], []) ∧
   ((ex = .ret ∧ r = false ∧ a.drop i ≠ b.drop i) ∨ (ex = .exit 0 ∧ a.drop i = b.drop i)) := by
 intro n
 induction n with
 | zero => intro i a1 a2; omega
 | succ n ih =>
  intro i a1 a2
  rw [mE]
  by_cases hi : i < a.length
  ·have hi' : (i : Int) < a.length := by omega
   have hx : a[i]? = some a[i] := List.getElem?_eq_getElem hi
   have hib : i < b.length := by omega
   have hy : b[i]? = some b[i] := List.getElem?_eq_getElem hib
   have w1 := vV (a := i) (by omega)
   rw [List.drop_eq_getElem_cons hi, List.drop_eq_getElem_cons hib]
   generalize a[i] = x at *
   generalize b[i] = y at *
   by_cases he : x = y
   ·obtain ⟨ex, r, j, g1, g2⟩ := ih (i + 1) (by omega) hi
    refine ⟨ex, r, j, ?_, ?_⟩
    ·simp only [Int.natCast_add, Int.cast_ofNat_Int] at g1
     rw [← g1]
     simp [C8, hi', hx, hy, ints, he, wE, w1]
    ·rw [he]; simpa using g2
   ·refine ⟨.ret, false, i, ?_, .inl ⟨rfl, rfl, by simp [he]⟩⟩
    simp [C8, hi', hx, hy, ints, he, wE]
  ·have hi' : ¬ (i : Int) < a.length := by omega
   rw [List.drop_eq_nil_of_le (by omega), List.drop_eq_nil_of_le (by omega)]
   refine ⟨.exit 0, false, i, ?_, .inr ⟨rfl, rfl⟩⟩
   simp [C8, hi', wE]
theorem agU (a b : List Int) (hl : a.length ≤ 2000000) (h : kT) : KK 124 [.slice (ints a) .no, .slice (ints b) .no] h = some (.ret (.bool (decide (a = b))), h) := by
 refine lZ rfl rfl (mN (Um _ _ _ _) ?_)
 have e1 : lN (.slice (ints a) .no) = some (.int .i64 (a.length : Int)) := by simp [ints]
 have e2 : lN (.slice (ints b) .no) = some (.int .i64 (b.length : Int)) := by simp [ints]
 by_cases hab : a.length = b.length
 ·obtain ⟨ex, r, j, g1, g2⟩ := OO a b hab hl (a.length + 1) 0 (by omega) (Nat.zero_le _)
  simp only [List.drop_zero, Int.cast_ofNat_Int] at g1 g2
  rw [← hab] at e2
  unfold XW
  rcases g2 with ⟨rfl, rfl, g2⟩ | ⟨rfl, g2⟩
  ·simp [e1, e2, g1, g2, lH]
  ·subst g2
   simp [e1, g1, lH]
 ·have hab' : ¬ ((a.length : Int) = (b.length : Int)) := by omega
  have hne : ¬ a = b := fun e => hab (by rw [e])
  unfold XW
  simp [e1, e2, hab, hab', hne, lH]
theorem c62 {h : kT} (hK : TH h) {S T : kR} {a b : List Wd} (hS : BQ h S.k8 a) (hT : BQ h T.k8 b) (ha : a.length ≤ 20000) (hb : b.length ≤ 20000) :
  KK 62 [S, T] h = some (.ret (.bool (decide (nN a = nN b))), h) := by
 refine mN (Yo _ _ _ _) ?_
 have f1 := c63 hK hS ha
 have f2 := c63 hK hT hb
 have f3 := fun h' => agU (zs (nN a)) (zs (nN b)) (by
  rw [D6, nN]; exact Nat.le_trans (List.length_filter_le _ _) (by simp; omega)) h'
 have e : decide (zs (nN a) = zs (nN b)) = decide (nN a = nN b) := by
  congr 1
  refine propext ⟨fun h => ?_, fun h => by rw [h]⟩
  exact (List.map_inj_right (fun x y hxy => Int.ofNat_inj.1 hxy)).1 h
 rw [e] at f3
 have htr := pI hK
 simp -implicitDefEqProofs [m62, f1, f2, f3, nE, htr]
end Go.Proofs.YtkeoalhglkfbkaaDoor


namespace Go.Proofs.YtkeoalhglkfbkaaDoor
open Go Hk Go.Proofs.Wd
def pO (out s : List Wd) : Nat → List Wd
 | 0 => yX out s.length
 | i + 1 => (pO out s i).set i ((pO out s i).getD i 0#64 ||| s.getD i 0#64)
theorem uU (out s : List Wd) : ∀ i, (pO out s i).length = max out.length s.length
 | 0 => yZ _ _
 | i + 1 => by simp [pO, uU out s i]
theorem Em (out s : List Wd) : ∀ i, i ≤ s.length → ∀ j, (pO out s i).getD j 0#64 = if j < i then out.getD j 0#64 ||| s.getD j 0#64 else out.getD j 0#64
 | 0, _, j => by rw [if_neg (by omega)]; exact yY _ _ _
 | i + 1, hi, j => by
  have ih := Em out s i (by omega)
  rw [pO, FU _ _ _ _ (by rw [uU]; omega), ih i, ih j, if_neg (Nat.lt_irrefl _)]
  by_cases h : i = j
  ·subst h; rw [if_pos rfl, if_pos (by omega)]
  ·rw [if_neg h]
   by_cases h2 : j < i
   ·rw [if_pos h2, if_pos (by omega)]
   ·rw [if_neg h2, if_neg (by omega)]
theorem QU {a b : List Wd} (hl : a.length = b.length) (h : ∀ j, a.getD j 0#64 = b.getD j 0#64) : a = b := by
 apply List.ext_getElem hl
 intro i h1 h2
 have := h i
 simpa [List.getD_eq_getElem?_getD, h1, h2] using this
theorem M3 (out s : List Wd) : pO out s s.length = EJ out s := by
 refine QU (by rw [uU, N5]) fun j => ?_
 rw [Em _ _ _ (Nat.le_refl _), K_]
 split
 ·rfl
 ·rename_i h
  have : s.getD j 0#64 = 0#64 := by rw [List.getD_eq_getElem?_getD, List.getElem?_eq_none (by omega)]; rfl
  rw [this]; simp
def sX (L : List (List Wd)) : List Wd := L.foldl EJ []
theorem D3 (t : Nat) : ∀ (L : List (List Wd)) (out : List Wd), oV (L.foldl EJ out) t = (oV out t || L.any (oV · t))
 | [], out => by simp
 | s :: r, out => by rw [List.foldl_cons, D3 t r, U7, List.any_cons, Bool.or_assoc]
theorem yQ (n : Nat) : ∀ (L : List (List Wd)) (out : List Wd), out.length ≤ n → (∀ s ∈ L, s.length ≤ n) → (L.foldl EJ out).length ≤ n
 | [], out, h, _ => h
 | s :: r, out, h, hl => by
  rw [List.foldl_cons]
  exact yQ n r _ (by rw [N5]; have := hl s (by simp); omega) fun x hx => hl x (by simp [hx])
section
variable {A B : List lW} (hB : KB A B)
include hB
theorem Pg {s : List Wd} (hs : s.length ≤ 20000) {v x c : kR} {i : Int} (hv : ∀ h, v.oM (HN A B) h = v) (hx : ∀ h, x.oM (HN A B) h = x) (hc : ∀ h, c.oM (HN A B) h = c) : ∀ (d : Nat) (ws : List Wd), s.length - ws.length = d →
  mJ (DK KK (HN A B)) ([v, VS A.length ws, PS s, x, c, .int .i64 i], OQ A (XS ws) B) = some (.exit 2, [v, VS A.length (yX ws s.length), PS s, x, c, .int .i64 i], OQ A (XS (yX ws s.length)) B) := by
 have hps : lN (PS s) = some (.int .i64 (s.length : Int)) := by simp [PS]
 have hpn : ∀ h, (PS s).oM (HN A B) h = PS s := fun h => rfl
 intro d
 induction d with
 | zero =>
  intro ws hd
  rw [mE, Gi (by omega)]
  have hcc : ¬ ((ws.length : Int) < (s.length : Int)) := by omega
  have htr := pN (X := XS ws) (A := A) (B := B) hB wL
  have hsn := fun h => uM (ws := ws) (m := HN A B) (h := h) sI
  have step : DK KK (HN A B) ([v, VS A.length ws, PS s, x, c, .int .i64 i], OQ A (XS ws) B) = some (.exit 2, [v, VS A.length ws, PS s, x, c, .int .i64 i], OQ A (XS ws) B) := by
   unfold DK
   simp only [List.getD_cons_zero, List.getD_cons_succ]
   rw [E_, hps]
   simp -implicitDefEqProofs [hcc, lC, htr, hsn, hv, hx, hc, hpn]
  rw [step]; rfl
 | succ d ih =>
  intro ws hd
  rw [mE]
  have hcc : ((ws.length : Int) < (s.length : Int)) := by omega
  have htr := sS (X := XS (ws ++ [0#64])) (A := A) (B := B) (C := [.front 1 1]) hB wL
  have hsn := fun h => uM (ws := ws ++ [0#64]) (m := HN A B) (h := h) sI
  have g := ih (ws ++ [0#64]) (by simp; omega)
  rw [HZ (by omega)] at g
  rw [← g]
  have ha := fun t => Hv (A := A) (B := B ++ [.front 1 1]) (ws := ws) (by omega) 0#64 (t := t)
  clear g ih
  have step : DK KK (HN A B) ([v, VS A.length ws, PS s, x, c, .int .i64 i], OQ A (XS ws) B) = some (.normal, [v, VS A.length (ws ++ [0#64]), PS s, x, c, .int .i64 i], OQ A (XS (ws ++ [0#64])) B) := by
   unfold DK
   simp only [List.getD_cons_zero, List.getD_cons_succ]
   rw [E_, hps]
   simp -implicitDefEqProofs [hcc, lC, htr, hsn, hv, hx, hc, hpn, KZ, ha]
  rw [step]; rfl
theorem Ph {s out : List Wd} (hs : s.length ≤ 20000) {v x c : kR} {i : Int} (hv : ∀ h, v.oM (HN A B) h = v) (hx : ∀ h, x.oM (HN A B) h = x) (hc : ∀ h, c.oM (HN A B) h = c) : ∀ (d j : Nat), s.length = j + d →
  mJ (DL KK (HN A B)) ([v, VS A.length (pO out s j), x, c, .int .i64 i, PS s, .int .i64 (s.length : Int), .int .i64 (j : Int)], OQ A (XS (pO out s j)) B) =
   some (.exit 4, [v, VS A.length (EJ out s), x, c, .int .i64 i, PS s, .int .i64 (s.length : Int), .int .i64 (s.length : Int)], OQ A (XS (EJ out s)) B) := by
 have hpn : ∀ h, (PS s).oM (HN A B) h = PS s := fun h => rfl
 intro d
 induction d with
 | zero =>
  intro j hj
  obtain rfl : s.length = j := by omega
  rw [mE, M3]
  have htr := pN (X := XS (EJ out s)) (A := A) (B := B) hB wL
  have hsn := fun h => uM (ws := EJ out s) (m := HN A B) (h := h) sI
  have step : DL KK (HN A B) ([v, VS A.length (EJ out s), x, c, .int .i64 i, PS s, .int .i64 (s.length : Int), .int .i64 (s.length : Int)], OQ A (XS (EJ out s)) B) =
    some (.exit 4, [v, VS A.length (EJ out s), x, c, .int .i64 i, PS s, .int .i64 (s.length : Int), .int .i64 (s.length : Int)], OQ A (XS (EJ out s)) B) := by
   unfold DL
   simp -implicitDefEqProofs [lC, htr, hsn, hv, hx, hc, hpn]
  rw [step]; rfl
 | succ d ih =>
  intro j hj
  rw [mE]
  have hcc : ((j : Int) < (s.length : Int)) := by omega
  have hjl : j < (pO out s j).length := by rw [uU]; omega
  have w1 := vV (a := j) (by omega)
  have e1 := fun k => CJ (id := A.length) (k := k) hjl
  have e2 := EN (A := A) (B := B) hjl
  have e3 := Fa (A := A) (B := B) hjl
  have e4 : kY 1 (PS s) (.int .i64 (j : Int)) = some (.pptr [wc (s.getD j 0#64)]) := by
   rw [PS, lF, List.getElem?_eq_getElem (by omega)]
   simp [List.getD_eq_getElem?_getD, show j < s.length by omega]
  have e5 := Fk ((pO out s j).getD j 0#64) (s.getD j 0#64)
  have eV : VS A.length (pO out s j) = VS A.length (pO out s (j + 1)) := Qt (by rw [uU, uU])
  have htr := pN (X := XS (pO out s (j + 1))) (A := A) (B := B) hB wL
  have hsn := fun h => uM (ws := pO out s (j + 1)) (m := HN A B) (h := h) sI
  have g := ih (j + 1) (by omega)
  rw [← g]
  clear g ih
  have e3' := e3 ((pO out s j).getD j 0#64 ||| s.getD j 0#64)
  have eo : (pO out s j).set j ((pO out s j).getD j 0#64 ||| s.getD j 0#64) = pO out s (j + 1) := rfl
  rw [eo] at e3'
  have w1' : IntKind.i64.wrap ((j : Int) + 1) = ((j + 1 : Nat) : Int) := by rw [w1]; simp
  have step : DL KK (HN A B) ([v, VS A.length (pO out s j), x, c, .int .i64 i, PS s, .int .i64 (s.length : Int), .int .i64 (j : Int)], OQ A (XS (pO out s j)) B) =
    some (.normal, [v, VS A.length (pO out s (j + 1)), x, c, .int .i64 i, PS s, .int .i64 (s.length : Int), .int .i64 ((j + 1 : Nat) : Int)], OQ A (XS (pO out s (j + 1))) B) := by
   rw [← eV] at hsn ⊢
   clear e3 eo
   generalize pO out s (j + 1) = o2 at *
   generalize wc ((pO out s j).getD j 0#64 ||| s.getD j 0#64) = a1 at *
   generalize wc ((pO out s j).getD j 0#64) = a2 at *
   generalize wc (s.getD j 0#64) = a3 at *
   generalize ((j + 1 : Nat) : Int) = j1 at *
   unfold DL
   simp -implicitDefEqProofs [hcc, e1, e2, e3', e4, e5, lC, htr, hsn, hv, hx, hc, hpn, w1']
  rw [step]; rfl
end
section
variable {A : List lW} (hB : KB A [])
include hB
theorem Pj {L : List (List Wd)} (hL : L.length ≤ 2000000) (hl : ∀ s ∈ L, s.length ≤ 20000) {v : kR} (hv : ∀ h, v.oM (HN A []) h = v) : ∀ (d i : Nat) (out : List Wd), L.length = i + d →
  mJ (DM KK (HN A [])) ([v, VS A.length out, .slice (L.map fun s => [PS s]) .no, .int .i64 (L.length : Int), .int .i64 (i : Int)], OQ A (XS out) []) =
   some (.exit 0, [v, VS A.length ((L.drop i).foldl EJ out), .slice (L.map fun s => [PS s]) .no, .int .i64 (L.length : Int), .int .i64 (L.length : Int)], OQ A (XS ((L.drop i).foldl EJ out)) []) := by
 intro d
 induction d with
 | zero =>
  intro i out hi
  obtain rfl : L.length = i := by omega
  rw [mE, List.drop_length]
  have htr := pN (X := XS out) (A := A) hB wL
  have hsn := fun h => uM (ws := out) (m := HN A []) (h := h) sI
  have step : DM KK (HN A []) ([v, VS A.length out, .slice (L.map fun s => [PS s]) .no, .int .i64 (L.length : Int), .int .i64 (L.length : Int)], OQ A (XS out) []) =
    some (.exit 0, [v, VS A.length out, .slice (L.map fun s => [PS s]) .no, .int .i64 (L.length : Int), .int .i64 (L.length : Int)], OQ A (XS out) []) := by
   unfold DM
   simp -implicitDefEqProofs [lC, htr, hsn, hv]
  rw [step]; rfl
 | succ d ih =>
  intro i out hi
  rw [mE]
  have hil : i < L.length := by omega
  have hcc : ((i : Int) < (L.length : Int)) := by omega
  have hx : L[i]? = some L[i] := List.getElem?_eq_getElem hil
  have hsl := hl L[i] (List.getElem_mem hil)
  have w1 : IntKind.i64.wrap ((i : Int) + 1) = ((i + 1 : Nat) : Int) := by rw [vV (a := i) (by omega)]; simp
  rw [List.drop_eq_getElem_cons hil]
  generalize L[i] = s at *
  have hc : ∀ h, (kR.int .i64 (L.length : Int)).oM (HN A []) h = .int .i64 (L.length : Int) := fun h => rfl
  have hxx : ∀ h, (kR.slice (L.map fun s => [PS s]) .no).oM (HN A []) h = .slice (L.map fun s => [PS s]) .no := fun h => rfl
  have g0 := Pg hB hsl (i := (i : Int)) hv hxx hc _ out rfl
  have g1 := Ph hB hsl (out := out) (i := (i : Int)) hv hxx hc s.length 0 (by omega)
  have htr := pN (X := XS (EJ out s)) (A := A) hB wL
  have hsn := fun h => uM (ws := EJ out s) (m := HN A []) (h := h) sI
  have hps : lN (PS s) = some (.int .i64 (s.length : Int)) := by simp [PS]
  have e4 : kY 1 (.slice (L.map fun s => [PS s]) .no) (.int .i64 (i : Int)) = some (.pptr [PS s]) := by
   rw [lF, hx]; rfl
  simp only [pO, Int.cast_ofNat_Int] at g1
  rw [List.foldl_cons, ← ih (i + 1) (EJ out s) (by omega)]
  clear ih
  generalize ((i + 1 : Nat) : Int) = i1 at *
  have step : DM KK (HN A []) ([v, VS A.length out, .slice (L.map fun s => [PS s]) .no, .int .i64 (L.length : Int), .int .i64 (i : Int)], OQ A (XS out) []) =
    some (.normal, [v, VS A.length (EJ out s), .slice (L.map fun s => [PS s]) .no, .int .i64 (L.length : Int), .int .i64 i1], OQ A (XS (EJ out s)) []) := by
   generalize hR : kR.slice (L.map fun s => [PS s]) .no = R at *
   unfold DM
   simp -implicitDefEqProofs [hcc, e4, g0, hps, g1, lC, htr, hsn, hv, hxx, w1]
  rw [step]; rfl
end
theorem c59 {h : kT} (hK : TH h) {L : List (List Wd)} (hL : L.length ≤ 2000000) (hl : ∀ s ∈ L, s.length ≤ 20000) :
  KK 59 [.slice (L.map fun s => [PS s]) .no] h = some (.ret (VS (h.length + 1) (sX L)), OQ (h ++ [.front 0 0]) (XS (sX L)) []) := by
 refine mN (Yl _ _ _) ?_
 have hB : KB (h ++ [.front 0 0]) [] := ⟨fun n hn => oT (hK.mono (by simp [HN] at hn; omega)) (nW oW), fun n hn => oW⟩
 have hH : HN (h ++ [.front 0 0]) [] = h.length + 2 := by simp [HN]
 have hA : (h ++ [lW.front 0 0]).length = h.length + 1 := by simp
 have g := Pj hB hL hl (v := .slice [] (.own h.length)) (fun h' => by rw [hH]; simp) L.length 0 [] (by omega)
 have e0 : OQ (h ++ [.front 0 0]) (XS []) [] = h ++ [.front 0 0, .front 0 0] := by simp [OQ, XS]
 have e1 : VS (h.length + 1) [] = .slice [] (.own (h.length + 1)) := rfl
 rw [hH, hA, e0, e1] at g
 simp only [List.drop_zero, Int.cast_ofNat_Int] at g
 unfold sX
 generalize L.foldl EJ [] = J at *
 unfold m59
 simp -implicitDefEqProofs [g]
end Go.Proofs.YtkeoalhglkfbkaaDoor


namespace Go.Proofs.YtkeoalhglkfbkaaDoor
open Go Hk Go.Proofs.Wd
def sM (t : Term) (ws : List Wd) : List Wd := if t.kind = 2 ∧ 0 ≤ t.a then uK ws t.a.toNat else ws
def t_ (t : Term) : List lW := .cells t.cells :: .front 0 0 :: if t.kind = 2 ∧ 0 ≤ t.a then [.front 0 0] else []
def xW (ws : List Wd) (l : List Int) : List Wd := l.foldl (fun ws t => if 0 ≤ t then uK ws t.toNat else ws) ws
def vL (o : Op) (ws : List Wd) : List Wd := xW (if (mM o.kind).dst = true ∧ 0 ≤ o.dst then s7 ws o.dst.toNat else ws) (mW o)
def IJ (o : Op) : List lW := [.cells o.cells, .front 0 0]
theorem Ny (t : Term) (ws : List Wd) (u : Nat) : oV (sM t ws) u = true ↔ Oa t (fun u => 0 ≤ u ∧ oV ws u.toNat = true) (u : Int) := by
 unfold sM Oa
 split
 ·rename_i h
  obtain ⟨n, hn⟩ := Int.eq_ofNat_of_zero_le h.2
  rw [Iq, Bool.or_eq_true, decide_eq_true_eq]
  simp only [Int.toNat_natCast]
  constructor
  ·rintro (h1 | h1)
   ·exact .inr ⟨by omega, h1⟩
   ·exact .inl ⟨h.1, by omega⟩
  ·rintro (⟨_, h1⟩ | ⟨_, h1⟩)
   ·exact .inr (by omega)
   ·exact .inl h1
 ·rename_i h
  simp only [Int.toNat_natCast]
  constructor
  ·exact fun h1 => .inr ⟨by omega, h1⟩
  ·rintro (⟨h1, h2⟩ | ⟨_, h1⟩)
   ·exact absurd ⟨h1, by omega⟩ h
   ·exact h1
theorem GP (u : Nat) : ∀ (l : List Int) (ws : List Wd), oV (xW ws l) u = true ↔ (u : Int) ∈ l ∨ oV ws u = true
 | [], ws => by simp [xW]
 | t :: r, ws => by
  have ih := GP u r (if 0 ≤ t then uK ws t.toNat else ws)
  have e : xW ws (t :: r) = xW (if 0 ≤ t then uK ws t.toNat else ws) r := rfl
  rw [e, ih, List.mem_cons]
  split
  ·rename_i h
   rw [Iq, Bool.or_eq_true, decide_eq_true_eq]
   constructor
   ·rintro (h1 | h1 | h1)
    ·exact .inl (.inr h1)
    ·exact .inr h1
    ·exact .inl (.inl (by omega))
   ·rintro ((h1 | h1) | h1)
    ·exact .inr (.inr (by omega))
    ·exact .inl h1
    ·exact .inr (.inl h1)
  ·rename_i h
   constructor
   ·rintro (h1 | h1)
    ·exact .inl (.inr h1)
    ·exact .inr h1
   ·rintro ((h1 | h1) | h1)
    ·omega
    ·exact .inl h1
    ·exact .inr h1
theorem Nx (o : Op) (ws : List Wd) (u : Nat) : oV (vL o ws) u = true ↔ Sy o (fun u => 0 ≤ u ∧ oV ws u.toNat = true) (u : Int) := by
 unfold vL Sy
 rw [GP]
 refine or_congr Iff.rfl ?_
 split
 ·rename_i h
  rw [JX, Bool.and_eq_true, Bool.not_eq_true', decide_eq_false_iff_not]
  simp only [Int.toNat_natCast, h.1, true_and]
  constructor
  ·rintro ⟨h1, h2⟩; exact ⟨⟨by omega, h1⟩, by omega⟩
  ·rintro ⟨⟨_, h1⟩, h2⟩; exact ⟨h1, by omega⟩
 ·rename_i h
  simp only [Int.toNat_natCast]
  constructor
  ·intro h1; exact ⟨⟨by omega, h1⟩, fun h2 => h ⟨h2.1, by omega⟩⟩
  ·rintro ⟨⟨_, h1⟩, _⟩; exact h1
theorem Ir {n : Nat} : ∀ (l : List Int) (ws : List Wd), (∀ t ∈ l, t < 64 * n) → ws.length ≤ n → (xW ws l).length ≤ n
 | [], ws, _, h => h
 | t :: r, ws, hl, h => by
  have e : xW ws (t :: r) = xW (if 0 ≤ t then uK ws t.toNat else ws) r := rfl
  rw [e]
  refine Ir r _ (fun x hx => hl x (by simp [hx])) ?_
  split
  ·have := hl t (by simp)
   rw [Is]; omega
  ·exact h
theorem On {n : Nat} {o : Op} {ws : List Wd} (hu : ∀ t ∈ mW o, t < 64 * n) (h : ws.length ≤ n) : (vL o ws).length ≤ n := by
 refine Ir _ _ hu ?_
 split
 ·rw [Dl]; exact h
 ·exact h
theorem Py {n : Nat} {t : Term} {ws : List Wd} (hu : t.kind = 2 → t.a < 64 * n) (h : ws.length ≤ n) : (sM t ws).length ≤ n := by
 unfold sM
 split
 ·rename_i h1
  have := hu h1.1
  rw [Is]; omega
 ·exact h
section
variable {A B : List lW} (hB : KB A B)
include hB
theorem c60 {t : Term} (ht : t.kind = 2 → t.a ≤ 2000000) (ws : List Wd) : KK 60 [.agg t.cells, VS A.length ws] (OQ A (XS ws) B) = some (.ret (VS A.length (sM t ws)), OQ A (XS (sM t ws)) (B ++ t_ t)) := by
 refine mN (Ym _ _ _ _) ?_
 have hB2 : KB A (B ++ [.cells t.cells, .front 0 0]) := hB.app (by simp [Term.cells])
 unfold sM t_
 by_cases k2 : t.kind = 2
 ·by_cases h0 : 0 ≤ t.a
  ·obtain ⟨n, hn⟩ := Int.eq_ofNat_of_zero_le h0
   have ht := ht k2
   have g := acF hB2 (t := n) (by omega) ws
   rw [if_pos ⟨k2, h0⟩, if_pos ⟨k2, h0⟩, hn]
   simp only [Term.cells, List.append_assoc, List.cons_append, List.nil_append, Int.toNat_natCast] at g ⊢
   rw [hn, k2] at g
   simp -implicitDefEqProofs [m60, k2, hn, g]
  ·rw [if_neg (by omega), if_neg (by omega)]
   simp only [Term.cells]
   simp -implicitDefEqProofs [m60, k2, h0]
 ·rw [if_neg (by omega), if_neg (by omega)]
  simp only [Term.cells]
  simp -implicitDefEqProofs [m60, k2]
theorem RA {u : List Int} (hu : ∀ t ∈ u, t ≤ 2000000) (hl : u.length ≤ 10) {v : kR} (hv : ∀ h, v.oM (HN A B) h = v) : ∀ (d i : Nat) (ws : List Wd), u.length = i + d →
  mJ (Cm KK (HN A B)) ([VS A.length ws, v, .slice (u.map fun z => [.int .i64 z]) .no, .int .i64 (u.length : Int), .int .i64 (i : Int)], OQ A (XS ws) B) =
   some (.exit 0, [VS A.length (xW ws (u.drop i)), v, .slice (u.map fun z => [.int .i64 z]) .no, .int .i64 (u.length : Int), .int .i64 (u.length : Int)], OQ A (XS (xW ws (u.drop i))) B) := by
 intro d
 induction d with
 | zero =>
  intro i ws hi
  obtain rfl : u.length = i := by omega
  rw [mE, List.drop_length]
  have htr := pN (X := XS ws) (A := A) hB wL
  have hsn := fun h => uM (ws := ws) (m := HN A B) (h := h) sI
  have step : Cm KK (HN A B) ([VS A.length ws, v, .slice (u.map fun z => [.int .i64 z]) .no, .int .i64 (u.length : Int), .int .i64 (u.length : Int)], OQ A (XS ws) B) =
    some (.exit 0, [VS A.length ws, v, .slice (u.map fun z => [.int .i64 z]) .no, .int .i64 (u.length : Int), .int .i64 (u.length : Int)], OQ A (XS ws) B) := by
   unfold Cm
   simp -implicitDefEqProofs [lC, htr, hsn, hv]
  rw [step]; rfl
 | succ d ih =>
  intro i ws hi
  rw [mE]
  have hil : i < u.length := by omega
  have hcc : ((i : Int) < (u.length : Int)) := by omega
  have hx : u[i]? = some u[i] := List.getElem?_eq_getElem hil
  have hb := hu u[i] (List.getElem_mem hil)
  have w1 : IntKind.i64.wrap ((i : Int) + 1) = ((i + 1 : Nat) : Int) := by rw [vV (a := i) (by omega)]; simp
  rw [List.drop_eq_getElem_cons hil]
  generalize u[i] = t at *
  have e : xW ws (t :: u.drop (i + 1)) = xW (if 0 ≤ t then uK ws t.toNat else ws) (u.drop (i + 1)) := rfl
  rw [e, ← ih (i + 1) _ (by omega)]
  clear ih e
  generalize ((i + 1 : Nat) : Int) = i1 at *
  have step : Cm KK (HN A B) ([VS A.length ws, v, .slice (u.map fun z => [.int .i64 z]) .no, .int .i64 (u.length : Int), .int .i64 (i : Int)], OQ A (XS ws) B) =
    some (.normal, [VS A.length (if 0 ≤ t then uK ws t.toNat else ws), v, .slice (u.map fun z => [.int .i64 z]) .no, .int .i64 (u.length : Int), .int .i64 i1], OQ A (XS (if 0 ≤ t then uK ws t.toNat else ws)) B) := by
   by_cases h0 : 0 ≤ t
   ·obtain ⟨n, rfl⟩ := Int.eq_ofNat_of_zero_le h0
    have g := acF hB (t := n) (by omega) ws
    have htr := sS (X := XS (uK ws n)) (A := A) (C := [.front 0 0]) hB wL
    have hsn := fun h => uM (ws := uK ws n) (m := HN A B) (h := h) sI
    rw [if_pos h0]
    simp only [Int.toNat_natCast]
    generalize uK ws n = w' at *
    unfold Cm
    simp -implicitDefEqProofs [hcc, hx, g, lC, htr, hsn, hv, w1]
   ·have htr := pN (X := XS ws) (A := A) hB wL
    have hsn := fun h => uM (ws := ws) (m := HN A B) (h := h) sI
    rw [if_neg h0]
    unfold Cm
    simp -implicitDefEqProofs [hcc, hx, h0, lC, htr, hsn, hv, w1]
  rw [step]; rfl
end
theorem GO (o : Op) : (mW o).length ≤ 3 := by unfold mW; simp; omega
theorem c61 {A B : List lW} (hB : KB A B) {o : Op} (hu : ∀ t ∈ mW o, t ≤ 2000000) (hd : o.dst ≤ 2000000) (ws : List Wd) :
  KK 61 [.agg o.cells, VS A.length ws] (OQ A (XS ws) B) = some (.ret (VS A.length (vL o ws)), OQ A (XS (vL o ws)) (B ++ IJ o)) := by
 refine mN (Yn _ _ _ _) ?_
 have hB2 : KB A (B ++ [.cells o.cells, .front 0 0]) := hB.app (by simp [Op.cells])
 have hH : HN A (B ++ [.cells o.cells, .front 0 0]) = HN A B + 2 := by simp
 have g73 := c73 o
 have g74 := c74 o
 have g := fun ws => RA hB2 hu (by have := GO o; omega) (v := .slice [] (.own (HN A B + 1))) (fun h => by rw [hH]; simp) (mW o).length 0 ws (by omega)
 rw [hH] at g
 simp only [List.drop_zero, Int.cast_ofNat_Int] at g
 unfold vL IJ
 by_cases hc : (mM o.kind).dst = true ∧ 0 ≤ o.dst
 ·obtain ⟨n, hn⟩ := Int.eq_ofNat_of_zero_le hc.2
  have g1 := agT hB2 (t := n) (by omega) ws
  rw [if_pos hc, hn]
  rw [hc.1] at g73
  simp only [Int.toNat_natCast]
  have g2 := g (s7 ws n)
  have ev : VS A.length (s7 ws n) = VS A.length ws := Qt (Dl _ _)
  rw [ev] at g2
  generalize xW (s7 ws n) (mW o) = w2 at *
  clear g
  simp only [Op.cells] at g73 g74 g1 g2 ⊢
  rw [hn] at g73 g74 g1 g2 ⊢
  simp -implicitDefEqProofs [m61, g73, g74, g1, g2]
 ·rw [if_neg hc]
  have g2 := g ws
  clear g
  generalize xW ws (mW o) = w2 at *
  cases hf : (mM o.kind).dst
  ·rw [hf] at g73
   simp only [Op.cells] at g73 g74 g2 ⊢
   simp -implicitDefEqProofs [m61, g73, g74, g2]
  ·have h0 : ¬ 0 ≤ o.dst := fun h => hc ⟨hf, h⟩
   rw [hf] at g73
   simp only [Op.cells] at g73 g74 g2 ⊢
   simp -implicitDefEqProofs [m61, g73, g74, g2, h0]
end Go.Proofs.YtkeoalhglkfbkaaDoor


namespace Go.Proofs.YtkeoalhglkfbkaaDoor
open Go Hk Go.Proofs.Wd
theorem agS (k : Int) (h : kT) : KK 121 [.int .i64 k] h = some (.ret (.bool (decide (k = -1))), h) := by
 refine lZ rfl rfl (mN (Uj _ _ _) ?_)
 simp [adN, lH]
theorem KA (k : Int) (h : kT) : vT nC KK 121 (rT nC 121 [.int .i64 k]) h = some (.ret (.bool (decide (k = -1))), h) := agS k h
theorem qT {F : List kR × kT → Option R} {s s' : List kR × kT} (h : F s = some (.normal, s')) : mJ F s = mJ F s' := by rw [mE, h]; rfl
theorem Ch {F : List kR × kT → Option R} {s s' : List kR × kT} (h : F s = some (.ret, s')) : mJ F s = some (.ret, s') := by rw [mE, h]; rfl
theorem oJ {F : List kR × kT → Option R} {s s' : List kR × kT} {i : Nat} (h : F s = some (.exit i, s')) : mJ F s = some (.exit i, s') := by rw [mE, h]; rfl
def mR (z : Int) : kR := .int .i64 z
def HL (t : Term) (l : List Int) (E : kT) : kT := .cells t.cells :: .front 0 0 :: .front 0 0 :: .vec l.length 1 (l.map mR) :: E
theorem Hr {t : Term} {l : List Int} : TH (HL t l [.front 0 0]) := by
 intro m h hm
 have : mP m h (l.map mR) = some (l.map mR) := u_ fun c hc => by
  obtain ⟨z, _, rfl⟩ := List.mem_map.1 hc; exact ⟨_, _, rfl⟩
 simp [HL, Term.cells, this]
theorem P_ {t : Term} {l : List Int} : TH (HL t l []) := by
 intro m h hm
 have : mP m h (l.map mR) = some (l.map mR) := u_ fun c hc => by
  obtain ⟨z, _, rfl⟩ := List.mem_map.1 hc; exact ⟨_, _, rfl⟩
 simp [HL, Term.cells, this]
section
variable {t : Term} {l : List Int} {E : kT}
theorem Qa {i : Nat} {z : Int} (hz : l[i]? = some z) : kV false 1 (HL t l E) (.vptr 3 l.length i) = some (.int .i64 z) := by
 rw [lL]
 have : nA (HL t l E) 3 l.length = some (1, l.map mR) := by simp [HL]
 rw [this]
 simp [hz, mR]
theorem WB {i : Nat} (hi : i < l.length) (z : Int) : lU 1 (HL t l E) (.vptr 3 l.length i) (.int .i64 z) = some (HL t (l.set i z) E) := by
 rw [lJ]
 have : nA (HL t l E) 3 l.length = some (1, l.map mR) := by simp [HL]
 rw [this]
 have e1 : putCells (l.map mR) i [.int .i64 z] = (l.set i z).map mR := by
  unfold putCells
  rw [List.map_set, List.set_eq_take_append_cons_drop, if_pos (by simpa using hi)]
  simp [mR]
 simp only [Option.bind_some]
 rw [if_pos ⟨rfl, by simp; omega, rfl⟩]
 simp only [Oz, e1]
 simp [HL]
def LV (l : List Int) : kR := .vslice 3 l.length 0 l.length 1
theorem Dx {i : Nat} {z : Int} (hz : l[i]? = some z) (hl : l.length ≤ 100) : wA KK 5 ([LV l, .func 121 [] [], .int .i64 0, .int .i64 (l.length : Int), .int .i64 (i : Int)], HL t l [.front 0 0]) =
  if z = -1 then some (.ret, [LV l, .func 121 [] [], .int .i64 (i : Int), .int .i64 (l.length : Int), .int .i64 (i : Int)], HL t l [.front 0 0])
  else some (.normal, [LV l, .func 121 [] [], .int .i64 0, .int .i64 (l.length : Int), .int .i64 ((i + 1 : Nat) : Int)], HL t l [.front 0 0]) := by
 have htr : mL 5 (HL t l [.front 0 0]) = some (HL t l [.front 0 0]) := pI Hr
 have hi : i < l.length := (List.getElem?_eq_some_iff.1 hz).1
 have hi' : (i : Int) < (l.length : Int) := by omega
 have w1 : IntKind.i64.wrap ((i : Int) + 1) = ((i + 1 : Nat) : Int) := by rw [wrap64 (by omega) (by omega), Int.natCast_add]; rfl
 have s2 : ∀ h', kR.oM 5 h' (LV l) = LV l := fun h' => rfl
 have s3 : ∀ h', kR.oM 5 h' (.func 121 [] []) = .func 121 [] [] := fun h' => rfl
 have g := Qa (t := t) (E := [.front 0 0]) hz
 have ix : kY 1 (LV l) (.int .i64 (i : Int)) = some (.vptr 3 l.length i) := by simp [LV, hi]
 generalize ((i + 1 : Nat) : Int) = i1 at *
 by_cases hc : z = -1
 ·rw [if_pos hc]
  subst hc
  unfold wA
  simp [-lJ, -lL, qC, KA, lC, htr, s2, s3, hi', g, ix]
 ·rw [if_neg hc]
  unfold wA
  simp [-lJ, -lL, qC, KA, lC, htr, s2, s3, hi', g, ix, hc, w1]
theorem KC {z : Int} : wA KK 5 ([LV l, .func 121 [] [], .int .i64 z, .int .i64 (l.length : Int), .int .i64 (l.length : Int)], HL t l [.front 0 0]) =
  some (.exit 0, [LV l, .func 121 [] [], .int .i64 z, .int .i64 (l.length : Int), .int .i64 (l.length : Int)], HL t l [.front 0 0]) := by
 have htr : mL 5 (HL t l [.front 0 0]) = some (HL t l [.front 0 0]) := pI Hr
 have s2 : ∀ h', kR.oM 5 h' (LV l) = LV l := fun h' => rfl
 have s3 : ∀ h', kR.oM 5 h' (.func 121 [] []) = .func 121 [] [] := fun h' => rfl
 unfold wA
 simp [lC, htr, s2, s3]
theorem OC {i j : Nat} {z : Int} {v : kR} (hv : ∀ h', v.oM 5 h' = v) (hz : l[j]? = some z) (hij : i < j) (hl : l.length ≤ 100) : zQ KK 5 ([LV l, .func 121 [] [], v, .int .i64 (i : Int), .int .i64 (j : Int)], HL t l [.front 0 0]) =
  if z = -1 then some (.normal, [LV l, .func 121 [] [], v, .int .i64 (i : Int), .int .i64 ((j + 1 : Nat) : Int)], HL t l [.front 0 0])
  else some (.normal, [LV (l.set i z), .func 121 [] [], v, .int .i64 ((i + 1 : Nat) : Int), .int .i64 ((j + 1 : Nat) : Int)], HL t (l.set i z) [.front 0 0]) := by
 have hj : j < l.length := (List.getElem?_eq_some_iff.1 hz).1
 have hj' : (j : Int) < (l.length : Int) := by omega
 have w1 : IntKind.i64.wrap ((i : Int) + 1) = ((i + 1 : Nat) : Int) := by rw [wrap64 (by omega) (by omega), Int.natCast_add]; rfl
 have w2 : IntKind.i64.wrap ((j : Int) + 1) = ((j + 1 : Nat) : Int) := by rw [wrap64 (by omega) (by omega), Int.natCast_add]; rfl
 have s2 : ∀ l h', kR.oM 5 h' (LV l) = LV l := fun l h' => rfl
 have s3 : ∀ h', kR.oM 5 h' (.func 121 [] []) = .func 121 [] [] := fun h' => rfl
 have g := Qa (t := t) (E := [.front 0 0]) hz
 have st := WB (t := t) (E := [.front 0 0]) (l := l) (i := i) (by omega) z
 have ix : kY 1 (LV l) (.int .i64 (j : Int)) = some (.vptr 3 l.length j) := by simp [LV, hj]
 have ix2 : kY 1 (LV l) (.int .i64 (i : Int)) = some (.vptr 3 l.length i) := by simp [LV, show i < l.length by omega]
 have ll : lN (LV l) = some (.int .i64 (l.length : Int)) := rfl
 generalize ((i + 1 : Nat) : Int) = i1 at *
 generalize ((j + 1 : Nat) : Int) = j1 at *
 by_cases hc : z = -1
 ·rw [if_pos hc]
  subst hc
  have htr : mL 5 (HL t l [.front 0 0]) = some (HL t l [.front 0 0]) := pI Hr
  unfold zQ
  simp [-lJ, -lL, qC, KA, lC, htr, s2, s3, hv, hj', g, ix, ll, w2]
 ·rw [if_neg hc]
  have htr : mL 5 (HL t (l.set i z) [.front 0 0]) = some (HL t (l.set i z) [.front 0 0]) := pI Hr
  have el : LV (l.set i z) = LV l := by simp [LV]
  rw [el]
  generalize HL t (l.set i z) [.front 0 0] = Hn at *
  unfold zQ
  simp [-lJ, -lL, qC, KA, lC, htr, s2, s3, hv, hj', g, ix, ix2, ll, st, hc, w1, w2]
theorem CS {i : Int} {v : kR} (hv : ∀ h', v.oM 5 h' = v) : zQ KK 5 ([LV l, .func 121 [] [], v, .int .i64 i, .int .i64 (l.length : Int)], HL t l [.front 0 0]) =
  some (.exit 0, [LV l, .func 121 [] [], v, .int .i64 i, .int .i64 (l.length : Int)], HL t l [.front 0 0]) := by
 have htr : mL 5 (HL t l [.front 0 0]) = some (HL t l [.front 0 0]) := pI Hr
 have s2 : ∀ h', kR.oM 5 h' (LV l) = LV l := fun h' => rfl
 have s3 : ∀ h', kR.oM 5 h' (.func 121 [] []) = .func 121 [] [] := fun h' => rfl
 have ll : lN (LV l) = some (.int .i64 (l.length : Int)) := rfl
 unfold zQ
 simp [lC, htr, s2, s3, hv, ll]
theorem CQ {r : Int} {e : Ex} {w : Int} {v : Int} (hg : mJ (wA KK 5) ([LV l, .func 121 [] [], .int .i64 0, .int .i64 (l.length : Int), .int .i64 0], HL t l [.front 0 0]) =
   some (e, [LV l, .func 121 [] [], .int .i64 v, .int .i64 (l.length : Int), .int .i64 w], HL t l [.front 0 0])) (hr : (e = .ret ∧ r = v) ∨ (e = .exit 0 ∧ r = -1)) :
  KK 174 [LV l, .func 121 [] []] (HL t l [.front 0 0]) = some (.ret (.int .i64 r), HL t l [.front 0 0]) := by
 refine mN (N2 _ _ _ _) ?_
 have htr : mL 5 (HL t l [.front 0 0]) = some (HL t l [.front 0 0]) := pI Hr
 have ll : lN (LV l) = some (.int .i64 (l.length : Int)) := rfl
 have h5 : (HL t l [.front 0 0]).length = 5 := rfl
 rcases hr with ⟨rfl, rfl⟩ | ⟨rfl, rfl⟩ <;> simp [X4, ll, h5, hg, nE, htr]
theorem HA (h174 : KK 174 [LV l, .func 121 [] []] (HL t l [.front 0 0]) = some (.ret (.int .i64 (-1)), HL t l [.front 0 0])) : KK 120 [LV l, .func 121 [] []] (HL t l []) = some (.ret (LV l), HL t l []) := by
 refine mN (I6 _ _ _ _) ?_
 have htr : mL 4 (HL t l [.front 0 0]) = some (HL t l []) := pW (C := [.front 0 0]) P_
 have h4 : (HL t l []).length = 4 := rfl
 have h5 : HL t l [] ++ [.front 0 0] = HL t l [.front 0 0] := rfl
 have s2 : ∀ h', kR.oM 4 h' (LV l) = LV l := fun h' => rfl
 have u2 : (LV l).k8 = LV l := rfl
 have u3 : kR.k8 (.func 121 [] []) = .func 121 [] [] := rfl
 simp [Ui, h4, h5, u2, u3, h174, nE, htr, s2]
theorem Bi {l' : List Int} {i k : Nat} {w : Int} (h174 : KK 174 [LV l, .func 121 [] []] (HL t l [.front 0 0]) = some (.ret (.int .i64 (i : Int)), HL t l [.front 0 0])) (hi : i ≤ 100) (hl' : l'.length = l.length) (hk : k ≤ l.length)
  (hg : mJ (zQ KK 5) ([LV l, .func 121 [] [], .slice [] (.own 4), .int .i64 (i : Int), .int .i64 ((i + 1 : Nat) : Int)], HL t l [.front 0 0]) = some (.exit 0, [LV l', .func 121 [] [], .slice [] (.own 4), .int .i64 (k : Int), .int .i64 w], HL t l' [.front 0 0])) :
  KK 120 [LV l, .func 121 [] []] (HL t l []) = some (.ret (.vslice 3 l.length 0 k 1), HL t (l'.take k ++ List.replicate (l.length - k) 0) []) := by
 refine mN (I6 _ _ _ _) ?_
 have h4 : (HL t l []).length = 4 := rfl
 have h5 : HL t l [] ++ [.front 0 0] = HL t l [.front 0 0] := rfl
 have h55 : (HL t l [.front 0 0]).length = 5 := rfl
 have u2 : (LV l).k8 = LV l := rfl
 have u3 : kR.k8 (.func 121 [] []) = .func 121 [] [] := rfl
 have w1 : IntKind.i64.wrap ((i : Int) + 1) = ((i + 1 : Nat) : Int) := by rw [wrap64 (by omega) (by omega), Int.natCast_add]; rfl
 have a1 : oX (some (.int .i64 (k : Int))) 0 = some k := by simp [oX]
 have a2 : oX (some (.int .i64 (k : Int))) l.length = some k := by simp [oX]
 have sl2 : nK 1 (LV l') none (some (.int .i64 (k : Int))) = some (.vslice 3 l.length 0 k 1) := by
  simp [nK, LV, hl', a2, Ay, hk]
 have hfin : ∃ S H, nK 1 (LV l') (some (.int .i64 (k : Int))) none = some S ∧ B5 1 [.int .i64 0] (HL t l' [.front 0 0]) S = some H ∧ H = HL t (l'.take k ++ List.replicate (l.length - k) 0) [.front 0 0] := by
  have hs : nK 1 (LV l') (some (.int .i64 (k : Int))) none = if k = 0 ∨ k < l.length then some (.vslice 3 l.length k (l.length - k) 1) else some (.slice [] .no) := by
   unfold nK LV
   simp only [a1, hl', Ay]
   rw [if_pos ⟨hk, Nat.le_refl _, trivial⟩]
   simp only [Nat.mul_one, Nat.zero_add]
  have hfull : k = l.length → l'.take k ++ List.replicate (l.length - k) 0 = l' := fun hk2 => by rw [hk2, Nat.sub_self, ← hl', List.take_length]; simp
  by_cases hc : k = 0 ∨ k < l.length
  ·rw [if_pos hc] at hs
   by_cases hn0 : l.length - k = 0
   ·exact ⟨_, HL t l' [.front 0 0], hs, by unfold B5; simp only [hn0, if_true], by rw [hfull (by omega)]⟩
   ·refine ⟨_, _, hs, ?_, rfl⟩
    have gv : nA (HL t l' [.front 0 0]) 3 l.length = some (1, l'.map mR) := by simp [HL, hl']
    unfold B5
    simp only [hn0, if_false, gv]
    rw [if_pos ⟨trivial, rfl, rfl, by simp; omega⟩]
    have e1 : putCells (l'.map mR) k (List.replicate (l.length - k) [kR.int .i64 0]).flatten = (l'.take k ++ List.replicate (l.length - k) 0).map mR := by
     have f : (List.replicate (l.length - k) [kR.int .i64 0]).flatten = List.replicate (l.length - k) (mR 0) := by
      simp [mR]
     rw [f]
     simp only [putCells, List.length_replicate]
     have : k + (l.length - k) = l'.length := by omega
     rw [this, List.drop_eq_nil_of_le (by simp), List.append_nil, List.map_append, List.map_take, List.map_replicate]
    rw [e1]
    have e2 : (l'.take k ++ List.replicate (l.length - k) 0).length = l.length := by simp; omega
    simp only [HL, e2]
    rfl
  ·rw [if_neg hc] at hs
   exact ⟨_, HL t l' [.front 0 0], hs, rfl, by rw [hfull (by omega)]⟩
 obtain ⟨S, H, f1, f2, f3⟩ := hfin
 have htr : mL 4 H = some (HL t (l'.take k ++ List.replicate (l.length - k) 0) []) := by
  subst f3; exact pW (C := [.front 0 0]) P_
 have s2 : ∀ h', kR.oM 4 h' (.vslice 3 l.length 0 k 1) = .vslice 3 l.length 0 k 1 := fun h' => rfl
 clear f3
 generalize ((i + 1 : Nat) : Int) = i1 at *
 simp [Ui, h4, h5, h55, u2, u3, h174, w1, hg, f1, f2, sl2, nE, htr, s2]
end
section
variable {t : Term}
theorem Xp {id : Nat} {h : kT} (hK : TH h) : KK 174 [.slice [] .no, .func 121 [] []] h = some (.ret (.int .i64 (-1)), h) := by
 refine mN (N2 _ _ _ _) ?_
 have htr := pI hK
 have s3 : ∀ h', kR.oM h.length h' (.func 121 [] []) = .func 121 [] [] := fun h' => rfl
 have st : wA KK h.length ([.slice [] .no, .func 121 [] [], .int .i64 0, .int .i64 0, .int .i64 0], h) = some (.exit 0, ([.slice [] .no, .func 121 [] [], .int .i64 0, .int .i64 0, .int .i64 0], h)) := by
  unfold wA
  simp [lC, htr, s3]
 have g := oJ st
 simp [X4, g, htr, nE]
theorem Xl {h : kT} (hK : TH h) : KK 120 [.slice [] .no, .func 121 [] []] h = some (.ret (.slice [] .no), h) := by
 refine mN (I6 _ _ _ _) ?_
 have g := Xp (id := 0) (h := h ++ [.front 0 0]) (LM hK (nW oW))
 have htr := fun C => pW (C := C) hK
 have uf : kR.k8 (.func 121 [] []) = .func 121 [] [] := rfl
 simp [Ui, g, uf, nE, htr]
end
def pT (t : Term) : List Int := if t.kind = 1 then [t.yes].filter (fun k => !decide (k = -1)) else if t.kind = 2 then [t.yes, t.no].filter (fun k => !decide (k = -1)) else []
theorem Re {p : IR} {t : Term} (ht : Ak (p := p) t = true) : pT t = oY t := by
 have e : ∀ k : Int, -1 ≤ k → (!decide (k = -1)) = decide (0 ≤ k) := fun k hk => by
  by_cases h : k = -1
  ·simp [h]
  ·have : 0 ≤ k := by omega
   simp [h, this]
 unfold pT oY
 unfold Ak at ht
 by_cases k1 : t.kind = 1
 ·rw [if_pos k1] at ht
  rw [if_pos k1, if_pos k1]
  simp only [mG, Bool.and_eq_true, decide_eq_true_eq] at ht
  simp only [List.filter_cons, List.filter_nil, e _ ht.2.1]
 ·rw [if_neg k1, if_neg k1]
  rw [if_neg k1] at ht
  by_cases k2 : t.kind = 2
  ·rw [if_pos k2] at ht
   rw [if_pos k2, if_pos k2]
   simp only [mG, Bool.and_eq_true, decide_eq_true_eq] at ht
   simp only [List.filter_cons, List.filter_nil, e _ ht.2.1.1, e _ ht.2.2.1]
  ·rw [if_neg k2, if_neg k2]
theorem ac1 {t : Term} (y : Int) : ∃ l' : List Int, KK 120 [LV [y], .func 121 [] []] (HL t [y] []) = some (.ret (.vslice 3 1 0 ([y].filter fun k => !decide (k = -1)).length 1), HL t l' []) ∧ l'.length = 1 ∧ l'.take ([y].filter fun k => !decide (k = -1)).length = [y].filter fun k => !decide (k = -1) := by
 have s1 := Dx (t := t) (l := [y]) (i := 0) (z := y) rfl (by simp)
 by_cases hy : y = -1
 ·subst hy
  rw [if_pos rfl] at s1
  have g := CQ (r := 0) (Ch s1) (.inl ⟨rfl, rfl⟩)
  have e := CS (t := t) (l := [-1]) (i := 0) (v := .slice [] (.own 4)) (fun h' => rfl)
  exact ⟨_, Bi (i := 0) (k := 0) g (by omega) rfl (by simp) (oJ e), by simp, by simp⟩
 ·rw [if_neg hy] at s1
  have g := CQ (r := -1) ((qT s1).trans (oJ KC)) (.inr ⟨rfl, rfl⟩)
  have := HA g
  exact ⟨[y], by simpa [hy, LV] using this, rfl, by simp [hy]⟩
theorem ac2 {t : Term} (y n : Int) : ∃ l' : List Int, KK 120 [LV [y, n], .func 121 [] []] (HL t [y, n] []) = some (.ret (.vslice 3 2 0 ([y, n].filter fun k => !decide (k = -1)).length 1), HL t l' []) ∧ l'.length = 2 ∧ l'.take ([y, n].filter fun k => !decide (k = -1)).length = [y, n].filter fun k => !decide (k = -1) := by
 have s1 := Dx (t := t) (l := [y, n]) (i := 0) (z := y) rfl (by simp)
 have s2 := Dx (t := t) (l := [y, n]) (i := 1) (z := n) rfl (by simp)
 have hv : ∀ h', kR.oM 5 h' (.slice [] (.own 4)) = .slice [] (.own 4) := fun h' => rfl
 by_cases hy : y = -1
 ·subst hy
  rw [if_pos rfl] at s1
  have g := CQ (r := 0) (Ch s1) (.inl ⟨rfl, rfl⟩)
  have d1 := OC (t := t) (l := [-1, n]) (i := 0) (j := 1) (z := n) hv rfl (by omega) (by simp)
  by_cases hn : n = -1
  ·subst hn
   rw [if_pos rfl] at d1
   have e := CS (t := t) (l := [-1, -1]) (i := 0) hv
   exact ⟨_, Bi (i := 0) (k := 0) g (by omega) rfl (by simp) ((qT d1).trans (oJ e)), by simp, by simp⟩
  ·rw [if_neg hn] at d1
   have e := CS (t := t) (l := [n, n]) (i := 1) hv
   have := Bi (i := 0) (k := 1) (l' := [n, n]) g (by omega) rfl (by simp) ((qT d1).trans (oJ e))
   exact ⟨_, by simpa [hn] using this, by simp, by simp [hn]⟩
 ·rw [if_neg hy] at s1
  by_cases hn : n = -1
  ·subst hn
   rw [if_pos rfl] at s2
   have g := CQ (r := 1) ((qT s1).trans (Ch s2)) (.inl ⟨rfl, rfl⟩)
   have e := CS (t := t) (l := [y, -1]) (i := 1) hv
   have := Bi (i := 1) (k := 1) (l' := [y, -1]) g (by omega) rfl (by simp) (oJ e)
   exact ⟨_, by simpa [hy] using this, by simp, by simp [hy]⟩
  ·rw [if_neg hn] at s2
   have g := CQ (r := -1) ((qT s1).trans ((qT s2).trans (oJ KC))) (.inr ⟨rfl, rfl⟩)
   have := HA g
   exact ⟨[y, n], by simpa [hy, hn, LV] using this, rfl, by simp [hy, hn]⟩
theorem Qg {t : Term} {l : List Int} {k n : Nat} (hn : l.length = n) (hk : k ≤ n) : (kR.vslice 3 n 0 k 1).oM 0 (HL t l []) = .slice (ints (l.take k)) .no := by
 subst hn
 have hp : mU ((l.map mR).take k) = some ((l.map mR).take k) := Df fun c hc => by
  obtain ⟨z, _, rfl⟩ := List.mem_map.1 (List.mem_of_mem_take hc); exact ⟨_, _, rfl⟩
 have hl : ((l.map mR).take k).length = k := by simp; omega
 have hr : rowsOf k 1 ((l.map mR).take k) = ints (l.take k) := by
  have := zZ (l := (l.map mR).take k)
  rw [hl] at this
  rw [this, ints, ← List.map_take, List.map_map]; rfl
 show kR.nM 0 (HL t l []) (.vslice 3 l.length 0 k 1) = _
 unfold kR.nM
 simp only [Nat.not_lt_zero, decide_false, cond_false, HL, List.getElem?_cons_succ, List.getElem?_cons_zero, List.drop_zero, Nat.mul_one, hp, hr, List.length_map, Nat.zero_add]
 simp [hk]
theorem c58 (t : Term) (h : kT) : KK 58 [.agg t.cells] h = some (.ret (.slice (ints (pT t)) .no), h) := by
 refine lZ rfl rfl (mN (Yk _ _ _) ?_)
 have b1 : ∀ (z : Int) (h' : kT), pY 1 1 [.int .i64 0] [(0, .int .i64 z)] h' = some (.vslice h'.length 1 0 1 1, h' ++ [.vec 1 1 [.int .i64 z]]) := fun z h' => rfl
 have b2 : ∀ (y z : Int) (h' : kT), pY 2 1 [.int .i64 0] [(0, .int .i64 y), (1, .int .i64 z)] h' = some (.vslice h'.length 2 0 2 1, h' ++ [.vec 2 1 [.int .i64 y, .int .i64 z]]) := fun y z h' => rfl
 have uf : kR.k8 (.func 121 [] []) = .func 121 [] [] := rfl
 unfold pT
 by_cases k1 : t.kind = 1
 ·obtain ⟨l', g, h1, h2⟩ := ac1 (t := t) t.yes
  have hf := Qg (t := t) (k := ([t.yes].filter fun k => !decide (k = -1)).length) h1 (by rw [← h1, ← h2, List.length_take]; omega)
  rw [h2] at hf
  rw [if_pos k1]
  simp only [HL, LV, List.length_cons, List.length_nil, Nat.zero_add, List.map_cons, List.map_nil, mR, Term.cells] at g hf ⊢
  rw [k1] at g hf
  generalize [t.yes].filter (fun k => !decide (k = -1)) = L at *
  generalize lW.vec l'.length 1 (l'.map mR) = X at *
  simp [m58, k1, b1, g, uf, lH, hf]
 by_cases k2 : t.kind = 2
 ·obtain ⟨l', g, h1, h2⟩ := ac2 (t := t) t.yes t.no
  have hf := Qg (t := t) (k := ([t.yes, t.no].filter fun k => !decide (k = -1)).length) h1 (by rw [← h1, ← h2, List.length_take]; omega)
  rw [h2] at hf
  rw [if_neg k1, if_pos k2]
  simp only [HL, LV, List.length_cons, List.length_nil, Nat.zero_add, Nat.reduceAdd, List.map_cons, List.map_nil, mR, Term.cells] at g hf ⊢
  rw [k2] at g hf
  generalize [t.yes, t.no].filter (fun k => !decide (k = -1)) = L at *
  generalize lW.vec l'.length 1 (l'.map mR) = X at *
  simp [m58, k2, b2, g, uf, lH, hf]
 ·have g0 := Xl (h := [.cells t.cells, .front 0 0, .front 0 0]) (pM (by simp [Term.cells]) (nW (nW oW)))
  rw [if_neg k1, if_neg k2]
  simp only [Term.cells] at g0 ⊢
  simp [m58, k1, k2, g0, uf, lH, ints]
end Go.Proofs.YtkeoalhglkfbkaaDoor


namespace Go.Proofs.YtkeoalhglkfbkaaDoor
open Go Hk Go.Proofs.Wd
theorem Dn {n : Nat} : ∀ {cs : List kR}, (∀ c ∈ cs, (∀ m h, n ≤ m → c.nM m h = c) ∧ c.mC = true) → xD n cs
 | [], _ => Nz
 | c :: r, h => (zE (h c (by simp)).1 (h c (by simp)).2).2 (Dn fun x hx => h x (by simp [hx]))
abbrev Cl := Bool × List Wd
def lT (c : Cl) : kR := if c.1 then PS c.2 else .slice [] .nil
def qV (c : Cl) : List Wd := if c.1 then c.2 else []
theorem Oy (c : Cl) (h : kT) : lP 1 1 [.slice [] .nil] [(0, lT c)] h = some (.slice [[PS (qV c)]] (.own h.length), h ++ [.front 1 1]) := by
 obtain ⟨b, ws⟩ := c
 cases b <;> rfl
theorem FE {h : kT} (c : Cl) : BQ h (lT c).k8 (qV c) := by
 obtain ⟨b, ws⟩ := c
 cases b
 ·exact Ll (ws := [])
 ·exact Ll
theorem yL (c : Cl) : (∀ m h, (lT c).nM m h = lT c) ∧ (lT c).mC = true := by
 obtain ⟨b, ws⟩ := c
 cases b <;> exact ⟨fun _ _ => rfl, rfl⟩
def FZ (id : Nat) (ws : List Wd) : kR := match ws with
 | [] => .slice [] (.own id)
 | _ => PS ws
def ZX (ws : List Wd) : lW := match ws with
 | [] => .front 0 0
 | _ => .gone
theorem Ft {A B : List lW} {ws : List Wd} : rC (OQ A (XS ws) B) (VS A.length ws) = some (FZ A.length ws, OQ A (ZX ws) B) := by
 cases ws with
 | nil => rfl
 | cons w r =>
  have g := Bl (A := A) (B := B) (ws := w :: r) (by simp)
  have hp : mU (((w :: r).map wc).take (r.length + 1)) = some ((w :: r).map wc) := by
   rw [List.take_of_length_le (by simp)]
   exact Df fun c hc => by obtain ⟨x, _, rfl⟩ := List.mem_map.1 hc; exact ⟨_, _, rfl⟩
  have hr : rowsOf (r.length + 1) 1 ((w :: r).map wc) = (w :: r).map fun w => [wc w] := by
   have := zZ (l := (w :: r).map wc)
   rw [List.length_map, List.length_cons] at this
   rw [this, List.map_map]; rfl
  unfold rC VS
  simp only [List.length_cons] at g
  simp only [g, List.drop_zero, Nat.mul_one, hp, hr, List.length_map, List.length_cons, Nat.zero_add, Nat.le_refl, if_true, xX, Option.some.injEq, Prod.mk.injEq]
  exact ⟨rfl, rfl⟩
theorem WA (id : Nat) (ws : List Wd) (h : kT) : lP 1 1 [.slice [] .nil] [(0, FZ id ws)] h = some (.slice [[PS ws]] (.own h.length), h ++ [.front 1 1]) := by cases ws <;> rfl
theorem Th {id m : Nat} {ws : List Wd} {h : kT} (hm : id < m) : (FZ id ws).nM m h = FZ id ws := by
 cases ws with
 | nil => simp [FZ, hm]
 | cons w r => rfl
theorem P4 {id m : Nat} {ws : List Wd} {h : kT} (hm : m ≤ id) : (FZ id ws).nM m h = PS ws := by
 cases ws with
 | nil => simp [FZ, show ¬ id < m by omega]; rfl
 | cons w r => rfl
theorem P3 {id : Nat} {ws : List Wd} : (FZ id ws).mC = true := by cases ws <;> rfl
theorem Ka {id : Nat} {ws : List Wd} : (FZ id ws).cells = [FZ id ws] := by cases ws <;> rfl
theorem NF {id : Nat} {ws : List Wd} {h : kT} {o : kR} : sJ h o (FZ id ws) = FZ id ws := by
 cases ws with
 | nil => simp [FZ]
 | cons w r => simp [FZ, PS]
theorem qJ {id off len sz sz' : Nat} {k : IntKind} {i : Nat} : kY sz (.mslice id off len sz') (.int k (i : Int)) = if i < len ∧ sz' = sz then some (.ptr id (off + i * sz)) else none := by
 simp [kY]
theorem E7 {h C : kT} {rows : List (List kR)} {v : kR} {by_ : Nat} (hb : by_ ≤ 24) (hl : rows.length ≤ 2000000) {t : Hk.Tok} :
  nQ 1 by_ (h ++ FR rows.length :: C) (.slice rows (.own h.length)) (.slice [[v]] t) = some (.slice (rows ++ [[v]]) (.own h.length), h ++ FR (rows.length + 1) :: C) := by
 have hr : ∀ H : kT, tA 1 H (.slice [[v]] t) = some [[v]] := fun H => by simp
 have hg : ∀ x, (h ++ x :: C)[h.length]? = some x := fun x => by rw [List.getElem?_append_right (Nat.le_refl _), Nat.sub_self]; rfl
 have hs : ∀ x y, (h ++ x :: C).set h.length y = h ++ y :: C := fun x y => by rw [List.set_append_right _ _ (Nat.le_refl _), Nat.sub_self]; rfl
 have e1 : FR (rows.length + 1) = .front (rows.length + 1) 1 := by simp [FR]
 have hm : (rows.length + 1) * by_ ≤ (rows.length + 1) * 24 := Nat.mul_le_mul_left _ hb
 unfold nQ
 simp only [hr]
 rw [hg, e1]
 by_cases h0 : rows.length = 0
 ·have e3 : FR rows.length = .front 0 0 := by simp [FR, h0]
  rw [e3]
  simp only [List.length_singleton, hs]
  rw [if_pos ⟨h0, .inr ⟨trivial, trivial⟩, by rw [h0] at hm; omega, by omega⟩, if_neg (by omega), h0]
 ·have e3 : FR rows.length = .front rows.length 1 := by simp [FR, h0]
  rw [e3]
  simp only [List.length_singleton, hs]
  rw [if_pos ⟨trivial, .inl trivial, by omega, by omega⟩, if_neg (by omega)]
def HB (p : IR) (ic oc : List kR) : kT := [.cells p.cells, .front 0 0, .front 0 0, .cells ic, .cells oc]
theorem B2 {p : IR} {n : Nat} : xD n p.cells := by simp [IR.cells]
theorem o8 {n : Nat} (l : List Cl) : xD n (l.map lT) := Dn fun c hc => by
 obtain ⟨x, _, rfl⟩ := List.mem_map.1 hc
 exact ⟨fun m h _ => (yL x).1 m h, (yL x).2⟩
theorem B3 {p : IR} {ic oc : List kR} {n : Nat} (h1 : xD n ic) (h2 : xD n oc) : Aw n (HB p ic oc) :=
 pM B2 (nW (nW (pM h1 (pM h2 oW))))
def T1 : kR := .slice [] (.own 1)
def T2 : kR := .slice [] (.own 2)
section
variable {m : Nat} (hm : 5 ≤ m) {h : kT} {n : Nat}
include hm
theorem sP : kR.oM m h (.ptr 0 0) = .ptr 0 0 := z7 (by omega)
theorem Wi : kR.oM m h T1 = T1 := by simp [T1, show 1 < m by omega]
theorem Wj : kR.oM m h T2 = T2 := by simp [T2, show 2 < m by omega]
theorem sMI : kR.oM m h (.mslice 3 0 n 1) = .mslice 3 0 n 1 := by
 show kR.nM m h (.mslice 3 0 n 1) = _
 simp [kR.nM, show 3 < m by omega]
theorem sMO : kR.oM m h (.mslice 4 0 n 1) = .mslice 4 0 n 1 := by
 show kR.nM m h (.mslice 4 0 n 1) = _
 simp [kR.nM, show 4 < m by omega]
end
section
variable {p : IR} {ins : List Cl} {oc : List kR} (hn : ins.length = p.blocks.length)
include hn
theorem OX (ho : xD 5 oc) {bb : Bool} {k : Int} (ld : List Int) (hld : ∀ j ∈ ld, 0 ≤ j ∧ j.toNat < ins.length) (hl : ld.length ≤ 10) : ∀ (d i : Nat) (L : List (List Wd)), ld.length = i + d → L.length = i →
  mJ (I8 KK 6) ([.ptr 0 0, T1, T2, .int .i64 0, .mslice 3 0 p.blocks.length 1, .mslice 4 0 p.blocks.length 1, .bool bb, .int .i64 k, .slice (L.map fun s => [PS s]) (.own 5), .slice (ints ld) .no, .int .i64 (ld.length : Int), .int .i64 (i : Int)], HB p (ins.map lT) oc ++ [FR L.length]) =
   some (.exit 4, [.ptr 0 0, T1, T2, .int .i64 0, .mslice 3 0 p.blocks.length 1, .mslice 4 0 p.blocks.length 1, .bool bb, .int .i64 k, .slice ((L ++ (ld.drop i).map fun j => qV (ins.getD j.toNat (false, []))).map fun s => [PS s]) (.own 5), .slice (ints ld) .no, .int .i64 (ld.length : Int), .int .i64 (ld.length : Int)],
    HB p (ins.map lT) oc ++ [FR (L ++ (ld.drop i).map fun j => qV (ins.getD j.toNat (false, []))).length]) := by
 have hT : ∀ n, TH (HB p (ins.map lT) oc ++ [FR n]) := fun n => oT (B3 (o8 ins) (fun m h hm => ho m h (by simp [HB] at hm; omega))) uD
 have htr : ∀ n C, mL 6 (HB p (ins.map lT) oc ++ FR n :: C) = some (HB p (ins.map lT) oc ++ [FR n]) := fun n C => by
  have := pW (C := C) (hT n)
  simpa [HB] using this
 have h5 : (HB p (ins.map lT) oc).length = 5 := rfl
 have sOwn : ∀ h rows, kR.oM 6 h (.slice rows (.own 5)) = .slice rows (.own 5) := fun h rows => by simp
 have q0 := fun h => sP (m := 6) (h := h) (by omega)
 have q1 := fun h => Wi (m := 6) (h := h) (by omega)
 have q2 := fun h => Wj (m := 6) (h := h) (by omega)
 have q3 := fun h => sMI (m := 6) (h := h) (n := p.blocks.length) (by omega)
 have q4 := fun h => sMO (m := 6) (h := h) (n := p.blocks.length) (by omega)
 intro d
 induction d with
 | zero =>
  intro i L hd hL
  obtain rfl : ld.length = i := by omega
  rw [List.drop_length, List.map_nil, List.append_nil]
  refine oJ ?_
  unfold I8
  simp -implicitDefEqProofs [lC, htr, q0, q1, q2, q3, q4, sOwn]
 | succ d ih =>
  intro i L hd hL
  have hil : i < ld.length := by omega
  have hil' : (i : Int) < (ld.length : Int) := by omega
  have hx : ld[i]? = some ld[i] := List.getElem?_eq_getElem hil
  have hj := hld ld[i] (List.getElem_mem hil)
  have w1 : IntKind.i64.wrap ((i : Int) + 1) = ((i + 1 : Nat) : Int) := by rw [wrap64 (by omega) (by omega), Int.natCast_add]; rfl
  rw [List.drop_eq_getElem_cons hil]
  generalize ld[i] = j at *
  obtain ⟨q, rfl⟩ := Int.eq_ofNat_of_zero_le hj.1
  have hq : q < ins.length := by simpa using hj.2
  have hqn : q < p.blocks.length := by omega
  have hc : ins[q]? = some ins[q] := List.getElem?_eq_getElem hq
  have hgd : ins.getD q (false, []) = ins[q] := by simp [List.getD_eq_getElem?_getD, hc]
  simp only [Int.toNat_natCast, List.map_cons, hgd]
  have ixl : kY 1 (.slice (ints ld) .no) (.int .i64 (i : Int)) = some (.pptr [.int .i64 (q : Int)]) := by
   rw [ints, lF, hx]; rfl
  have ixm : kY 1 (.mslice 3 0 p.blocks.length 1) (.int .i64 (q : Int)) = some (.ptr 3 q) := by
   rw [qJ, if_pos ⟨hqn, rfl⟩]; simp
  have row := fun h => Oy ins[q] h
  have app := fun C t => E7 (h := HB p (ins.map lT) oc) (C := C) (rows := L.map fun s => [PS s]) (v := PS (qV ins[q])) (by_ := 24) (by omega) (by simp; omega) (t := t)
  rw [h5] at app
  simp only [List.length_map] at app
  have gb : ∀ C, (nJ (HB p (ins.map lT) oc ++ C) 3).bind (fun cs => cs[q]?) = some (lT ins[q]) := fun C => by simp [HB, nJ, hc]
  have g := ih (i + 1) (L ++ [qV ins[q]]) (by omega) (by simp; omega)
  have e : L ++ qV ins[q] :: (ld.drop (i + 1)).map (fun j => qV (ins.getD j.toNat (false, []))) = (L ++ [qV ins[q]]) ++ (ld.drop (i + 1)).map (fun j => qV (ins.getD j.toNat (false, []))) := by simp
  rw [e, ← g]
  clear g ih e
  refine qT ?_
  have em : (L ++ [qV ins[q]]).map (fun s => [PS s]) = L.map (fun s => [PS s]) ++ [[PS (qV ins[q])]] := by simp
  rw [em]
  have el : (L ++ [qV ins[q]]).length = L.length + 1 := by simp
  rw [el]
  generalize ((i + 1 : Nat) : Int) = i1 at *
  generalize L.map (fun s => [PS s]) = R at *
  generalize lT ins[q] = ca at *
  unfold I8
  simp -implicitDefEqProofs [hil', ixl, ixm, gb, row, app, w1, lC, htr, q0, q1, q2, q3, q4, sOwn]
end
end Go.Proofs.YtkeoalhglkfbkaaDoor
