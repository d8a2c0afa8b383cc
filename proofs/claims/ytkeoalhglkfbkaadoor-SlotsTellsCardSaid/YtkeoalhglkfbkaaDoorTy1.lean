/-
  The texts TY.C, TY.T1, TY.P1, TY.C2, TY.Q2, TY.Q3, TY.H7, TY.H8, TY.H9, TY.H10, TY.H11, TY.H12, TY.H13, TY.T3, TY.P5, TY.P6, TY.P7, TY.P8, TY.P9, TY.P10, TY.P11, TY.T4, TY.P12, TY.W14, one behind another. No conditions.
-/
import Derived.Test.YtkeoalhglkfbkaaDoorIx1
import Derived.Test.YtkeoalhglkfbkaaDoorIx2
import Derived.Test.YtkeoalhglkfbkaaDoorVt1
import Derived.Test.YtkeoalhglkfbkaaDoorTyh1
import Derived.Test.YtkeoalhglkfbkaaDoorIxu1
set_option linter.unusedVariables false
set_option linter.unusedSimpArgs false
set_option linter.unusedSectionVars false
set_option linter.all false

namespace Go.Proofs.YtkeoalhglkfbkaaDoor
open Go Hk
theorem Op.qW (x : Op) : x.cells = [.int .i64 x.kind, .int .i64 x.dst, .int .i64 x.a, .int .i64 x.b, .int .i64 x.c, .int .i64 x.imm] := (rfl)
theorem Term.qW (x : Term) : x.cells = [.int .i64 x.kind, .int .i64 x.a, .int .i64 x.yes, .int .i64 x.no] := (rfl)
theorem mK.qW (x : mK) : x.cells = [.int .i64 x.elem, .int .i64 x.len, .int .i64 x.kind, .int .i64 x.off] := (rfl)
theorem lX.qW (x : lX) : x.cells = [.slice (Rw Op.cells x.ops) .no, .int .i64 x.term.kind, .int .i64 x.term.a, .int .i64 x.term.yes, .int .i64 x.term.no] := (rfl)
attribute [simp] Op.qW Term.qW mK.qW lX.qW
structure Span where
 first : Int
 last : Int
 deriving DecidableEq
def Span.cells (x : Span) : List kR := [.int .i64 x.first, .int .i64 x.last]
theorem Span.qW (x : Span) : x.cells = [.int .i64 x.first, .int .i64 x.last] := (rfl)
attribute [simp] Span.qW
def t73 (o : Op) : Option Bool := some (mM o.kind).dst
theorem r73 (o : Op) (h : kT) : KK 73 [.agg [.int .i64 o.kind, .int .i64 o.dst, .int .i64 o.a, .int .i64 o.b, .int .i64 o.c, .int .i64 o.imm]] h = tm (t73 o) fun r => (.ret (.bool r), h) := c73 o h
def t74 (o : Op) : Option (List Int) := some (mW o)
theorem Ia (o : Op) (h : kT) : KK 74 [.agg [.int .i64 o.kind, .int .i64 o.dst, .int .i64 o.a, .int .i64 o.b, .int .i64 o.c, .int .i64 o.imm]] h = tm (t74 o) fun r => (.ret (.slice (Rw (ci .i64) r) .no), h) := c74 o h
def t101 (o : Op) : Option Bool := some (mM o.kind).dst
theorem zX (o : Op) (h : kT) : KK 101 [.agg [.int .i64 o.kind, .int .i64 o.dst, .int .i64 o.a, .int .i64 o.b, .int .i64 o.c, .int .i64 o.imm]] h = tm (t101 o) fun r => (.ret (.bool r), h) := Xk o h
def t100 (o : Op) : Option (List Int) := some (mW o)
theorem abP (id : Nat) (l : List Int) : VI id l = Vs id 1 l.length := by cases l <;> rfl
theorem abS (l : List Int) : XI l = Vb (ci .i64) 1 l := by
 cases l with
 | nil => rfl
 | cons x r =>
  have e : (Rw (ci .i64) (x :: r)).flatten = (x :: r).map mR := by
   generalize x :: r = l
   induction l with
   | nil => rfl
   | cons y s ih => simp only [Rw, List.map_cons, List.flatten_cons] at ih ⊢; rw [ih]; rfl
  unfold Vb
  rw [e]; rfl
theorem Hg (o : Op) (h : kT) : KK 100 [.agg [.int .i64 o.kind, .int .i64 o.dst, .int .i64 o.a, .int .i64 o.b, .int .i64 o.c, .int .i64 o.imm]] h = tm (t100 o) fun r => (.ret (Vs h.length 1 r.length), h ++ [Vb (ci .i64) 1 r]) := by
 rw [show KK 100 [.agg [.int .i64 o.kind, .int .i64 o.dst, .int .i64 o.a, .int .i64 o.b, .int .i64 o.c, .int .i64 o.imm]] h = _ from acD o h, abP, abS]; rfl
end Go.Proofs.YtkeoalhglkfbkaaDoor


namespace Go.Proofs.YtkeoalhglkfbkaaDoor
open Go Hk
noncomputable def V7 (mm : Nat) (aA : R) : Option (n_ × kT) :=
 (fun aB => Ex.nV aA.1 (nE mm (.tuple []) aB))  aA.2.2
theorem ZF (y0 : Int) (y1 : Int) (h : kT) (id tot j : Nat) (xs : List Span) : Oe 2 id h (some (Vc Span.cells 2 xs)) tot (j * 2) (.agg [(.int .i64 y0), (.int .i64 y1)]) = tb (s6 tot xs j) fun x => tm (Au tot xs j (⟨y0, y1⟩ : Span)) fun zs => h.set id (Vc Span.cells 2 zs) := SJ (enc := Span.cells) (⟨y0, y1⟩ : Span) (fun _ => rfl) (by decide) rfl rfl
noncomputable def MC (K : k9) (aI : kR) (aA : kR) (aB : kR) (aG : kR) (aF : kT) (aD : kR) (aE : kR) (aC : kR) : Option R :=
 lG aI ((nO [(.int .i64 0), (.int .i64 0)] [(0, 1), (1, 1)] [(0, aA), (1, aA)]).bind fun aJ => ix 2 aB aG fun aK => (lU 2 aF aK aJ).bind fun aH => lC (List.length aF) .normal [aB, aA, aG, aD, aE, aC] aH) (lC (List.length aF) .normal [aB, aA, aG, aD, aE, aC] aF)
noncomputable def CD (aE : Bool) (o1 : Int) (o0 : Nat) (aD : Int) (aA : (List Span)) : Option ((List Span)) :=
 tc aE (tb ((BM o0 aD)) fun aB => tb ((s6 o0 aA aB)) fun Nr => tb ((Au o0 aA aB (⟨o1, o1⟩ : Span))) fun aC => some aC) (some aA)
theorem Zd (w41 : Bool) (o1 : Int) (o0 : Nat) (u31 : Int) (w42 : (List Span)) (o2 : (List Int)) (w21 : Int) (w39 : Int) : (MC KK (.bool w41) (.int .i64 o1) (.vslice 0 o0 0 o0 2) (.int .i64 u31) ([Vc Span.cells 2 w42] : kT) (.slice (Rw (ci .i64) o2) .no) (.int .i64 w21) (.int .i64 w39)) = tm (CD w41 o1 o0 u31 w42) fun r => (.normal, [(.vslice 0 o0 0 o0 2), (.int .i64 o1), (.int .i64 u31), (.slice (Rw (ci .i64) o2) .no), (.int .i64 w21), (.int .i64 w39)], ([Vc Span.cells 2 r] : kT)) := by
 simp +contextual -implicitDefEqProofs (maxSteps := 2000000) [-lS, -lK, -lD, -lF, -lL, -lQ, -lJ, MC, CD, ZF]
theorem ZG (y0 : Int) (h : kT) (id tot j : Nat) (xs : List Span) : Oe 1 id h (some (Vc Span.cells 2 xs)) tot (j * 2) (.int .i64 y0) = tb (s6 tot xs j) fun x => tm (Au tot xs j (⟨y0, x.last⟩ : Span)) fun zs => h.set id (Vc Span.cells 2 zs) := Nv (enc := Span.cells) (sz := 2) (m := 1) (v := (.int .i64 y0)) (off := 0) (fun (x : Span) => (⟨y0, x.last⟩ : Span)) (fun _ => rfl) rfl (by decide) (by decide) rfl (fun _ => rfl)
theorem ZH (y0 : Int) (h : kT) (id tot j : Nat) (xs : List Span) : Oe 1 id h (some (Vc Span.cells 2 xs)) tot (j * 2 + 1) (.int .i64 y0) = tb (s6 tot xs j) fun x => tm (Au tot xs j (⟨x.first, y0⟩ : Span)) fun zs => h.set id (Vc Span.cells 2 zs) := Nv (enc := Span.cells) (sz := 2) (m := 1) (v := (.int .i64 y0)) (off := 1) (fun (x : Span) => (⟨x.first, y0⟩ : Span)) (fun _ => rfl) rfl (by decide) (by decide) rfl (fun _ => rfl)
noncomputable def Jo (K : k9) (m : Nat) (s : List kR × kT) : Option R :=
 (fun aD aH aF aG aA aL => bo .lss aA aG fun aQ => lG aQ (ix 1 aF aA fun t30 => ld false 1 aL t30 fun aN => ix 2 aD aN fun aR => fa 0 aR fun aS => ld false 1 aL aS fun aT => bo .lss aT (.int .i64 0) fun aU => (MC K aU aH aD aN aL aF aG aA).bind fun Hi => (fun aB aE aC aJ aK aI aM => Ex.sO Hi.1 (ix 2 aB aC fun aV => fa 0 aV fun aW => ld false 1 aM aW fun aX => (wR aX aE).bind fun aY => ix 2 aB aC fun aZ => fa 1 aZ fun a6 => ld false 1 aM a6 fun a7 => (Ah a7 aE).bind fun a8 => ix 2 aB aC fun a_ => fa 0 a_ fun bA => (lU 1 aM bA aY).bind fun aO => ix 2 aB aC fun bB => fa 1 bB fun bC => (lU 1 aO bC a8).bind fun aP => bo .add aI (.int .i64 1) fun bD => lC m .normal [aB, aE, aJ, aK, bD] aP)) (gd Hi.2.1 0) (gd Hi.2.1 1) (gd Hi.2.1 2) (gd Hi.2.1 3) (gd Hi.2.1 4) (gd Hi.2.1 5) Hi.2.2) (lC m (.exit 0) [aD, aH, aF, aG, aA] aL)) (gd s.1 0) (gd s.1 1) (gd s.1 2) (gd s.1 3) (gd s.1 4) s.2
noncomputable def A5 (o0 : Nat) (o1 : Int) (o2 : (List Int)) (aO : Int) (aA : Int × (List Span)) : Option (Ey × Int × (List Span)) :=
 tc (decide (aA.1 < aO)) (tb ((oO o2 aA.1)) fun aB => tb ((BM o0 aB)) fun aF => tb ((s6 o0 aA.2 aF)) fun aJ => tb (CD (decide (aJ.first < 0)) o1 o0 aB aA.2) fun Hi => tb ((BM o0 aB)) fun aG => tb ((s6 o0 Hi aG)) fun aK => tb ((BM o0 aB)) fun aH => tb ((s6 o0 Hi aH)) fun aL => tb ((BM o0 aB)) fun aC => tb ((s6 o0 Hi aC)) fun aM => tb ((Au o0 Hi aC (⟨(min aK.first o1), aM.last⟩ : Span))) fun aE => tb ((BM o0 aB)) fun aD => tb ((s6 o0 aE aD)) fun aN => tb ((Au o0 aE aD (⟨aN.first, (max aL.last o1)⟩ : Span))) fun aI => some (.n, ((IntKind.wrap .i64 (aA.1 + 1)), aI))) (some ((.x 0), (aA.1, aA.2)))
theorem W8 (o0 : Nat) (o1 : Int) (o2 : (List Int)) (w21 : Int) (s22 : Int × (List Span)) : Jo KK 1 ([(.vslice 0 o0 0 o0 2), (.int .i64 o1), (.slice (Rw (ci .i64) o2) .no), (.int .i64 w21), (.int .i64 s22.1)], ([Vc Span.cells 2 s22.2] : kT)) = tm (A5 o0 o1 o2 w21 s22) fun r => (r.1.ex, [(.vslice 0 o0 0 o0 2), (.int .i64 o1), (.slice (Rw (ci .i64) o2) .no), (.int .i64 w21), (.int .i64 r.2.1)], ([Vc Span.cells 2 r.2.2] : kT)) := by
 simp +contextual -implicitDefEqProofs (maxSteps := 2000000) [-lS, -lK, -lD, -lF, -lL, -lQ, -lJ, Jo, A5, Zd, ZG, ZH]
theorem Ze (o0 : Nat) (o1 : Int) (o2 : (List Int)) (w21 : Int) (i4 : Int) (i5 : (List Span)) : mJ (Jo KK 1) ([(.vslice 0 o0 0 o0 2), (.int .i64 o1), (.slice (Rw (ci .i64) o2) .no), (.int .i64 w21), (.int .i64 i4)], ([Vc Span.cells 2 i5] : kT)) = tm (v_ (A5 o0 o1 o2 w21) (i4, i5)) fun r => (r.1.ex, [(.vslice 0 o0 0 o0 2), (.int .i64 o1), (.slice (Rw (ci .i64) o2) .no), (.int .i64 w21), (.int .i64 r.2.1)], ([Vc Span.cells 2 r.2.2] : kT)) := by
 exact w6 (enc := fun s22 => ([(.vslice 0 o0 0 o0 2), (.int .i64 o1), (.slice (Rw (ci .i64) o2) .no), (.int .i64 w21), (.int .i64 s22.1)], ([Vc Span.cells 2 s22.2] : kT))) (fun s22 => W8 o0 o1 o2 w21 s22) (i4, i5)
noncomputable def m83 (K : k9) (a0 a1 a2 : kR) (h0 : kT) : Option (n_ × kT) :=
 (ln a2 fun aJ => (mJ (Jo K (List.length h0)) ([a0, a1, a2, aJ, (.int .i64 0)], h0)).bind fun aA => (fun aD aE aF aG aB aC => Ex.lY aA.1 none (fun aH => Ex.inBlock 0 aH (some (.normal, [], aC)) (fun aI => some (aI, [], aC)))) (gd aA.2.1 0) (gd aA.2.1 1) (gd aA.2.1 2) (gd aA.2.1 3) (gd aA.2.1 4) aA.2.2).bind (V7 (List.length h0))
theorem Gb (K : k9) (a0 a1 a2 : kR) (h0 : kT) : qQ Tryd.prog nC mJ K 83 [a0, a1, a2] h0 = m83 (mI nC K) a0 a1 a2 h0 := by kernel_rfl
noncomputable def t83 (o0 : Nat) (o1 : Int) (o2 : (List Int)) (o3 : (List Span)) : Option ((List Span)) :=
 tb (v_ (A5 o0 o1 o2 ((List.length o2 : Nat) : Int)) (0, o3)) fun aA => As aA.1 none fun aB => Bm 0 aB (some aA.2.2) fun aC => OD aC (some aA.2.2)
theorem b83 (o0 : Nat) (o1 : Int) (o2 : (List Int)) (o3 : (List Span)) : m83 KK (.vslice 0 o0 0 o0 2) (.int .i64 o1) (.slice (Rw (ci .i64) o2) .no) ([Vc Span.cells 2 o3] : kT) = tm (t83 o0 o1 o2 o3) fun r => (.ret (.tuple []), ([Vc Span.cells 2 r] : kT)) := by
 simp +contextual -implicitDefEqProofs (maxSteps := 2000000) [-lS, -lK, -lD, -lF, -lL, -lQ, -lJ, m83, t83, Ze, V7]
end Go.Proofs.YtkeoalhglkfbkaaDoor


namespace Go.Proofs.YtkeoalhglkfbkaaDoor
open Go Hk
theorem nZ {α : Type} {xs : List α} {i : Nat} : oO xs (i : Int) = xs[i]? := by simp [oO]
theorem zB {α : Type} {by_ : Nat} {xs ys : List α} (hb : by_ ≤ 100) (hl : xs.length ≤ 4000000) (hy : ys.length ≤ 4000000) : xB by_ xs ys = some (xs ++ ys) := by
 unfold xB
 rw [if_pos]
 have : (xs.length + ys.length) * by_ ≤ 8000000 * 100 := Nat.mul_le_mul (by omega) hb
 omega
def sl (l : List Int) (t : Int) : Int := l.getD t.toNat 0
end Go.Proofs.YtkeoalhglkfbkaaDoor


namespace Go.Proofs.YtkeoalhglkfbkaaDoor
open Go Hk
noncomputable def t27 (p : IR) : Option (List (List Int) × List (List Int) × Int) := some (qF p, qG p, mZ p)
theorem Gq (p : IR) (h : kT) : KK 27 [.agg [.int .i64 p.temps, .slice (Rw mK.cells p.arrays) .no, .slice (Rw lX.cells p.blocks) .no, .int .i64 p.inn, .int .i64 p.out]] h = tm (t27 p) fun r => (.ret (.tuple [.slice (Rw (wV (ci .i64)) r.1) .no, .slice (Rw (wV (ci .i64)) r.2.1) .no, .int .i64 r.2.2]), h) := c27 p h
end Go.Proofs.YtkeoalhglkfbkaaDoor


namespace Hk.PS
variable {e : Nat → Int}
def tk (e : Nat → Int) (ps : List (Nat × Nat)) (s : Nat) (f : Int) : Bool := ps.any fun p => p.2 == s && decide (f ≤ e p.1)
theorem JU {ps : List (Nat × Nat)} {s : Nat} {f : Int} : tk e ps s f = true ↔ ∃ p ∈ ps, p.2 = s ∧ f ≤ e p.1 := by
 simp [tk]
theorem PR {ps bs : List (Nat × Nat)} {s : Nat} {f : Int} : tk e (ps ++ bs) s f = (tk e ps s f || tk e bs s f) := by simp [tk]
def NU (e : Nat → Int) (ps : List (Nat × Nat)) (f : Int) : Nat → Nat → Nat
 | 0, s => s
 | n + 1, s => if tk e ps s f then NU e ps f n (s + 1) else s
theorem DC {ps : List (Nat × Nat)} {f : Int} : ∀ {n s s' : Nat}, s ≤ s' → s' < NU e ps f n s → tk e ps s' f = true
 | 0, s, s', h1, h2 => by simp [NU] at h2; omega
 | n + 1, s, s', h1, h2 => by
  unfold NU at h2
  split at h2
  ·rename_i h
   by_cases es : s = s'
   ·subst es; exact h
   ·exact DC (n := n) (s := s + 1) (by omega) h2
  ·omega
theorem u7 {α : Type} {P : List α → Prop} (h0 : P []) (h1 : ∀ l x, P l → P (l ++ [x])) (l : List α) : P l := by
 have : ∀ r : List α, P r.reverse := by
  intro r
  induction r with
  | nil => exact h0
  | cons x r ih => rw [List.reverse_cons]; exact h1 _ _ ih
 have := this l.reverse
 rwa [List.reverse_reverse] at this
theorem N_ (e : Nat → Int) (ps : List (Nat × Nat)) (f : Int) : ∃ s ≤ ps.length, tk e ps s f = false := by
 by_cases h : ∃ s ≤ ps.length, tk e ps s f = false
 ·exact h
 ·exfalso
  have h2 : List.range (ps.length + 1) ⊆ ps.map (·.2) := by
   intro s hs
   have hs := List.mem_range.1 hs
   cases ht : tk e ps s f with
   | false => exact absurd ⟨s, by omega, ht⟩ h
   | true =>
    obtain ⟨p, hp, h1, _⟩ := JU.1 ht
    exact List.mem_map.2 ⟨p, hp, h1⟩
  have := List.Nodup.length_le_of_subset List.nodup_range h2
  simp at this
  omega
def pH (e : Nat → Int) (ps : List (Nat × Nat)) (f : Int) : Nat := NU e ps f (ps.length + 1) 0
theorem Cu (ps : List (Nat × Nat)) (f : Int) : tk e ps (pH e ps f) f = false := by
 obtain ⟨s, h1, h2⟩ := N_ e ps f
 cases h : tk e ps (pH e ps f) f with
 | false => rfl
 | true =>
  have hle : pH e ps f ≤ s := by
   by_cases hc : pH e ps f ≤ s
   ·exact hc
   ·have := DC (e := e) (ps := ps) (f := f) (n := ps.length + 1) (s := 0) (Nat.zero_le s) (by unfold pH at hc; omega)
    rw [h2] at this; cases this
  have key : ∀ (n s0 : Nat), tk e ps (NU e ps f n s0) f = true → NU e ps f n s0 = s0 + n := by
   intro n
   induction n with
   | zero => intro s0 _; rfl
   | succ n ih =>
    intro s0 h
    unfold NU at h ⊢
    split
    ·rename_i hc
     rw [if_pos hc] at h
     rw [ih _ h]; omega
    ·rename_i hc
     rw [if_neg hc] at h
     exact absurd h hc
  have := key _ _ h
  unfold pH at hle
  omega
theorem xS {ps : List (Nat × Nat)} {f : Int} {s : Nat} (h : s < pH e ps f) : tk e ps s f = true := DC (Nat.zero_le _) h
theorem Ln {ps : List (Nat × Nat)} {f : Int} {t : Nat} (ht : tk e ps t f = false) (hb : ∀ s < t, tk e ps s f = true) : pH e ps f = t := by
 have h1 : ¬ pH e ps f < t := fun h => by have := hb _ h; rw [Cu] at this; cases this
 have h2 : ¬ t < pH e ps f := fun h => by have := xS h; rw [ht] at this; cases this
 omega
def gS (f e : Nat → Int) (ord : List Nat) : List (Nat × Nat) := ord.foldl (fun ps t => ps ++ [(t, pH e ps (f t))]) []
def nS (ps : List (Nat × Nat)) : Nat := ps.foldl (fun n p => max n (p.2 + 1)) 0
theorem yT {ps : List (Nat × Nat)} {p : Nat × Nat} : nS (ps ++ [p]) = max (nS ps) (p.2 + 1) := by simp [nS]
structure PI (e : Nat → Int) (ps : List (Nat × Nat)) (n : Nat) (F : List Int) (U : List (Int × Int)) (cur : Int) : Prop where
 perm : (F ++ U.map (·.1)).Perm ((List.range n).map Int.ofNat)
 taken : ∀ f, cur ≤ f → ∀ s : Nat, tk e ps s f = true ↔ ∃ x ∈ U, x.1 = (s : Int) ∧ f ≤ x.2
 num : n = nS ps
theorem PI.empty (cur : Int) : PI e [] 0 [] [] cur := ⟨by simp, fun f _ s => by simp [tk], rfl⟩
theorem PI.later {ps : List (Nat × Nat)} {n : Nat} {F : List Int} {U : List (Int × Int)} {cur cur' : Int} (h : PI e ps n F U cur) (hc : cur ≤ cur') : PI e ps n F U cur' :=
 ⟨h.perm, fun f hf => h.taken f (by omega), h.num⟩
theorem PI.free {ps : List (Nat × Nat)} {n : Nat} {F F' : List Int} {U U' : List (Int × Int)} {cur : Int} {x : Int × Int} (h : PI e ps n F U cur) (hU : (x :: U').Perm U) (hF : F'.Perm (x.1 :: F)) (hx : x.2 < cur) : PI e ps n F' U' cur := by
 refine ⟨?_, fun f hf s => ?_, h.num⟩
 ·refine List.Perm.trans ?_ h.perm
  have h1 : (F' ++ U'.map (·.1)).Perm (x.1 :: F ++ U'.map (·.1)) := List.Perm.append_right _ hF
  have h2 : (F ++ (x :: U').map (·.1)).Perm (F ++ U.map (·.1)) := List.Perm.append_left _ (hU.map _)
  refine List.Perm.trans h1 (List.Perm.trans ?_ h2)
  simp only [List.map_cons, List.cons_append]
  exact List.perm_middle.symm
 ·rw [h.taken f hf s]
  constructor
  ·rintro ⟨y, hy, h1, h2⟩
   rcases List.mem_cons.1 (hU.mem_iff.2 hy) with rfl | h3
   ·omega
   ·exact ⟨y, h3, h1, h2⟩
  ·rintro ⟨y, hy, h1, h2⟩
   exact ⟨y, hU.mem_iff.1 (List.mem_cons_of_mem _ hy), h1, h2⟩
theorem PI.least {ps : List (Nat × Nat)} {n : Nat} {F : List Int} {U : List (Int × Int)} {cur s : Int} (h : PI e ps n F U cur) (hU : ∀ x ∈ U, cur ≤ x.2) (hs : s ∈ F) (hm : ∀ y ∈ F, s ≤ y) : s = (pH e ps cur : Int) ∧ pH e ps cur < n := by
 have hmem : s ∈ (List.range n).map Int.ofNat := h.perm.mem_iff.1 (List.mem_append_left _ hs)
 obtain ⟨k, hk, rfl⟩ := List.mem_map.1 hmem
 have hk := List.mem_range.1 hk
 have hof : Int.ofNat k = (k : Int) := rfl
 rw [hof] at hs hm ⊢
 have hnd : (F ++ U.map (·.1)).Nodup := h.perm.nodup_iff.2 (by
  rw [List.nodup_iff_pairwise_ne, List.pairwise_map]
  refine (List.nodup_iff_pairwise_ne.1 (List.nodup_range (n := n))).imp ?_
  intro a b hab hc; exact hab (Int.ofNat.inj hc))
 have hdis := (List.nodup_append.1 hnd).2.2
 have e1 : pH e ps cur = k := by
  refine Ln ?_ fun s' hs' => ?_
  ·cases hb : tk e ps k cur with
   | false => rfl
   | true =>
    obtain ⟨x, hx, h1, h2⟩ := (h.taken cur (Int.le_refl _) k).1 hb
    exact absurd h1.symm (hdis _ hs _ (List.mem_map.2 ⟨x, hx, rfl⟩))
  ·rw [h.taken cur (Int.le_refl _) s']
   have hm' : (s' : Int) ∈ F ++ U.map (·.1) := h.perm.mem_iff.2 (List.mem_map.2 ⟨s', List.mem_range.2 (by omega), rfl⟩)
   rcases List.mem_append.1 hm' with h1 | h1
   ·have := hm _ h1; omega
   ·obtain ⟨x, hx, h2⟩ := List.mem_map.1 h1
    exact ⟨x, hx, h2, hU x hx⟩
 exact ⟨by rw [e1], by omega⟩
theorem PI.more {ps : List (Nat × Nat)} {n : Nat} {U : List (Int × Int)} {cur : Int} (h : PI e ps n [] U cur) (hU : ∀ x ∈ U, cur ≤ x.2) : pH e ps cur = n := by
 refine Ln ?_ fun s' hs' => ?_
 ·cases hb : tk e ps n cur with
  | false => rfl
  | true =>
   obtain ⟨x, hx, h1, h2⟩ := (h.taken cur (Int.le_refl _) n).1 hb
   have := h.perm.mem_iff.1 (List.mem_append_right _ (List.mem_map.2 ⟨x, hx, rfl⟩))
   rw [h1] at this
   obtain ⟨k, hk, e1⟩ := List.mem_map.1 this
   have := List.mem_range.1 hk
   have hof : Int.ofNat k = (k : Int) := rfl
   omega
 ·rw [h.taken cur (Int.le_refl _) s']
  have hm' : (s' : Int) ∈ ([] : List Int) ++ U.map (·.1) := h.perm.mem_iff.2 (List.mem_map.2 ⟨s', List.mem_range.2 (by omega), rfl⟩)
  rcases List.mem_append.1 hm' with h1 | h1
  ·cases h1
  ·obtain ⟨x, hx, h2⟩ := List.mem_map.1 h1
   exact ⟨x, hx, h2, hU x hx⟩
theorem PI.ahM {ps : List (Nat × Nat)} {n n' : Nat} {F F' : List Int} {U U' : List (Int × Int)} {cur : Int} {t : Nat} (h : PI e ps n F U cur)
  (hp : (F' ++ U'.map (·.1)).Perm ((List.range n').map Int.ofNat)) (hU : U'.Perm ((((pH e ps cur : Nat) : Int), e t) :: U)) (hn : n' = max n (pH e ps cur + 1)) (ht : cur ≤ e t) : PI e (ps ++ [(t, pH e ps cur)]) n' F' U' cur := by
 refine ⟨hp, fun f hf s => ?_, by rw [yT, ← h.num]; exact hn⟩
 rw [PR, Bool.or_eq_true, h.taken f hf s]
 constructor
 ·rintro (⟨x, hx, h1, h2⟩ | h1)
  ·exact ⟨x, hU.mem_iff.2 (List.mem_cons_of_mem _ hx), h1, h2⟩
  ·simp [tk] at h1
   exact ⟨_, hU.mem_iff.2 (List.mem_cons_self ..), by simp [h1.1], h1.2⟩
 ·rintro ⟨x, hx, h1, h2⟩
  rcases List.mem_cons.1 (hU.mem_iff.1 hx) with rfl | h3
  ·refine .inr ?_
   simp [tk]
   exact ⟨Int.ofNat.inj h1, h2⟩
  ·exact .inl ⟨x, h3, h1, h2⟩
end Hk.PS


namespace Hk.PS
variable {f e : Nat → Int}
theorem wG (ord : List Nat) (t : Nat) : gS f e (ord ++ [t]) = gS f e ord ++ [(t, pH e (gS f e ord) (f t))] := by simp [gS]
theorem wX (ord : List Nat) : (gS f e ord).map (·.1) = ord := by
 induction ord using u7 with
 | h0 => rfl
 | h1 l t ih => rw [wG, List.map_append, ih]; rfl
theorem Dh (ps : List (Nat × Nat)) (c : Int) : pH e ps c ≤ ps.length := by
 obtain ⟨s, h1, h2⟩ := N_ e ps c
 by_cases h : pH e ps c ≤ s
 ·omega
 ·have := xS (e := e) (ps := ps) (f := c) (s := s) (by omega)
  rw [h2] at this; cases this
end Hk.PS


namespace Go.Proofs.YtkeoalhglkfbkaaDoor
open Go Hk
def qU (sp : List Span) (k : Nat) : List Int := ((List.range k).filter fun t => decide (0 ≤ ((sp[t]?).map (·.first)).getD (-1))).map Int.ofNat
def rV (n k : Nat) : List Int := List.replicate k (-1) ++ List.replicate (n - k) 0
theorem Pu {sp : List Span} {k : Nat} {s : Span} (h : sp[k]? = some s) : qU sp (k + 1) = if 0 ≤ s.first then qU sp k ++ [(k : Int)] else qU sp k := by
 unfold qU
 rw [List.range_succ, List.filter_append, List.map_append]
 by_cases hf : 0 ≤ s.first <;> simp [h, hf]
theorem Jz {sp : List Span} {k : Nat} : (qU sp k).length ≤ k := by
 unfold qU
 rw [List.length_map]
 have := List.length_filter_le (fun t => decide (0 ≤ ((sp[t]?).map (·.first)).getD (-1))) (List.range k)
 simpa using this
theorem M6 {n k : Nat} (h : k < n) : (rV n k).set k (-1) = rV n (k + 1) := by
 unfold rV
 have e : n - k = (n - (k + 1)) + 1 := by omega
 rw [List.set_append_right _ _ (by simp), List.length_replicate, Nat.sub_self, e, List.replicate_succ, List.set_cons_zero, List.replicate_succ', List.append_assoc]
 rfl
@[simp high] theorem agR {b0 b1 b2 b3 : lW} {R : Hk.kT} {O : List Int} {k : Nat} {v : Int} (hk : k < O.length) : lU 1 (b0 :: b1 :: b2 :: b3 :: .cells (O.map mR) :: R) (.ptr 4 k) (.int .i64 v) = some (b0 :: b1 :: b2 :: b3 :: .cells ((O.set k v).map mR) :: R) := by
 have hc : ∃ x, O[k]? = some x := ⟨_, List.getElem?_eq_getElem hk⟩
 have hd : ∃ y r, (O.map mR).drop k = y :: r ∧ sJ (b0 :: b1 :: b2 :: b3 :: .cells (O.map mR) :: R) y (.int .i64 v) = .int .i64 v := by
  rw [List.drop_eq_getElem_cons (by simpa using hk)]
  exact ⟨_, _, rfl, rfl⟩
 obtain ⟨y, r, hd, hk2⟩ := hd
 have e : pV (b0 :: b1 :: b2 :: b3 :: .cells (O.map mR) :: R) ((O.map mR).drop k) [.int .i64 v] = [.int .i64 v] := by
  rw [hd]; simp only [pV, hk2]
 have g : nJ (b0 :: b1 :: b2 :: b3 :: .cells (O.map mR) :: R) 4 = some (O.map mR) := rfl
 unfold lU
 simp only [g, kR.cells, e]
 rw [if_pos (by simp [kR.mC]; omega)]
 congr 1
 have : putCells (O.map mR) k [.int .i64 v] = (O.set k v).map mR := by
  unfold putCells
  rw [List.map_set, List.set_eq_take_append_cons_drop, if_pos (by simpa using hk)]
  simp [mR]
 rw [this]; rfl
@[simp high] theorem agN {b0 b1 b2 b3 : lW} {R : Hk.kT} {O : List Int} {k : Nat} (hk : k < O.length) : kV false 1 (b0 :: b1 :: b2 :: b3 :: .cells (O.map mR) :: R) (.ptr 4 k) = some (.int .i64 (rd O k)) := by
 have g : nJ (b0 :: b1 :: b2 :: b3 :: .cells (O.map mR) :: R) 4 = some (O.map mR) := rfl
 unfold kV
 simp only [g, apart, cond_false, List.getElem?_map, zY hk]
 rfl
theorem LP {id sz n : Nat} (h : n ≠ 0) : Vs id sz n = .vslice id n 0 n sz := if_neg h
theorem IB {α : Type} {enc : α → List kR} {sz : Nat} {xs : List α} (h : xs.length ≠ 0) : Vb enc sz xs = Vc enc sz xs := if_neg h
theorem I3 {H : Hk.kT} {id : Nat} {o : List Int} {k : Int} {T : Hk.Tok} (hb : H[id]? = some (Vb (ci .i64) 1 o)) (ho : o.length ≤ 1000000) :
  mY 1 8 H (Vs id 1 o.length) (.slice [[.int .i64 k]] T) = some (Vs id 1 (o ++ [k]).length, H.set id (Vb (ci .i64) 1 (o ++ [k]))) := by
 have h := Fe (enc := ci .i64) (sz := 1) (by_ := 8) (id := id) (h := H) (xs := o) (ys := [k]) (T := T) (fun _ => rfl) (by simp) hb
 have e : xB 8 o [k] = some (o ++ [k]) := by unfold xB; rw [if_pos (by simp; omega)]
 rw [e, vB] at h
 have n0 : (o ++ [k]).length ≠ 0 := by simp
 rw [LP n0, IB n0]
 exact h
@[simp] theorem aa9 {m : Nat} {h : Hk.kT} {o : List Int} : pA m h (Vb (ci .i64) 1 o) = some (Vb (ci .i64) 1 o) := by
 unfold Vb; split
 ·rfl
 ·exact y9 (fun x => by simp)
@[simp] theorem af7 {m n : Nat} {h : Hk.kT} (hm : 5 < m) : kR.oM m h (Vs 5 1 n) = Vs 5 1 n := by
 unfold Vs; split
 ·simp [kR.oM, kR.nM, hm]
 ·simp [kR.oM, kR.nM, hm]
@[simp] theorem Td {m : Nat} {h : Hk.kT} {O : List Int} : mP m h (O.map mR) = some (O.map mR) := by
 induction O with
 | nil => rfl
 | cons x r ih => simp only [List.map_cons, pB, ih]; rfl
@[simp] theorem aiM {m id off len sz : Nat} {h : Hk.kT} (hm : id < m) : kR.oM m h (.mslice id off len sz) = .mslice id off len sz := by simp [kR.oM, kR.nM, hm]
section
variable {p : List kR} {sp : List Span} {n k : Nat}
def Hu (p : List kR) (sp : List Span) (O o : List Int) : Hk.kT := [.cells p, .front 0 0, .cells [.slice (Rw Span.cells sp) .no], .front 0 0, .cells (O.map mR), Vb (ci .i64) 1 o]
theorem T9 (hp : ∀ m h, mP m h p = some p) (hn : sp.length = n) (hn2 : n ≤ 1000000) (hk : k < n) :
  AM KK 6 ([.slice [] (.own 1), .int .i64 0, .int .i64 0, .ptr 2 0, .mslice 4 0 n 1, Vs 5 1 (qU sp k).length, .slice (Rw Span.cells sp) .no, .int .i64 (n : Int), .int .i64 (k : Int)], Hu p sp (rV n k) (qU sp k)) =
   some (.normal, [.slice [] (.own 1), .int .i64 0, .int .i64 0, .ptr 2 0, .mslice 4 0 n 1, Vs 5 1 (qU sp (k + 1)).length, .slice (Rw Span.cells sp) .no, .int .i64 (n : Int), .int .i64 ((k + 1 : Nat) : Int)], Hu p sp (rV n (k + 1)) (qU sp (k + 1))) := by
 have hsk : sp[k]? = some sp[k] := List.getElem?_eq_getElem (by omega)
 have e1 : oO sp (k : Int) = some sp[k] := by simp [oO, hsk]
 have w1 : IntKind.i64.wrap ((k : Int) + 1) = ((k + 1 : Nat) : Int) := by rw [wrap64 (by omega) (by omega)]; omega
 have hol : k < (rV n k).length := by unfold rV; simp; omega
 have hset := M6 hk
 have hord := Pu hsk
 have hle := Jz (sp := sp) (k := k)
 have htap : xB 8 (qU sp k) [(k : Int)] = some (qU sp k ++ [(k : Int)]) := by
  unfold xB; rw [if_pos (by simp; omega)]
 have hix : kY 1 (.mslice 4 0 n 1) (.int .i64 (k : Int)) = some (.ptr 4 k) := by simp [kY, hk]
 generalize rV n k = O at *
 generalize qU sp k = o at *
 rw [hord]
 rw [← hset]
 have bx : ∀ (b0 b1 b2 b3 b4 b5 : lW) x y, lU 2 [b0, b1, b2, b3, b4, b5, .cells [.int .i64 0, .int .i64 0]] (.ptr 6 0) (.agg [.int .i64 x, .int .i64 y]) = some [b0, b1, b2, b3, b4, b5, .cells [.int .i64 x, .int .i64 y]] := fun _ _ _ _ _ _ _ _ => rfl
 by_cases hf : 0 ≤ sp[k].first
 ·have ha := fun H T h => I3 (H := H) (id := 5) (o := o) (k := (k : Int)) (T := T) h (by omega)
  simp [AM, Hu, e1, w1, hk, hol, hf, hp, hix, lP, oL, mU, kR.tK, rowsOf, ha, bx, -oQ, -List.map_set]
 ·simp [AM, Hu, e1, w1, hk, hol, hf, hp, hix, bx, -oQ, -List.map_set]
end
end Go.Proofs.YtkeoalhglkfbkaaDoor


namespace Go.Proofs.YtkeoalhglkfbkaaDoor
open Go Hk
def UH (id : Nat) (S : List pL) (n : Nat) : kR := if S = [] then .slice [] (.own id) else .vslice id S.length 0 n 2
def FH (id : Nat) (S : List Int) (n : Nat) : kR := if S = [] then .slice [] (.own id) else .vslice id S.length 0 n 1
section
variable {id m : Nat} {S : List Int} {U : List pL} {n : Nat} {h : Hk.kT}
theorem Qp : UC id U n = .cells [UH id U n, .func 90 [] []] := by unfold UC UH; split <;> rfl
theorem U9 : FC id S n = .cells [FH id S n, .func 89 [] []] := by unfold FC FH; split <;> rfl
theorem Qr (hn : n ≤ U.length) : lN (UH id U n) = some (.int .i64 (n : Int)) := by
 unfold UH; split
 ·rename_i h; subst h
  have : n = 0 := by simpa using hn
  subst this; rfl
 ·rfl
theorem Wy (hn : n ≤ S.length) : lN (FH id S n) = some (.int .i64 (n : Int)) := by
 unfold FH; split
 ·rename_i h; subst h
  have : n = 0 := by simpa using hn
  subst this; rfl
 ·rfl
theorem Qq (h0 : 0 < n) (hn : n ≤ U.length) : kY 2 (UH id U n) (.int .i64 0) = some (.vptr id U.length 0) := by
 have hne : U ≠ [] := by intro e; subst e; simp at hn; omega
 rw [UH, if_neg hne]
 simp only [kY]
 rw [if_pos ⟨by omega, by omega, trivial⟩]; rfl
theorem PB (hm : id < m) : pA m h (FC id S n) = some (FC id S n) := by
 rw [U9]; unfold FH; split <;> simp [hm, kR.mC]
theorem PC (hm : id < m) : pA m h (UC id U n) = some (UC id U n) := by
 rw [Qp]; unfold UH; split <;> simp [hm, kR.mC]
@[simp] theorem aa7 : pA m h (FV S) = some (FV S) := by
 unfold FV; split
 ·rfl
 ·exact y9 (fun x => by simp)
@[simp] theorem aa8 : pA m h (UV U) = some (UV U) := by
 unfold UV; split
 ·rfl
 ·exact y9 (fun x => by simp)
end
def HS (p : List kR) (sp : List Span) (O o : List Int) (SF : List Int) (nF : Nat) (SU : List pL) (nU : Nat) : Hk.kT :=
 [.cells p, .front 0 0, .cells [.slice (Rw Span.cells sp) .no], .front 0 0, .cells (O.map mR), Vb (ci .i64) 1 o, FC 7 SF nF, FV SF, UC 9 SU nU, UV SU]
theorem CI {p : List kR} (hp : ∀ m h, mP m h p = some p) {sp : List Span} {O o SF : List Int} {nF nU : Nat} {SU : List pL} : oA 10 (HS p sp O o SF nF SU nU) ((HS p sp O o SF nF SU nU).take 10) = some (HS p sp O o SF nF SU nU) := by
 have e : (HS p sp O o SF nF SU nU).take 10 = HS p sp O o SF nF SU nU := rfl
 rw [e]
 generalize hH : HS p sp O o SF nF SU nU = H
 conv => lhs; rw [← hH]
 rw [← hH]
 simp [HS, hp, PB, PC, -List.map_set]
section
variable {p : List kR} (hp : ∀ m h, mP m h p = some p) {sp : List Span} {O o SF : List Int} {nF nU N t k ns : Nat} {SU : List pL} {s : Span}
include hp
theorem NY (hs : sp[t]? = some s) (hU : nU ≤ SU.length) (h : nU = 0 ∨ 0 < nU ∧ ¬ (rt SU 0).last < s.first) :
  Ck KK 10 ([.slice [] (.own 1), .int .i64 0, .int .i64 0, .ptr 2 0, .mslice 4 0 N 1, .ptr 6 0, .ptr 8 0, .int .i64 (ns : Int), .int .i64 (t : Int), Vs 5 1 o.length, .int .i64 (o.length : Int), .int .i64 (k : Int)], HS p sp O o SF nF SU nU) =
   some (.exit 4, [.slice [] (.own 1), .int .i64 0, .int .i64 0, .ptr 2 0, .mslice 4 0 N 1, .ptr 6 0, .ptr 8 0, .int .i64 (ns : Int), .int .i64 (t : Int), Vs 5 1 o.length, .int .i64 (o.length : Int), .int .i64 (k : Int)], HS p sp O o SF nF SU nU) := by
 have hl := Qr (id := 9) hU
 have ht := CI hp (sp := sp) (O := O) (o := o) (SF := SF) (nF := nF) (SU := SU) (nU := nU)
 have l8 : kV false 1 (HS p sp O o SF nF SU nU) (.ptr 8 0) = some (UH 9 SU nU) := by simp [HS, Qp]
 have l2 : kV false 1 (HS p sp O o SF nF SU nU) (.ptr 2 0) = some (.slice (Rw Span.cells sp) .no) := by simp [HS]
 have hlen : (HS p sp O o SF nF SU nU).length = 10 := rfl
 have e1 : oO sp (t : Int) = some s := by simp [oO, hs]
 rcases h with h0 | ⟨h0, hlt⟩
 ·generalize HS p sp O o SF nF SU nU = H at *
  subst h0
  simp [Ck, l8, hl, ht]
 ·have hne : SU ≠ [] := by intro e; subst e; simp at hU; omega
  have hi := Qq (id := 9) h0 hU
  have ld : kV false 1 (HS p sp O o SF nF SU nU) (.vptr 9 SU.length 1) = some (.int .i64 (rt SU 0).last) := by
   have e9 : (HS p sp O o SF nF SU nU)[9]? = some (Vc pL.cells 2 SU) := by unfold HS UV; rw [if_neg hne]; rfl
   have := AD (enc := pL.cells) (sz := 2) (h := HS p sp O o SF nF SU nU) (id := 9) (xs := SU) (tot := SU.length) (j := 0) (off := 1) (fun _ => rfl) e9 (by omega)
   rw [Nat.zero_mul, Nat.zero_add, s6, if_pos rfl, A0 (List.length_pos_iff.2 hne)] at this
   exact this
  generalize HS p sp O o SF nF SU nU = H at *
  have hz : (0 : Int) < (nU : Int) := by omega
  simp [Ck, l8, l2, hl, ht, h0, hi, ld, e1, hlt, -mD, -sU]
theorem Ua (hs : sp[t]? = some s) (hU : nU + 1 ≤ SU.length) (hUl : SU.length ≤ 1000000) (hUh : PQ.kT pL.last (SU.take (nU + 1))) (hF : nF ≤ SF.length) (hFl : SF.length ≤ 1000000) (hFh : PQ.kT (fun x => x) (SF.take nF)) (h : (rt SU 0).last < s.first) :
  ∃ SF' SU', Ck KK 10 ([.slice [] (.own 1), .int .i64 0, .int .i64 0, .ptr 2 0, .mslice 4 0 N 1, .ptr 6 0, .ptr 8 0, .int .i64 (ns : Int), .int .i64 (t : Int), Vs 5 1 o.length, .int .i64 (o.length : Int), .int .i64 (k : Int)], HS p sp O o SF nF SU (nU + 1)) =
   some (.normal, [.slice [] (.own 1), .int .i64 0, .int .i64 0, .ptr 2 0, .mslice 4 0 N 1, .ptr 6 0, .ptr 8 0, .int .i64 (ns : Int), .int .i64 (t : Int), Vs 5 1 o.length, .int .i64 (o.length : Int), .int .i64 (k : Int)], HS p sp O o SF' (nF + 1) SU' nU) ∧
   SU'.length = SU.length ∧ PQ.kT pL.last (SU'.take nU) ∧ (rt SU 0 :: SU'.take nU).Perm (SU.take (nU + 1)) ∧
   nF + 1 ≤ SF'.length ∧ SF'.length ≤ max SF.length (nF + 1) ∧ PQ.kT (fun x => x) (SF'.take (nF + 1)) ∧ (SF'.take (nF + 1)).Perm ((rt SU 0).slot :: SF.take nF) := by
 obtain ⟨SU', k1, k2, k3, k4⟩ := c92 (b0 := .cells p) (b1 := .front 0 0) (b2 := .cells [.slice (Rw Span.cells sp) .no]) (b3 := .front 0 0) (b4 := .cells (O.map mR)) (b5 := Vb (ci .i64) 1 o) (b8 := FC 7 SF nF) (b9 := FV SF) hU hUl hUh
 obtain ⟨SF', j1, j2, j3, j4, j5⟩ := c91 (b0 := .cells p) (b1 := .front 0 0) (b2 := .cells [.slice (Rw Span.cells sp) .no]) (b3 := .front 0 0) (b4 := .cells (O.map mR)) (b5 := Vb (ci .i64) 1 o) (b8 := UC 9 SU' nU) (b9 := UV SU') (rt SU 0).slot hF hFl hFh
 refine ⟨SF', SU', ?_, k2, k3, k4, j2, j3, j4, j5⟩
 have hl := Qr (id := 9) hU
 have ht := CI hp (sp := sp) (O := O) (o := o) (SF := SF') (nF := nF + 1) (SU := SU') (nU := nU)
 have l8 : kV false 1 (HS p sp O o SF nF SU (nU + 1)) (.ptr 8 0) = some (UH 9 SU (nU + 1)) := by simp [HS, Qp]
 have l2 : kV false 1 (HS p sp O o SF nF SU (nU + 1)) (.ptr 2 0) = some (.slice (Rw Span.cells sp) .no) := by simp [HS]
 have e1 : oO sp (t : Int) = some s := by simp [oO, hs]
 have hne : SU ≠ [] := by intro e; subst e; simp at hU
 have hi := Qq (id := 9) (Nat.succ_pos nU) hU
 have ld : kV false 1 (HS p sp O o SF nF SU (nU + 1)) (.vptr 9 SU.length 1) = some (.int .i64 (rt SU 0).last) := by
  have e9 : (HS p sp O o SF nF SU (nU + 1))[9]? = some (Vc pL.cells 2 SU) := by unfold HS UV; rw [if_neg hne]; rfl
  have := AD (enc := pL.cells) (sz := 2) (h := HS p sp O o SF nF SU (nU + 1)) (id := 9) (xs := SU) (tot := SU.length) (j := 0) (off := 1) (fun _ => rfl) e9 (by omega)
  rw [Nat.zero_mul, Nat.zero_add, s6, if_pos rfl, A0 (List.length_pos_iff.2 hne)] at this
  exact this
 have k1 : KK 92 [.ptr 8 0] (HS p sp O o SF nF SU (nU + 1)) = some (.ret (.agg [.int .i64 (rt SU 0).slot, .int .i64 (rt SU 0).last]), HS p sp O o SF nF SU' nU) := k1
 have j1 : KK 91 [.ptr 6 0, .int .i64 (rt SU 0).slot] (HS p sp O o SF nF SU' nU) = some (.ret (.tuple []), HS p sp O o SF' (nF + 1) SU' nU) := j1
 generalize HS p sp O o SF nF SU (nU + 1) = H at *
 generalize HS p sp O o SF nF SU' nU = H1 at *
 generalize HS p sp O o SF' (nF + 1) SU' nU = H2 at *
 simp [Ck, l8, l2, hl, ht, hi, ld, e1, h, k1, j1, -mD, -sU]
end
end Go.Proofs.YtkeoalhglkfbkaaDoor


namespace Go.Proofs.YtkeoalhglkfbkaaDoor
open Go Hk
def pr (l : List pL) : List (Int × Int) := l.map fun x => (x.slot, x.last)
structure HG (N : Nat) (SF : List Int) (nF : Nat) (SU : List pL) (nU : Nat) : Prop where
 f1 : nF ≤ SF.length
 f2 : SF.length ≤ N
 f3 : PQ.kT (fun x => x) (SF.take nF)
 u1 : nU ≤ SU.length
 u2 : SU.length ≤ N
 u3 : PQ.kT pL.last (SU.take nU)
theorem Qm {e : Nat → Int} {ps : List (Nat × Nat)} {n : Nat} {F : List Int} {U : List (Int × Int)} {cur : Int} (h : PS.PI e ps n F U cur) : F.length + U.length = n := by
 have := h.perm.length_eq
 simpa using this
section
variable {p : List kR} (hp : ∀ m h, mP m h p = some p) {sp : List Span} {O o : List Int} {N t k ns : Nat} {s : Span} {e : Nat → Int} {ps : List (Nat × Nat)}
include hp
theorem T_ (hs : sp[t]? = some s) (hN : N ≤ 1000000) (hns : ns ≤ N) : ∀ (nU nF : Nat) (SF : List Int) (SU : List pL), HG N SF nF SU nU → PS.PI e ps ns (SF.take nF) (pr (SU.take nU)) s.first →
  ∃ SF' nF' SU' nU', mJ (Ck KK 10) ([.slice [] (.own 1), .int .i64 0, .int .i64 0, .ptr 2 0, .mslice 4 0 N 1, .ptr 6 0, .ptr 8 0, .int .i64 (ns : Int), .int .i64 (t : Int), Vs 5 1 o.length, .int .i64 (o.length : Int), .int .i64 (k : Int)], HS p sp O o SF nF SU nU) =
   some (.exit 4, [.slice [] (.own 1), .int .i64 0, .int .i64 0, .ptr 2 0, .mslice 4 0 N 1, .ptr 6 0, .ptr 8 0, .int .i64 (ns : Int), .int .i64 (t : Int), Vs 5 1 o.length, .int .i64 (o.length : Int), .int .i64 (k : Int)], HS p sp O o SF' nF' SU' nU') ∧
   HG N SF' nF' SU' nU' ∧ PS.PI e ps ns (SF'.take nF') (pr (SU'.take nU')) s.first ∧ ∀ x ∈ pr (SU'.take nU'), s.first ≤ x.2 := by
 intro nU
 induction nU with
 | zero =>
  intro nF SF SU hg hpi
  refine ⟨SF, nF, SU, 0, ?_, hg, hpi, by simp [pr]⟩
  rw [mE, NY hp hs hg.u1 (.inl rfl)]; rfl
 | succ nU ih =>
  intro nF SF SU hg hpi
  by_cases hlt : (rt SU 0).last < s.first
  ·obtain ⟨SF', SU', h1, h2, h3, h4, h5, h6, h7, h8⟩ := Ua hp (O := O) (o := o) (N := N) (k := k) (ns := ns) hs hg.u1 (by have := hg.u2; omega) hg.u3 hg.f1 (by have := hg.f2; omega) hg.f3 hlt
   have hc := Qm hpi
   simp only [pr, List.length_map, List.length_take] at hc
   have g1 := hg.f1
   have g2 := hg.u1
   have g3 := hg.f2
   have g4 := hg.u2
   have hpi' : PS.PI e ps ns (SF'.take (nF + 1)) (pr (SU'.take nU)) s.first := hpi.free (x := ((rt SU 0).slot, (rt SU 0).last)) (h4.map fun x : pL => (x.slot, x.last)) h8 hlt
   obtain ⟨SF2, nF2, SU2, nU2, r1, r2⟩ := ih (nF + 1) SF' SU' ⟨h5, by omega, h7, by omega, by omega, h3⟩ hpi'
   refine ⟨SF2, nF2, SU2, nU2, ?_, r2⟩
   rw [mE, h1]
   simp only [Option.bind_some, pC]
   exact r1
  ·refine ⟨SF, nF, SU, nU + 1, ?_, hg, hpi, fun x hx => ?_⟩
   ·rw [mE, NY hp hs hg.u1 (.inr ⟨by omega, hlt⟩)]; rfl
   ·obtain ⟨y, hy, rfl⟩ := List.mem_map.1 hx
    obtain ⟨j, hj⟩ := List.getElem?_of_mem hy
    have hjl : j < (SU.take (nU + 1)).length := (List.getElem?_eq_some_iff.1 hj).1
    have hmin := PQ.KM hg.u3 j hjl
    have hn := hg.u1
    rw [HR hn (by omega), PQ.NX hj] at hmin
    simp only
    omega
end
end Go.Proofs.YtkeoalhglkfbkaaDoor


namespace Go.Proofs.YtkeoalhglkfbkaaDoor
open Go Hk
theorem Wx {id : Nat} {S : List Int} {n : Nat} {C : Hk.kT} {c0 c1 c2 c3 c4 c5 : lW} : kV false 1 (c0 :: c1 :: c2 :: c3 :: c4 :: c5 :: FC id S n :: C) (.ptr 6 0) = some (FH id S n) := by simp [U9]
theorem Zs {S : List Int} {n : Nat} (hn : n ≤ S.length) (hh : PQ.kT (fun x => x) (S.take n)) : ∀ y ∈ S.take n, rd S 0 ≤ y := by
 intro y hy
 obtain ⟨j, hj⟩ := List.getElem?_of_mem hy
 have hjl : j < (S.take n).length := (List.getElem?_eq_some_iff.1 hj).1
 have hmin := PQ.KM hh j hjl
 have hjn : j < n := by rw [List.length_take] at hjl; omega
 rw [HQ hn (by omega), PQ.NX hj] at hmin
 exact hmin
theorem R5 {S : List Int} {n : Nat} (hn : n ≤ S.length) (h0 : 0 < n) : rd S 0 ∈ S.take n := by
 have : (S.take n)[0]? = some (rd S 0) := by rw [List.getElem?_take_of_lt h0, zY (by omega)]
 exact List.mem_of_getElem? this
structure L2 (N : Nat) (e : Nat → Int) (ps : List (Nat × Nat)) (ns : Nat) (SF : List Int) (nF : Nat) (SU : List pL) (nU : Nat) (cur : Int) : Prop where
 hg : HG N SF nF SU nU
 pi : PS.PI e ps ns (SF.take nF) (pr (SU.take nU)) cur
 b : ns ≤ N
section
variable {p : List kR} (hp : ∀ m h, mP m h p = some p) {sp : List Span} {O o : List Int} {N t k ns nF nU : Nat} {SF : List Int} {SU : List pL} {s : Span} {e : Nat → Int} {ps : List (Nat × Nat)} {cur : Int}
include hp
theorem Uc (hk : o[k]? = some (t : Int)) (hol : o.length ≤ 1000000) (hs : sp[t]? = some s) (hN : N ≤ 1000000) (ht : t < N) (hO : O.length = N) (hc : cur ≤ s.first) (hfl : s.first ≤ s.last) (he : e t = s.last) (hps : ps.length < N) (L : L2 N e ps ns SF nF SU nU cur) :
    ∃ (SF' : List Int) (nF' : Nat) (SU' : List pL) (nU' ns' : Nat), AO KK 10 ([.slice [] (.own 1), .int .i64 0, .int .i64 0, .ptr 2 0, .mslice 4 0 N 1, .ptr 6 0, .ptr 8 0, .int .i64 (ns : Int), Vs 5 1 o.length, .int .i64 (o.length : Int), .int .i64 (k : Int)], HS p sp O o SF nF SU nU) =
      some (.normal, [.slice [] (.own 1), .int .i64 0, .int .i64 0, .ptr 2 0, .mslice 4 0 N 1, .ptr 6 0, .ptr 8 0, .int .i64 (ns' : Int), Vs 5 1 o.length, .int .i64 (o.length : Int), .int .i64 ((k + 1 : Nat) : Int)], HS p sp (O.set t ((PS.pH e ps s.first : Nat) : Int)) o SF' nF' SU' nU') ∧
      L2 N e (ps ++ [(t, PS.pH e ps s.first)]) ns' SF' nF' SU' nU' s.first := by
  have hkl : k < o.length := (List.getElem?_eq_some_iff.1 hk).1
  have hnsN := L.b
  obtain ⟨SF1, nF1, SU1, nU1, e1, g1, p1, q1⟩ := T_ hp (O := O) (o := o) (k := k) hs hN hnsN nU nF SF SU L.hg (L.pi.later hc)
  have hsl := PS.Dh (e := e) ps s.first
  obtain ⟨SF2, nF2, ns2, f1, f2, f3, f4, f5, f6, fcode⟩ : ∃ (SF2 : List Int) (nF2 ns2 : Nat), nF2 + 1 ≤ SF2.length ∧ SF2.length ≤ N ∧ PQ.kT (fun x => x) (SF2.take (nF2 + 1)) ∧
      (SF2.take (nF2 + 1) ++ (pr (SU1.take nU1)).map (·.1)).Perm ((List.range ns2).map Int.ofNat) ∧ rd SF2 0 = ((PS.pH e ps s.first : Nat) : Int) ∧ ns2 = max ns (PS.pH e ps s.first + 1) ∧
      ((nF1 = 0 ∧ KK 91 [.ptr 6 0, .int .i64 (ns : Int)] (HS p sp O o SF1 nF1 SU1 nU1) = some (.ret (.tuple []), HS p sp O o SF2 (nF2 + 1) SU1 nU1) ∧ ns2 = ns + 1) ∨
       (0 < nF1 ∧ SF2 = SF1 ∧ nF2 + 1 = nF1 ∧ ns2 = ns)) := by
    have g11 := g1.f1
    have g12 := g1.f2
    rcases Nat.eq_zero_or_pos nF1 with h0 | h0
    · subst h0
      have hmore := PS.PI.more (by simpa using p1) q1
      obtain ⟨S', j1, j2, j3, j4, j5⟩ := c91 (b0 := .cells p) (b1 := .front 0 0) (b2 := .cells [.slice (Rw Span.cells sp) .no]) (b3 := .front 0 0) (b4 := .cells (O.map mR)) (b5 := Vb (ci .i64) 1 o) (b8 := UC 9 SU1 nU1) (b9 := UV SU1) (S := SF1) (n := 0) (ns : Int) (Nat.zero_le _) (by omega) g1.f3
      have hone : S'.take (0 + 1) = [(ns : Int)] := by
        simp only [List.take_zero] at j5
        exact List.perm_singleton.1 j5
      refine ⟨S', 0, ns + 1, j2, by omega, j4, ?_, ?_, by omega, .inl ⟨rfl, j1, rfl⟩⟩
      · have hp1 := p1.perm
        simp only [List.take_zero, List.nil_append] at hp1
        rw [hone, List.range_succ, List.map_append]
        exact (List.perm_append_comm (l₁ := [(ns : Int)])).trans (List.Perm.append_right _ hp1)
      · have := R5 (S := S') (n := 0 + 1) j2 (by omega)
        rw [hone] at this
        simp at this
        rw [this, hmore]
    · obtain ⟨m, rfl⟩ : ∃ m, nF1 = m + 1 := ⟨nF1 - 1, by omega⟩
      obtain ⟨h1, h2⟩ := p1.least (s := rd SF1 0) q1 (R5 g11 h0) (Zs g11 g1.f3)
      exact ⟨SF1, m, ns, g11, g12, g1.f3, p1.perm, h1, by omega, .inr ⟨h0, rfl, rfl, rfl⟩⟩
  generalize hslot : PS.pH e ps s.first = slot at *
  obtain ⟨SF3, t1, t2, t3, t4⟩ := c93 (b0 := .cells p) (b1 := .front 0 0) (b2 := .cells [.slice (Rw Span.cells sp) .no]) (b3 := .front 0 0) (b4 := .cells (O.map mR)) (b5 := Vb (ci .i64) 1 o) (b8 := UC 9 SU1 nU1) (b9 := UV SU1) f1 (by omega) f3
  have g13 := g1.u1
  have g14 := g1.u2
  obtain ⟨SU4, v1, v2, v3, v4, v5⟩ := c94 (b0 := .cells p) (b1 := .front 0 0) (b2 := .cells [.slice (Rw Span.cells sp) .no]) (b3 := .front 0 0) (b4 := .cells ((O.set t (slot : Int)).map mR)) (b5 := Vb (ci .i64) 1 o) (b8 := FC 7 SF3 nF2) (b9 := FV SF3) ⟨(slot : Int), s.last⟩ g13 (by omega) g1.u3
  have hcount : nU1 + 1 ≤ N := by
    have := f4.length_eq
    simp only [pr, List.length_append, List.length_map, List.length_take, List.length_range] at this
    omega
  refine ⟨SF3, nF2, SU4, nU1 + 1, ns2, ?_, ⟨⟨by omega, by omega, t3, v2, by omega, v4⟩, ?_, by omega⟩⟩
  · have t1 : KK 93 [.ptr 6 0] (HS p sp O o SF2 (nF2 + 1) SU1 nU1) = some (.ret (.int .i64 (slot : Int)), HS p sp O o SF3 nF2 SU1 nU1) := by rw [← f5]; exact t1
    have v1 : KK 94 [.ptr 8 0, .agg [.int .i64 (slot : Int), .int .i64 s.last]] (HS p sp (O.set t (slot : Int)) o SF3 nF2 SU1 nU1) = some (.ret (.tuple []), HS p sp (O.set t (slot : Int)) o SF3 nF2 SU4 (nU1 + 1)) := v1
    have ht := CI hp (sp := sp) (O := O.set t (slot : Int)) (o := o) (SF := SF3) (nF := nF2) (SU := SU4) (nU := nU1 + 1)
    have hlen : (HS p sp O o SF nF SU nU).length = 10 := rfl
    have hfl1 := Wy (id := 7) (n := nF1) (S := SF1) g1.f1
    have l6 : kV false 1 (HS p sp O o SF1 nF1 SU1 nU1) (.ptr 6 0) = some (FH 7 SF1 nF1) := Wx
    have lo : kV false 1 (HS p sp O o SF nF SU nU) (.vptr 5 o.length k) = some (.int .i64 (t : Int)) := by
      have ho : o.length ≠ 0 := by omega
      have e5 : (HS p sp O o SF nF SU nU)[5]? = some (Vc (ci .i64) 1 o) := by show some (Vb (ci .i64) 1 o) = _; rw [IB ho]
      have := AD (enc := ci .i64) (sz := 1) (h := HS p sp O o SF nF SU nU) (id := 5) (xs := o) (tot := o.length) (j := k) (off := 0) (fun _ => rfl) e5 (by omega)
      rw [Nat.mul_one, Nat.add_zero, s6, if_pos rfl, hk] at this
      exact this
    have hio : kY 1 (Vs 5 1 o.length) (.int .i64 (k : Int)) = some (.vptr 5 o.length k) := by
      rw [LP (by omega)]
      simp [kY, hkl]
    have Am : kY 1 (.mslice 4 0 N 1) (.int .i64 (t : Int)) = some (.ptr 4 t) := by simp [kY, ht]; omega
    have st : lU 1 (HS p sp O o SF3 nF2 SU1 nU1) (.ptr 4 t) (.int .i64 (slot : Int)) = some (HS p sp (O.set t (slot : Int)) o SF3 nF2 SU1 nU1) := agR (by omega)
    have ldt : kV false 1 (HS p sp (O.set t (slot : Int)) o SF3 nF2 SU1 nU1) (.ptr 4 t) = some (.int .i64 (slot : Int)) := by
      have h4 := agN (b0 := .cells p) (b1 := .front 0 0) (b2 := .cells [.slice (Rw Span.cells sp) .no]) (b3 := .front 0 0) (R := [Vb (ci .i64) 1 o, FC 7 SF3 nF2, FV SF3, UC 9 SU1 nU1, UV SU1]) (O := O.set t (slot : Int)) (k := t) (by simp; omega)
      have h5 : rd (O.set t (slot : Int)) t = (slot : Int) := by
        have := zY (S := O.set t (slot : Int)) (j := t) (by simp; omega)
        rw [List.getElem?_set_self (by omega)] at this
        exact (Option.some.inj this).symm
      rw [h5] at h4; exact h4
    have l2 : kV false 1 (HS p sp (O.set t (slot : Int)) o SF3 nF2 SU1 nU1) (.ptr 2 0) = some (.slice (Rw Span.cells sp) .no) := by simp [HS]
    have es : oO sp (t : Int) = some s := by simp [oO, hs]
    have w1 : IntKind.i64.wrap ((k : Int) + 1) = ((k + 1 : Nat) : Int) := by rw [wrap64 (by omega) (by omega)]; omega
    have w2 : IntKind.i64.wrap ((ns : Int) + 1) = ((ns + 1 : Nat) : Int) := by rw [wrap64 (by omega) (by omega)]; omega
    generalize HS p sp O o SF nF SU nU = H0 at *
    generalize HS p sp (O.set t (slot : Int)) o SF3 nF2 SU4 (nU1 + 1) = H5 at *
    generalize HS p sp (O.set t (slot : Int)) o SF3 nF2 SU1 nU1 = H4 at *
    generalize HS p sp O o SF3 nF2 SU1 nU1 = H3 at *
    rcases fcode with ⟨hn0, k1, hns2⟩ | ⟨hn0, hSF, hnF, hns2⟩
    · subst hns2
      subst hn0
      generalize HS p sp O o SF2 (nF2 + 1) SU1 nU1 = H2 at *
      generalize HS p sp O o SF1 0 SU1 nU1 = H1 at *
      simp [AO, hlen, hkl, hio, lo, e1, l6, hfl1, k1, t1, Am, st, ldt, l2, es, v1, ht, w1, w2, -mD, -sU, -oQ]
    · subst hns2
      subst hSF
      subst hnF
      generalize HS p sp O o SF2 (nF2 + 1) SU1 nU1 = H1 at *
      have hz : ¬ ((nF2 : Int) + 1 = 0) := by omega
      simp [hz, AO, hlen, hkl, hio, lo, e1, l6, hfl1, t1, Am, st, ldt, l2, es, v1, ht, w1, w2, -mD, -sU, -oQ]
  · have hpi := p1.ahM (t := t) (n' := ns2) (F' := SF3.take nF2) (U' := pr (SU4.take (nU1 + 1))) ?_ ?_ ?_ ?_
    · rw [hslot] at hpi; exact hpi
    · have h1 : (pr (SU4.take (nU1 + 1))).Perm (pr (⟨(slot : Int), s.last⟩ :: SU1.take nU1)) := v5.map _
      have h2 : ((SF3.take nF2) ++ (pr (SU4.take (nU1 + 1))).map (·.1)).Perm ((SF3.take nF2) ++ (slot : Int) :: (pr (SU1.take nU1)).map (·.1)) := List.Perm.append_left _ (h1.map _)
      refine h2.trans (List.perm_middle.trans ?_)
      rw [← f5]
      exact (List.Perm.append_right _ t4).trans f4
    · rw [hslot, he]; exact v5.map _
    · rw [hslot]; exact f6
    · rw [he]; exact hfl
end
end Go.Proofs.YtkeoalhglkfbkaaDoor


namespace Go.Proofs.YtkeoalhglkfbkaaDoor
open Go Hk
def fS (sp : List Span) (t : Nat) : Int := ((sp[t]?).map (·.first)).getD (-1)
def eS (sp : List Span) (t : Nat) : Int := ((sp[t]?).map (·.last)).getD (-1)
def He (sp : List Span) (x : Int) : Int := (vQ (Rw Span.cells sp) x).getD 0
theorem Li {sp : List Span} {t : Nat} (h : t < sp.length) : vQ (Rw Span.cells sp) (t : Int) = some (fS sp t) := by
 unfold vQ fS Rw
 rw [if_pos (by omega)]
 simp [List.getElem?_eq_getElem h]
theorem NV {sp : List Span} {t : Nat} (h : t < sp.length) : He sp (t : Int) = fS sp t := by unfold He; rw [Li h]; rfl
def rR (sp : List Span) : List Int := y_ (p6 (He sp)) (qU sp sp.length)
def nB (sp : List Span) : List Nat := (rR sp).map Int.toNat
theorem La {sp : List Span} {x : Int} : x ∈ qU sp sp.length ↔ ∃ t : Nat, x = (t : Int) ∧ t < sp.length ∧ 0 ≤ fS sp t := by
 unfold qU fS
 rw [List.mem_map]
 constructor
 ·rintro ⟨t, ht, rfl⟩
  rw [List.mem_filter, List.mem_range, decide_eq_true_eq] at ht
  exact ⟨t, rfl, ht.1, ht.2⟩
 ·rintro ⟨t, rfl, h1, h2⟩
  exact ⟨t, by rw [List.mem_filter, List.mem_range, decide_eq_true_eq]; exact ⟨h1, h2⟩, rfl⟩
theorem AT {sp : List Span} {x : Int} : x ∈ rR sp ↔ ∃ t : Nat, x = (t : Int) ∧ t < sp.length ∧ 0 ≤ fS sp t := by
 unfold rR; rw [sC.mem_iff, La]
theorem RS {sp : List Span} : (rR sp).length ≤ sp.length := by
 unfold rR; rw [sC.length_eq]; exact Jz
theorem N6 {sp : List Span} : rR sp = (nB sp).map Int.ofNat := by
 unfold nB
 rw [List.map_map]
 have : ∀ x ∈ rR sp, (Int.ofNat ∘ Int.toNat) x = x := by
  intro x hx
  obtain ⟨t, rfl, _⟩ := AT.1 hx
  rfl
 rw [List.map_congr_left this, List.map_id']
theorem q7 {sp : List Span} {t : Nat} : t ∈ nB sp ↔ t < sp.length ∧ 0 ≤ fS sp t := by
 unfold nB
 rw [List.mem_map]
 constructor
 ·rintro ⟨x, hx, rfl⟩
  obtain ⟨t, rfl, h1, h2⟩ := AT.1 hx
  exact ⟨h1, h2⟩
 ·rintro ⟨h1, h2⟩
  exact ⟨(t : Int), AT.2 ⟨t, rfl, h1, h2⟩, rfl⟩
theorem Lb {sp : List Span} : (nB sp).length ≤ sp.length := by unfold nB; rw [List.length_map]; exact RS
theorem xL {sp : List Span} : (nB sp).Pairwise fun a b => fS sp a < fS sp b ∨ fS sp a = fS sp b ∧ a ≤ b := by
 have h := Dj (key := He sp) (l := qU sp sp.length)
 have h2 : (rR sp).Pairwise fun a b => p6 (He sp) a b = true := h
 unfold nB
 rw [List.pairwise_map]
 refine List.Pairwise.imp_of_mem ?_ h2
 intro a b ha hb hab
 obtain ⟨t, rfl, ht, _⟩ := AT.1 ha
 obtain ⟨u, rfl, hu, _⟩ := AT.1 hb
 simp only [p6, Bool.or_eq_true, Bool.and_eq_true, decide_eq_true_eq, NV ht, NV hu] at hab
 simp only [Int.toNat_natCast]
 omega
theorem zU {sp : List Span} : (nB sp).Nodup := by
 have h : (qU sp sp.length).Nodup := by
  unfold qU
  rw [List.nodup_iff_pairwise_ne, List.pairwise_map]
  refine (List.nodup_iff_pairwise_ne.1 (List.Pairwise.filter _ (List.nodup_range (n := sp.length)))).imp ?_
  intro a b hab hc; exact hab (Int.ofNat.inj hc)
 have h2 : (rR sp).Nodup := (sC.nodup_iff).2 h
 rw [N6] at h2
 rw [List.nodup_iff_pairwise_ne, List.pairwise_map] at h2
 rw [List.nodup_iff_pairwise_ne]
 exact h2.imp fun h e => h (by rw [e])
def tO (n : Nat) (ps : List (Nat × Nat)) : List Int := ps.foldl (fun O q => O.set q.1 (q.2 : Int)) (List.replicate n (-1))
theorem sY {n : Nat} {ps : List (Nat × Nat)} : (tO n ps).length = n := by
 induction ps using PS.u7 with
 | h0 => simp [tO]
 | h1 l q ih => unfold tO at ih ⊢; rw [List.foldl_append]; simpa using ih
theorem AU {n : Nat} {ps : List (Nat × Nat)} {q : Nat × Nat} : tO n (ps ++ [q]) = (tO n ps).set q.1 (q.2 : Int) := by simp [tO]
section
variable {p : List kR} (hp : ∀ m h, mP m h p = some p) {sp : List Span} {n : Nat}
include hp
theorem T8 (hn : sp.length = n) (hn2 : n ≤ 1000000) : ∀ (d k : Nat), n = k + d →
  mJ (AM KK 6) ([.slice [] (.own 1), .int .i64 0, .int .i64 0, .ptr 2 0, .mslice 4 0 n 1, Vs 5 1 (qU sp k).length, .slice (Rw Span.cells sp) .no, .int .i64 (n : Int), .int .i64 (k : Int)], Hu p sp (rV n k) (qU sp k)) =
   some (.exit 0, [.slice [] (.own 1), .int .i64 0, .int .i64 0, .ptr 2 0, .mslice 4 0 n 1, Vs 5 1 (qU sp n).length, .slice (Rw Span.cells sp) .no, .int .i64 (n : Int), .int .i64 (n : Int)], Hu p sp (rV n n) (qU sp n)) := by
 intro d
 induction d with
 | zero =>
  intro k hk
  obtain rfl : k = n := by omega
  rw [mE]
  have : AM KK 6 ([.slice [] (.own 1), .int .i64 0, .int .i64 0, .ptr 2 0, .mslice 4 0 k 1, Vs 5 1 (qU sp k).length, .slice (Rw Span.cells sp) .no, .int .i64 (k : Int), .int .i64 (k : Int)], Hu p sp (rV k k) (qU sp k)) =
   some (.exit 0, [.slice [] (.own 1), .int .i64 0, .int .i64 0, .ptr 2 0, .mslice 4 0 k 1, Vs 5 1 (qU sp k).length, .slice (Rw Span.cells sp) .no, .int .i64 (k : Int), .int .i64 (k : Int)], Hu p sp (rV k k) (qU sp k)) := by
   simp [AM, Hu, hp, -List.map_set]
  rw [this]; rfl
 | succ d ih =>
  intro k hk
  rw [mE, T9 hp hn hn2 (by omega)]
  simp only [Option.bind_some, pC]
  exact ih (k + 1) (by omega)
end
end Go.Proofs.YtkeoalhglkfbkaaDoor


namespace Go.Proofs.YtkeoalhglkfbkaaDoor
open Go Hk
theorem NI (o : List Int) : (Rw (ci .i64) o).flatten = o.map mR := by
 induction o with
 | nil => rfl
 | cons y s ih => simp only [Rw, List.map_cons, List.flatten_cons] at ih ⊢; rw [ih]; rfl
theorem LY (o : List Int) : D9 (o.map mR) = some o := by
 induction o with
 | nil => rfl
 | cons y s ih => simp only [List.map_cons, mR, D9] at ih ⊢; rw [ih]; rfl
theorem c85 {p : List kR} {sp : List Span} {O : List Int} (hn : sp.length ≤ 1000000) :
  KK 85 [kR.k8 (Vs 5 1 (qU sp sp.length).length), kR.k8 (.func 86 [] [.ptr 2 0])] (Hu p sp O (qU sp sp.length)) = some (.ret (.tuple []), Hu p sp O (rR sp)) := by
 have e : KK 85 [kR.k8 (Vs 5 1 (qU sp sp.length).length), kR.k8 (.func 86 [] [.ptr 2 0])] (Hu p sp O (qU sp sp.length)) = Eu 86 [kR.k8 (Vs 5 1 (qU sp sp.length).length), .func 86 [] [.ptr 2 0]] (Hu p sp O (qU sp sp.length)) := by
  show EP Tryd.prog nC 85 _ _ = _
  rw [IU]; rfl
 rw [e]
 have hmem : ∀ x ∈ qU sp sp.length, ∃ t : Nat, x = (t : Int) ∧ t < sp.length := fun x hx => by
  obtain ⟨t, h1, h2, _⟩ := La.1 hx; exact ⟨t, h1, h2⟩
 have hle := Jz (sp := sp) (k := sp.length)
 have hord : rR sp = y_ (p6 (He sp)) (qU sp sp.length) := rfl
 rw [hord]
 generalize qU sp sp.length = o at *
 by_cases h0 : o.length = 0
 ·have : o = [] := List.eq_nil_of_length_eq_zero h0
  subst this
  rfl
 ·have hvs : kR.k8 (Vs 5 1 o.length) = .vslice 5 o.length 0 o.length 1 := by rw [LP h0]; rfl
  have hvb : Hu p sp O o = [.cells p, .front 0 0, .cells [.slice (Rw Span.cells sp) .no], .front 0 0, .cells (O.map mR), .vec o.length 1 (o.map mR)] := by
   unfold Hu; rw [IB h0, Vc, NI]
  have hall : ((Rw Span.cells sp).all fun r => r.length == 2) = true := by simp [Rw, Span.cells]
  have hkey : (o.all fun x => (vQ (Rw Span.cells sp) x).isSome) = true := by
   rw [List.all_eq_true]
   intro x hx
   obtain ⟨t, rfl, ht⟩ := hmem x hx
   rw [Li ht]; rfl
  have hsl : (y_ (p6 (He sp)) o).length = o.length := sC.length_eq
  rw [hvs, hvb]
  have htk : D9 ((o.map mR).take o.length) = some o := by rw [List.take_of_length_le (by simp), LY]
  have hg : nA [.cells p, .front 0 0, .cells [.slice (Rw Span.cells sp) .no], .front 0 0, .cells (O.map mR), .vec o.length 1 (o.map mR)] 5 o.length = some (1, o.map mR) := by simp [nA]
  have h2 : ([.cells p, .front 0 0, .cells [.slice (Rw Span.cells sp) .no], .front 0 0, .cells (O.map mR), .vec o.length 1 (o.map mR)] : Hk.kT)[2]? = some (.cells [.slice (Rw Span.cells sp) .no]) := rfl
  have hc0 : ([.slice (Rw Span.cells sp) .no] : List kR)[0]? = some (.slice (Rw Span.cells sp) .no) := rfl
  simp only [Eu, hg, h2, hc0, htk]
  rw [if_pos ⟨trivial, by omega, trivial, by omega, by simp, by omega, hall, hkey⟩]
  have hvb2 : Hu p sp O (y_ (p6 (He sp)) o) = [.cells p, .front 0 0, .cells [.slice (Rw Span.cells sp) .no], .front 0 0, .cells (O.map mR), .vec o.length 1 ((y_ (p6 (He sp)) o).map mR)] := by
   unfold Hu; rw [IB (by omega), Vc, NI, hsl]
  rw [hvb2]
  have hpc : putCells (o.map mR) 0 ((y_ (p6 fun x => (vQ (Rw Span.cells sp) x).getD 0) o).map (kR.int .i64)) = (y_ (p6 (He sp)) o).map mR := by
   unfold putCells
   rw [List.take_zero, List.nil_append, Nat.zero_add, List.drop_eq_nil_of_le (by rw [List.length_map, List.length_map]; have : (y_ (p6 fun x => (vQ (Rw Span.cells sp) x).getD 0) o).length = o.length := sC.length_eq; omega), List.append_nil]
   rfl
  rw [hpc]; rfl
section
variable {p : List kR} (hp : ∀ m h, mP m h p = some p) {sp : List Span} {n : Nat}
include hp
theorem Ub (hn : sp.length = n) (hn2 : n ≤ 1000000) (hfe : ∀ s ∈ sp, 0 ≤ s.first → s.first ≤ s.last) : ∀ (d k : Nat) (SF : List Int) (nF : Nat) (SU : List pL) (nU ns : Nat) (cur : Int), (nB sp).length = k + d →
  (∀ j, k ≤ j → (h : j < (nB sp).length) → cur ≤ fS sp (nB sp)[j]) → L2 n (eS sp) (PS.gS (fS sp) (eS sp) ((nB sp).take k)) ns SF nF SU nU cur →
  ∃ (SF' : List Int) (nF' : Nat) (SU' : List pL) (nU' : Nat), mJ (AO KK 10) ([.slice [] (.own 1), .int .i64 0, .int .i64 0, .ptr 2 0, .mslice 4 0 n 1, .ptr 6 0, .ptr 8 0, .int .i64 (ns : Int), Vs 5 1 (rR sp).length, .int .i64 ((rR sp).length : Int), .int .i64 (k : Int)], HS p sp (tO n (PS.gS (fS sp) (eS sp) ((nB sp).take k))) (rR sp) SF nF SU nU) =
   some (.exit 2, [.slice [] (.own 1), .int .i64 0, .int .i64 0, .ptr 2 0, .mslice 4 0 n 1, .ptr 6 0, .ptr 8 0, .int .i64 ((PS.nS (PS.gS (fS sp) (eS sp) (nB sp)) : Nat) : Int), Vs 5 1 (rR sp).length, .int .i64 ((rR sp).length : Int), .int .i64 ((nB sp).length : Int)], HS p sp (tO n (PS.gS (fS sp) (eS sp) (nB sp))) (rR sp) SF' nF' SU' nU') := by
 have hol : (rR sp).length = (nB sp).length := by unfold nB; simp
 intro d
 induction d with
 | zero =>
  intro k SF nF SU nU ns cur hk _ L
  have hk' : k = (nB sp).length := by omega
  rw [hk', List.take_length] at L ⊢
  refine ⟨SF, nF, SU, nU, ?_⟩
  have hns : ns = PS.nS (PS.gS (fS sp) (eS sp) (nB sp)) := L.pi.num
  rw [← hns, mE]
  have ht := CI hp (sp := sp) (O := tO n (PS.gS (fS sp) (eS sp) (nB sp))) (o := rR sp) (SF := SF) (nF := nF) (SU := SU) (nU := nU)
  generalize HS p sp (tO n (PS.gS (fS sp) (eS sp) (nB sp))) (rR sp) SF nF SU nU = H at *
  have : AO KK 10 ([.slice [] (.own 1), .int .i64 0, .int .i64 0, .ptr 2 0, .mslice 4 0 n 1, .ptr 6 0, .ptr 8 0, .int .i64 (ns : Int), Vs 5 1 (rR sp).length, .int .i64 ((rR sp).length : Int), .int .i64 ((nB sp).length : Int)], H) =
   some (.exit 2, [.slice [] (.own 1), .int .i64 0, .int .i64 0, .ptr 2 0, .mslice 4 0 n 1, .ptr 6 0, .ptr 8 0, .int .i64 (ns : Int), Vs 5 1 (rR sp).length, .int .i64 ((rR sp).length : Int), .int .i64 ((nB sp).length : Int)], H) := by
   simp [AO, hol, ht]
  rw [this]; rfl
 | succ d ih =>
  intro k SF nF SU nU ns cur hk hcur L
  have hkl : k < (nB sp).length := by omega
  obtain ⟨ht1, ht2⟩ := q7.1 (List.getElem_mem hkl)
  have hsp : sp[(nB sp)[k]]? = some sp[(nB sp)[k]] := List.getElem?_eq_getElem ht1
  have hf : fS sp (nB sp)[k] = sp[(nB sp)[k]].first := by unfold fS; rw [hsp]; rfl
  have he : eS sp (nB sp)[k] = sp[(nB sp)[k]].last := by unfold eS; rw [hsp]; rfl
  have hok : (rR sp)[k]? = some (((nB sp)[k] : Nat) : Int) := by
   rw [N6, List.getElem?_map, List.getElem?_eq_getElem hkl]; rfl
  have hlen : (PS.gS (fS sp) (eS sp) ((nB sp).take k)).length = k := by
   rw [← List.length_map (f := (·.1)), PS.wX, List.length_take]; omega
  have hsl := Lb (sp := sp)
  obtain ⟨SF', nF', SU', nU', ns', h1, h2⟩ := Uc hp (O := tO n (PS.gS (fS sp) (eS sp) ((nB sp).take k))) (o := rR sp) hok (by omega) hsp hn2 (by omega) sY (by have := hcur k (Nat.le_refl _) hkl; omega) (hfe _ (List.getElem_mem ht1) (by omega)) he (by omega) L
  have hstep : PS.gS (fS sp) (eS sp) ((nB sp).take (k + 1)) = PS.gS (fS sp) (eS sp) ((nB sp).take k) ++ [((nB sp)[k], PS.pH (eS sp) (PS.gS (fS sp) (eS sp) ((nB sp).take k)) sp[(nB sp)[k]].first)] := by
   rw [List.take_succ_eq_append_getElem hkl, PS.wG, hf]
  rw [← hstep] at h2
  obtain ⟨SF2, nF2, SU2, nU2, h3⟩ := ih (k + 1) SF' nF' SU' nU' ns' _ (by omega) (fun j hj hjl => by
   have := List.pairwise_iff_getElem.1 (xL (sp := sp)) k j hkl hjl (by omega)
   rw [← hf]
   omega) h2
  refine ⟨SF2, nF2, SU2, nU2, ?_⟩
  rw [mE, h1]
  simp only [Option.bind_some, pC]
  rw [hstep, AU] at h3
  exact h3
end
end Go.Proofs.YtkeoalhglkfbkaaDoor


namespace Go.Proofs.YtkeoalhglkfbkaaDoor
open Go Hk
def J6 (sp : List Span) : List (Nat × Nat) := PS.gS (fS sp) (eS sp) (nB sp)
def A3 (sp : List Span) : List Int := tO sp.length (J6 sp)
def EK (sp : List Span) : Int := ((PS.nS (J6 sp) : Nat) : Int)
theorem Pw {n : Nat} {f e : Nat → Int} : rV n n = tO n (PS.gS f e []) := by simp [rV, tO, PS.gS]
theorem JE (O : List Int) : mU (O.map mR) = some (O.map mR) := by
 induction O with
 | nil => rfl
 | cons x r ih => simp only [List.map_cons, mU, ih]; rfl
theorem Lj (O : List Int) : rowsOf O.length 1 (O.map mR) = Rw (ci .i64) O := by
 induction O with
 | nil => rfl
 | cons x r ih => simp only [List.length_cons, List.map_cons, rowsOf, List.take_succ_cons, List.take_zero, List.drop_succ_cons, List.drop_zero, ih]; rfl
theorem US {b0 b1 b2 b3 : lW} {R : Hk.kT} {O : List Int} {n : Nat} (hO : O.length = n) : kR.nM 0 (b0 :: b1 :: b2 :: b3 :: .cells (O.map mR) :: R) (.mslice 4 0 n 1) = .slice (Rw (ci .i64) O) .no := by
 subst hO
 have g : (b0 :: b1 :: b2 :: b3 :: .cells (O.map mR) :: R : Hk.kT)[4]? = some (.cells (O.map mR)) := rfl
 have ht : (((O.map mR).drop 0).take (O.length * 1)) = O.map mR := by rw [List.drop_zero, Nat.mul_one, List.take_of_length_le (by simp)]
 simp only [kR.nM, g, ht, JE]
 simp [Lj]
@[simp] theorem VU {f : Nat} {x y : List kR} : kR.oI (.func f x y) = false := (rfl)
@[simp] theorem L4 {f : Nat} {x y : List kR} : kR.cells (.func f x y) = [.func f x y] := (rfl)
theorem Lx {i f : Nat} : mV i [.slice [] .nil, .func f [] []] = ([.slice [] (.own i), .func f [] []], [.front 0 0]) := rfl
theorem c47 {p : IR} {sp : List Span} {n : Nat} (hn : sp.length = n) (hn2 : n ≤ 1000000) (hfe : ∀ s ∈ sp, 0 ≤ s.first → s.first ≤ s.last)
  (h45 : ∀ h, KK 45 [.agg [.int .i64 p.temps, .slice (Rw mK.cells p.arrays) .no, .slice (Rw lX.cells p.blocks) .no, .int .i64 p.inn, .int .i64 p.out]] h = some (.ret (.tuple [.slice (Rw Span.cells sp) .no, .int .i64 0]), h)) (h : Hk.kT) :
  KK 47 [.agg [.int .i64 p.temps, .slice (Rw mK.cells p.arrays) .no, .slice (Rw lX.cells p.blocks) .no, .int .i64 p.inn, .int .i64 p.out]] h =
   some (.ret (.tuple [.slice (Rw (ci .i64) (A3 sp)) .no, .int .i64 (EK sp), .int .i64 0]), h) := by
 refine lZ rfl rfl (mN (Ry _ _ _) ?_)
 have hp : ∀ m h, mP m h [.int .i64 p.temps, .slice (Rw mK.cells p.arrays) .no, .slice (Rw lX.cells p.blocks) .no, .int .i64 p.inn, .int .i64 p.out] = some [.int .i64 p.temps, .slice (Rw mK.cells p.arrays) .no, .slice (Rw lX.cells p.blocks) .no, .int .i64 p.inn, .int .i64 p.out] := fun m h => by simp
 have hl0 := T8 hp (sp := sp) (n := n) hn hn2 n 0 (by omega)
 have hs := c85 (p := [.int .i64 p.temps, .slice (Rw mK.cells p.arrays) .no, .slice (Rw lX.cells p.blocks) .no, .int .i64 p.inn, .int .i64 p.out]) (sp := sp) (O := rV n n) (by omega)
 obtain ⟨SF, nF, SU, nU, hl2⟩ := Ub hp hn hn2 hfe (nB sp).length 0 [] 0 [] 0 0 0 (by omega) (fun j _ hj => (q7.1 (List.getElem_mem hj)).2)
  ⟨⟨Nat.le_refl _, Nat.zero_le _, fun j _ hj => by simp at hj, Nat.le_refl _, Nat.zero_le _, fun j _ hj => by simp at hj⟩, PS.PI.empty 0, Nat.zero_le _⟩
 have hmk : ∀ H : Hk.kT, H.length = 4 → pD 1 8 [.int .i64 0] (.int .i64 (n : Int)) H = some (.mslice 4 0 n 1, H ++ [.cells ((rV n 0).map mR)]) := by
  intro H hH
  unfold pD
  simp only [Int.toNat_natCast]
  rw [if_pos ⟨by omega, by omega, by omega⟩, hH]
  have : (List.replicate n [kR.int .i64 0]).flatten = (rV n 0).map mR := by
   simp [rV, mR]
  rw [this]
 subst hn
 have hle : (qU sp sp.length).length = (rR sp).length := sC.length_eq.symm
 rw [hle] at hl0 hs
 have hl0' : mJ (AM KK 6) ([.slice [] (.own 1), .int .i64 0, .int .i64 0, .ptr 2 0, .mslice 4 0 sp.length 1, .slice [] (.own 5), .slice (Rw Span.cells sp) .no, .int .i64 (sp.length : Int), .int .i64 0], [.cells [.int .i64 p.temps, .slice (Rw mK.cells p.arrays) .no, .slice (Rw lX.cells p.blocks) .no, .int .i64 p.inn, .int .i64 p.out], .front 0 0, .cells [.slice (Rw Span.cells sp) .no], .front 0 0, .cells ((rV sp.length 0).map mR), .front 0 0]) = some (.exit 0, [.slice [] (.own 1), .int .i64 0, .int .i64 0, .ptr 2 0, .mslice 4 0 sp.length 1, Vs 5 1 (rR sp).length, .slice (Rw Span.cells sp) .no, .int .i64 (sp.length : Int), .int .i64 (sp.length : Int)], Hu [.int .i64 p.temps, .slice (Rw mK.cells p.arrays) .no, .slice (Rw lX.cells p.blocks) .no, .int .i64 p.inn, .int .i64 p.out] sp (rV sp.length sp.length) (qU sp sp.length)) := hl0
 have hl2' : mJ (AO KK 10) ([.slice [] (.own 1), .int .i64 0, .int .i64 0, .ptr 2 0, .mslice 4 0 sp.length 1, .ptr 6 0, .ptr 8 0, .int .i64 0, Vs 5 1 (rR sp).length, .int .i64 ((rR sp).length : Int), .int .i64 0],
  [.cells [.int .i64 p.temps, .slice (Rw mK.cells p.arrays) .no, .slice (Rw lX.cells p.blocks) .no, .int .i64 p.inn, .int .i64 p.out], .front 0 0, .cells [.slice (Rw Span.cells sp) .no], .front 0 0, .cells ((rV sp.length sp.length).map mR), Vb (ci .i64) 1 (rR sp), .cells [.slice [] (.own 7), .func 89 [] []], .front 0 0, .cells [.slice [] (.own 9), .func 90 [] []], .front 0 0]) =
  some (.exit 2, [.slice [] (.own 1), .int .i64 0, .int .i64 0, .ptr 2 0, .mslice 4 0 sp.length 1, .ptr 6 0, .ptr 8 0, .int .i64 (EK sp), Vs 5 1 (rR sp).length, .int .i64 ((rR sp).length : Int), .int .i64 ((nB sp).length : Int)], HS [.int .i64 p.temps, .slice (Rw mK.cells p.arrays) .no, .slice (Rw lX.cells p.blocks) .no, .int .i64 p.inn, .int .i64 p.out] sp (A3 sp) (rR sp) SF nF SU nU) := by
   rw [Pw (f := fS sp) (e := eS sp)]; exact hl2
 have hfin := fun b0 b1 b2 b3 R => US (b0 := b0) (b1 := b1) (b2 := b2) (b3 := b3) (R := R) (O := A3 sp) (n := sp.length) sY
 have hs' : KK 85 [kR.k8 (Vs 5 1 (rR sp).length), kR.k8 (.func 86 [] [.ptr 2 0])] (Hu [.int .i64 p.temps, .slice (Rw mK.cells p.arrays) .no, .slice (Rw lX.cells p.blocks) .no, .int .i64 p.inn, .int .i64 p.out] sp (rV sp.length sp.length) (qU sp sp.length)) = some (.ret (.tuple []), [.cells [.int .i64 p.temps, .slice (Rw mK.cells p.arrays) .no, .slice (Rw lX.cells p.blocks) .no, .int .i64 p.inn, .int .i64 p.out], .front 0 0, .cells [.slice (Rw Span.cells sp) .no], .front 0 0, .cells ((rV sp.length sp.length).map mR), Vb (ci .i64) 1 (rR sp)]) := hs
 clear hl0 hs hl2
 generalize Hu [.int .i64 p.temps, .slice (Rw mK.cells p.arrays) .no, .slice (Rw lX.cells p.blocks) .no, .int .i64 p.inn, .int .i64 p.out] sp (rV sp.length sp.length) (qU sp sp.length) = H0 at *
 simp [m47, h45, hmk, hl0', -List.map_set, hs', Fw, hl2', HS, Lx]
 simp only [kR.oM, List.map_cons, List.map_nil, hfin]
 rfl
end Go.Proofs.YtkeoalhglkfbkaaDoor


namespace Go.Proofs.YtkeoalhglkfbkaaDoor
open Go Hk
noncomputable def Ru (mm : Nat) (aA : R) : Option (n_ × kT) :=
 (fun aB aC aD => Ex.nV aA.1 (nE mm (.tuple [aB, aC]) aD)) (gd aA.2.1 0) (gd aA.2.1 1) aA.2.2
theorem YN (n : Int) (h : kT) : oK 2 16 [(.int .i64 0), (.int .i64 0)] (.int .i64 n) h = tm (Sx 16 ((⟨0, 0⟩ : Span) : Span) n) fun l => (.vslice h.length l.length 0 l.length 2, h ++ [Vc Span.cells 2 l]) := xY rfl
theorem ZB (y0 : Int) (y1 : Int) (h : kT) (id tot j : Nat) (xs : List Span) : Oe 2 id h (some (Vc Span.cells 2 xs)) tot (j * 2) (.agg [(.int .i64 y0), (.int .i64 y1)]) = tb (s6 tot xs j) fun x => tm (Au tot xs j (⟨y0, y1⟩ : Span)) fun zs => h.set id (Vc Span.cells 2 zs) := SJ (enc := Span.cells) (⟨y0, y1⟩ : Span) (fun _ => rfl) (by decide) rfl rfl
noncomputable def Ji (K : k9) (m : Nat) (s : List kR × kT) : Option R :=
 (fun aD aE aF aG aH aC aB aA aI => bo .lss aA aB fun aK => lG aK ((nO [(.int .i64 0), (.int .i64 0)] [(0, 1), (1, 1)] [(0, (.int .i64 (-1))), (1, (.int .i64 (-1)))]).bind fun aL => ix 2 aC aA fun aM => (lU 2 aI aM aL).bind fun aJ => bo .add aA (.int .i64 1) fun aN => lC m .normal [aD, aE, aF, aG, aH, aC, aB, aN] aJ) (lC m (.exit 0) [aD, aE, aF, aG, aH, aC, aB, aA] aI)) (gd s.1 0) (gd s.1 1) (gd s.1 2) (gd s.1 3) (gd s.1 4) (gd s.1 5) (gd s.1 6) (gd s.1 7) s.2
noncomputable def DY (aB : (List Span)) (aE : Int) (aA : Int × (List Span)) : Option (Ey × Int × (List Span)) :=
 tc (decide (aA.1 < aE)) (tb ((BM (List.length aB) aA.1)) fun aC => tb ((s6 (List.length aB) aA.2 aC)) fun aF => tb ((Au (List.length aB) aA.2 aC (⟨(-1), (-1)⟩ : Span))) fun aD => some (.n, ((IntKind.wrap .i64 (aA.1 + 1)), aD))) (some ((.x 0), (aA.1, aA.2)))
theorem W1 (w40 : (List (List Int))) (w41 : (List (List Int))) (l38 : (List Span)) (w44 : Int) (p0 : IR) (s45 : Int × (List Span)) : Ji KK 3 ([(.ptr 0 0), (.slice (Rw Span.cells []) (.own 1)), (.int .i64 0), (.slice (Rw (wV (ci .i64)) w40) .no), (.slice (Rw (wV (ci .i64)) w41) .no), (.vslice 2 (List.length l38) 0 (List.length l38) 2), (.int .i64 w44), (.int .i64 s45.1)], ([.cells [(.int .i64 p0.temps), (.slice (Rw mK.cells p0.arrays) .no), (.slice (Rw lX.cells p0.blocks) .no), (.int .i64 p0.inn), (.int .i64 p0.out)], .front 0 0, Vc Span.cells 2 s45.2] : kT)) = tm (DY l38 w44 s45) fun r => (r.1.ex, [(.ptr 0 0), (.slice (Rw Span.cells []) (.own 1)), (.int .i64 0), (.slice (Rw (wV (ci .i64)) w40) .no), (.slice (Rw (wV (ci .i64)) w41) .no), (.vslice 2 (List.length l38) 0 (List.length l38) 2), (.int .i64 w44), (.int .i64 r.2.1)], ([.cells [(.int .i64 p0.temps), (.slice (Rw mK.cells p0.arrays) .no), (.slice (Rw lX.cells p0.blocks) .no), (.int .i64 p0.inn), (.int .i64 p0.out)], .front 0 0, Vc Span.cells 2 r.2.2] : kT)) := by
 simp +contextual -implicitDefEqProofs (maxSteps := 2000000) [-lS, -lK, -lD, -lF, -lL, -lQ, -lJ, Ji, DY, ZB]
theorem Y5 (w40 : (List (List Int))) (w41 : (List (List Int))) (l38 : (List Span)) (w44 : Int) (p0 : IR) (i6 : Int) (i8 : (List Span)) : mJ (Ji KK 3) ([(.ptr 0 0), (.slice (Rw Span.cells []) (.own 1)), (.int .i64 0), (.slice (Rw (wV (ci .i64)) w40) .no), (.slice (Rw (wV (ci .i64)) w41) .no), (.vslice 2 (List.length l38) 0 (List.length l38) 2), (.int .i64 w44), (.int .i64 i6)], ([.cells [(.int .i64 p0.temps), (.slice (Rw mK.cells p0.arrays) .no), (.slice (Rw lX.cells p0.blocks) .no), (.int .i64 p0.inn), (.int .i64 p0.out)], .front 0 0, Vc Span.cells 2 i8] : kT)) = tm (v_ (DY l38 w44) (i6, i8)) fun r => (r.1.ex, [(.ptr 0 0), (.slice (Rw Span.cells []) (.own 1)), (.int .i64 0), (.slice (Rw (wV (ci .i64)) w40) .no), (.slice (Rw (wV (ci .i64)) w41) .no), (.vslice 2 (List.length l38) 0 (List.length l38) 2), (.int .i64 w44), (.int .i64 r.2.1)], ([.cells [(.int .i64 p0.temps), (.slice (Rw mK.cells p0.arrays) .no), (.slice (Rw lX.cells p0.blocks) .no), (.int .i64 p0.inn), (.int .i64 p0.out)], .front 0 0, Vc Span.cells 2 r.2.2] : kT)) := by
 exact w6 (enc := fun s45 => ([(.ptr 0 0), (.slice (Rw Span.cells []) (.own 1)), (.int .i64 0), (.slice (Rw (wV (ci .i64)) w40) .no), (.slice (Rw (wV (ci .i64)) w41) .no), (.vslice 2 (List.length l38) 0 (List.length l38) 2), (.int .i64 w44), (.int .i64 s45.1)], ([.cells [(.int .i64 p0.temps), (.slice (Rw mK.cells p0.arrays) .no), (.slice (Rw lX.cells p0.blocks) .no), (.int .i64 p0.inn), (.int .i64 p0.out)], .front 0 0, Vc Span.cells 2 s45.2] : kT))) (fun s45 => W1 w40 w41 l38 w44 p0 s45) (i6, i8)
theorem acL (l38 : (List Span)) (w96 : Int) (u107 : (List Int)) (p0 : IR) (w99 : (List Span)) (u101 : lX) : KK 83 [(.vslice 2 (List.length l38) 0 (List.length l38) 2), (.int .i64 w96), (.slice (Rw (ci .i64) u107) .no)] ([.cells [(.int .i64 p0.temps), (.slice (Rw mK.cells p0.arrays) .no), (.slice (Rw lX.cells p0.blocks) .no), (.int .i64 p0.inn), (.int .i64 p0.out)], .front 0 0, Vc Span.cells 2 w99, .cells [(.slice (Rw Op.cells u101.ops) .no), (.int .i64 u101.term.kind), (.int .i64 u101.term.a), (.int .i64 u101.term.yes), (.int .i64 u101.term.no)], .front 0 0] : kT) = tm (t83 (List.length l38) w96 u107 w99) fun r => (.ret (.tuple []), ([.cells [(.int .i64 p0.temps), (.slice (Rw mK.cells p0.arrays) .no), (.slice (Rw lX.cells p0.blocks) .no), (.int .i64 p0.inn), (.int .i64 p0.out)], .front 0 0, Vc Span.cells 2 r, .cells [(.slice (Rw Op.cells u101.ops) .no), (.int .i64 u101.term.kind), (.int .i64 u101.term.a), (.int .i64 u101.term.yes), (.int .i64 u101.term.no)], .front 0 0] : kT)) := by
 refine uJ (ids := [2]) rfl rfl ?_ ?_ rfl ?_ (Gb ..) (b83 (List.length l38) w96 u107 w99) fun r => ?_
 all_goals simp
theorem acM (l38 : (List Span)) (w145 : Int) (r142 : (List Int)) (p0 : IR) (w146 : (List Span)) (u101 : lX) (u134 : Op) : KK 83 [(.vslice 2 (List.length l38) 0 (List.length l38) 2), (.int .i64 w145), (.slice (Rw (ci .i64) r142) .no)] ([.cells [(.int .i64 p0.temps), (.slice (Rw mK.cells p0.arrays) .no), (.slice (Rw lX.cells p0.blocks) .no), (.int .i64 p0.inn), (.int .i64 p0.out)], .front 0 0, Vc Span.cells 2 w146, .cells [(.slice (Rw Op.cells u101.ops) .no), (.int .i64 u101.term.kind), (.int .i64 u101.term.a), (.int .i64 u101.term.yes), (.int .i64 u101.term.no)], .front 0 0, .cells [(.int .i64 u134.kind), (.int .i64 u134.dst), (.int .i64 u134.a), (.int .i64 u134.b), (.int .i64 u134.c), (.int .i64 u134.imm)]] : kT) = tm (t83 (List.length l38) w145 r142 w146) fun r => (.ret (.tuple []), ([.cells [(.int .i64 p0.temps), (.slice (Rw mK.cells p0.arrays) .no), (.slice (Rw lX.cells p0.blocks) .no), (.int .i64 p0.inn), (.int .i64 p0.out)], .front 0 0, Vc Span.cells 2 r, .cells [(.slice (Rw Op.cells u101.ops) .no), (.int .i64 u101.term.kind), (.int .i64 u101.term.a), (.int .i64 u101.term.yes), (.int .i64 u101.term.no)], .front 0 0, .cells [(.int .i64 u134.kind), (.int .i64 u134.dst), (.int .i64 u134.a), (.int .i64 u134.b), (.int .i64 u134.c), (.int .i64 u134.imm)]] : kT)) := by
 refine uJ (ids := [2]) rfl rfl ?_ ?_ rfl ?_ (Gb ..) (b83 (List.length l38) w145 r142 w146) fun r => ?_
 all_goals simp
theorem Xg (y0 : Int) (h : kT) : lP 1 1 [(.int .i64 0)] [(0, (.int .i64 y0))] h = some (.slice (Rw (ci .i64) [y0]) (.own h.length), h ++ [sD 1 1]) := by
 rfl
theorem acN (l38 : (List Span)) (w152 : Int) (w161 : (List Int)) (p0 : IR) (r147 : (List Span)) (u101 : lX) (u134 : Op) : KK 83 [(.vslice 2 (List.length l38) 0 (List.length l38) 2), (.int .i64 w152), (.slice (Rw (ci .i64) w161) .no)] ([.cells [(.int .i64 p0.temps), (.slice (Rw mK.cells p0.arrays) .no), (.slice (Rw lX.cells p0.blocks) .no), (.int .i64 p0.inn), (.int .i64 p0.out)], .front 0 0, Vc Span.cells 2 r147, .cells [(.slice (Rw Op.cells u101.ops) .no), (.int .i64 u101.term.kind), (.int .i64 u101.term.a), (.int .i64 u101.term.yes), (.int .i64 u101.term.no)], .front 0 0, .cells [(.int .i64 u134.kind), (.int .i64 u134.dst), (.int .i64 u134.a), (.int .i64 u134.b), (.int .i64 u134.c), (.int .i64 u134.imm)], sD 1 1] : kT) = tm (t83 (List.length l38) w152 w161 r147) fun r => (.ret (.tuple []), ([.cells [(.int .i64 p0.temps), (.slice (Rw mK.cells p0.arrays) .no), (.slice (Rw lX.cells p0.blocks) .no), (.int .i64 p0.inn), (.int .i64 p0.out)], .front 0 0, Vc Span.cells 2 r, .cells [(.slice (Rw Op.cells u101.ops) .no), (.int .i64 u101.term.kind), (.int .i64 u101.term.a), (.int .i64 u101.term.yes), (.int .i64 u101.term.no)], .front 0 0, .cells [(.int .i64 u134.kind), (.int .i64 u134.dst), (.int .i64 u134.a), (.int .i64 u134.b), (.int .i64 u134.c), (.int .i64 u134.imm)], sD 1 1] : kT)) := by
 refine uJ (ids := [2]) rfl rfl ?_ ?_ rfl ?_ (Gb ..) (b83 (List.length l38) w152 w161 r147) fun r => ?_
 all_goals simp
noncomputable def My (K : k9) (m : Nat) (aS : kR) (aR : kR) (aO : kT) (aA : kR) (aB : kR) (aK : kR) (aL : kR) (aM : kR) (aN : kR) (aC : kR) (aD : kR) (aE : kR) (aF : kR) (aG : kR) (aH : kR) (aI : kR) (aJ : kR) : Option R :=
 lG aS (fa 1 aR fun aT => ld false 1 aO aT fun aU => lE (lP 1 1 [(.int .i64 0)] [(0, aU)] aO) fun aV aP => ca (K 83 [(kR.k8 aA), (kR.k8 aB), (kR.k8 aV)] aP) fun aW aQ => lC m .normal [aK, aL, aM, aN, aA, aB, aC, aD, aE, aF, aG, aH, aI, aJ] aQ) (lC m .normal [aK, aL, aM, aN, aA, aB, aC, aD, aE, aF, aG, aH, aI, aJ] aO)
noncomputable def Cy (aB : Bool) (aA : (List Span)) (aD : Op) (aF : (List Span)) (aE : Int) : Option ((List Span)) :=
 tc aB (tb ((t83 (List.length aF) aE [aD.dst] aA)) fun aC => some aC) (some aA)
theorem Y4 (r151 : Bool) (p0 : IR) (r147 : (List Span)) (u101 : lX) (u134 : Op) (l38 : (List Span)) (w152 : Int) (w78 : (List (List Int))) (w79 : (List (List Int))) (w97 : Int) (w82 : Int) (w115 : Int) (w153 : Int) : (My KK 6 (.bool r151) (.ptr 5 0) ([.cells [(.int .i64 p0.temps), (.slice (Rw mK.cells p0.arrays) .no), (.slice (Rw lX.cells p0.blocks) .no), (.int .i64 p0.inn), (.int .i64 p0.out)], .front 0 0, Vc Span.cells 2 r147, .cells [(.slice (Rw Op.cells u101.ops) .no), (.int .i64 u101.term.kind), (.int .i64 u101.term.a), (.int .i64 u101.term.yes), (.int .i64 u101.term.no)], .front 0 0, .cells [(.int .i64 u134.kind), (.int .i64 u134.dst), (.int .i64 u134.a), (.int .i64 u134.b), (.int .i64 u134.c), (.int .i64 u134.imm)]] : kT) (.vslice 2 (List.length l38) 0 (List.length l38) 2) (.int .i64 w152) (.slice (Rw Span.cells []) (.own 1)) (.int .i64 0) (.slice (Rw (wV (ci .i64)) w78) .no) (.slice (Rw (wV (ci .i64)) w79) .no) (.int .i64 w97) (.ptr 3 0) (.slice (Rw lX.cells p0.blocks) .no) (.int .i64 w82) (.int .i64 w97) (.slice (Rw Op.cells u101.ops) .no) (.int .i64 w115) (.int .i64 w153)) = tm (Cy r151 r147 u134 l38 w152) fun r => (.normal, [(.slice (Rw Span.cells []) (.own 1)), (.int .i64 0), (.slice (Rw (wV (ci .i64)) w78) .no), (.slice (Rw (wV (ci .i64)) w79) .no), (.vslice 2 (List.length l38) 0 (List.length l38) 2), (.int .i64 w152), (.int .i64 w97), (.ptr 3 0), (.slice (Rw lX.cells p0.blocks) .no), (.int .i64 w82), (.int .i64 w97), (.slice (Rw Op.cells u101.ops) .no), (.int .i64 w115), (.int .i64 w153)], ([.cells [(.int .i64 p0.temps), (.slice (Rw mK.cells p0.arrays) .no), (.slice (Rw lX.cells p0.blocks) .no), (.int .i64 p0.inn), (.int .i64 p0.out)], .front 0 0, Vc Span.cells 2 r, .cells [(.slice (Rw Op.cells u101.ops) .no), (.int .i64 u101.term.kind), (.int .i64 u101.term.a), (.int .i64 u101.term.yes), (.int .i64 u101.term.no)], .front 0 0, .cells [(.int .i64 u134.kind), (.int .i64 u134.dst), (.int .i64 u134.a), (.int .i64 u134.b), (.int .i64 u134.c), (.int .i64 u134.imm)]] : kT)) := by
 simp +contextual -implicitDefEqProofs (maxSteps := 2000000) [-lS, -lK, -lD, -lF, -lL, -lQ, -lJ, My, Cy, Xg, acN]
noncomputable def Jj (K : k9) (m : Nat) (s : List kR × kT) : Option R :=
 (fun aL aM aN aO aE aF aG aH aI aJ aK aC aD aB aY => bo .lss aB aD fun bH => lG bH (ix 6 aC aB fun bI => ld true 6 aY bI fun bJ => lE (nG 6 aY (.agg [(.int .i64 0), (.int .i64 0), (.int .i64 0), (.int .i64 0), (.int .i64 0), (.int .i64 0)])) fun aP bE => (lU 6 bE aP bJ).bind fun bB => ld true 6 bB aP fun bK => ca (K 74 [(kR.k8 bK)] bB) fun bL bF => ca (K 83 [(kR.k8 aE), (kR.k8 aF), (kR.k8 bL)] bF) fun bQ bC => ld true 6 bC aP fun bM => ca (K 73 [(kR.k8 bM)] bC) fun bN bD => (My K (List.length bD) bN aP bD aE aF aL aM aN aO aG aH aI aJ aK aC aD aB).bind fun aA => (fun aZ a6 a7 a8 a_ bA aQ aR aS aT aU aV aW aX bG => Ex.sO aA.1 (bo .add bA (.int .i64 1) fun bO => bo .add aX (.int .i64 1) fun bP => lC m .normal [aZ, a6, a7, a8, a_, bO, aQ, aR, aS, aT, aU, aV, aW, bP] bG)) (gd aA.2.1 0) (gd aA.2.1 1) (gd aA.2.1 2) (gd aA.2.1 3) (gd aA.2.1 4) (gd aA.2.1 5) (gd aA.2.1 6) (gd aA.2.1 7) (gd aA.2.1 8) (gd aA.2.1 9) (gd aA.2.1 10) (gd aA.2.1 11) (gd aA.2.1 12) (gd aA.2.1 13) aA.2.2) (lC m (.exit 4) [aL, aM, aN, aO, aE, aF, aG, aH, aI, aJ, aK, aC, aD, aB] aY)) (gd s.1 0) (gd s.1 1) (gd s.1 2) (gd s.1 3) (gd s.1 4) (gd s.1 5) (gd s.1 6) (gd s.1 7) (gd s.1 8) (gd s.1 9) (gd s.1 10) (gd s.1 11) (gd s.1 12) (gd s.1 13) s.2
noncomputable def Cz (aI : (List Span)) (aG : lX) (aH : Int) (aA : Int × Int × (List Span)) : Option (Ey × Int × Int × (List Span)) :=
 tc (decide (aA.2.1 < aH)) (tb ((oO aG.ops aA.2.1)) fun aB => tb ((t74 aB)) fun aC => tb ((t83 (List.length aI) aA.1 aC aA.2.2)) fun aD => tb ((t73 aB)) fun aE => tb (Cy aE aD aB aI aA.1) fun aF => some (.n, ((IntKind.wrap .i64 (aA.1 + 1)), (IntKind.wrap .i64 (aA.2.1 + 1)), aF))) (some ((.x 4), (aA.1, aA.2.1, aA.2.2)))
theorem W3 (w78 : (List (List Int))) (w79 : (List (List Int))) (l38 : (List Span)) (w97 : Int) (p0 : IR) (w82 : Int) (u101 : lX) (w115 : Int) (s116 : Int × Int × (List Span)) : Jj KK 5 ([(.slice (Rw Span.cells []) (.own 1)), (.int .i64 0), (.slice (Rw (wV (ci .i64)) w78) .no), (.slice (Rw (wV (ci .i64)) w79) .no), (.vslice 2 (List.length l38) 0 (List.length l38) 2), (.int .i64 s116.1), (.int .i64 w97), (.ptr 3 0), (.slice (Rw lX.cells p0.blocks) .no), (.int .i64 w82), (.int .i64 w97), (.slice (Rw Op.cells u101.ops) .no), (.int .i64 w115), (.int .i64 s116.2.1)], ([.cells [(.int .i64 p0.temps), (.slice (Rw mK.cells p0.arrays) .no), (.slice (Rw lX.cells p0.blocks) .no), (.int .i64 p0.inn), (.int .i64 p0.out)], .front 0 0, Vc Span.cells 2 s116.2.2, .cells [(.slice (Rw Op.cells u101.ops) .no), (.int .i64 u101.term.kind), (.int .i64 u101.term.a), (.int .i64 u101.term.yes), (.int .i64 u101.term.no)], .front 0 0] : kT)) = tm (Cz l38 u101 w115 s116) fun r => (r.1.ex, [(.slice (Rw Span.cells []) (.own 1)), (.int .i64 0), (.slice (Rw (wV (ci .i64)) w78) .no), (.slice (Rw (wV (ci .i64)) w79) .no), (.vslice 2 (List.length l38) 0 (List.length l38) 2), (.int .i64 r.2.1), (.int .i64 w97), (.ptr 3 0), (.slice (Rw lX.cells p0.blocks) .no), (.int .i64 w82), (.int .i64 w97), (.slice (Rw Op.cells u101.ops) .no), (.int .i64 w115), (.int .i64 r.2.2.1)], ([.cells [(.int .i64 p0.temps), (.slice (Rw mK.cells p0.arrays) .no), (.slice (Rw lX.cells p0.blocks) .no), (.int .i64 p0.inn), (.int .i64 p0.out)], .front 0 0, Vc Span.cells 2 r.2.2.2, .cells [(.slice (Rw Op.cells u101.ops) .no), (.int .i64 u101.term.kind), (.int .i64 u101.term.a), (.int .i64 u101.term.yes), (.int .i64 u101.term.no)], .front 0 0] : kT)) := by
 simp +contextual -implicitDefEqProofs (maxSteps := 2000000) [-lS, -lK, -lD, -lF, -lL, -lQ, -lJ, Jj, Cz, Ia, acM, r73, Y4]
theorem Y6 (w78 : (List (List Int))) (w79 : (List (List Int))) (l38 : (List Span)) (w97 : Int) (p0 : IR) (w82 : Int) (u101 : lX) (w115 : Int) (i5 : Int) (i12 : Int) (i14 : (List Span)) : mJ (Jj KK 5) ([(.slice (Rw Span.cells []) (.own 1)), (.int .i64 0), (.slice (Rw (wV (ci .i64)) w78) .no), (.slice (Rw (wV (ci .i64)) w79) .no), (.vslice 2 (List.length l38) 0 (List.length l38) 2), (.int .i64 i5), (.int .i64 w97), (.ptr 3 0), (.slice (Rw lX.cells p0.blocks) .no), (.int .i64 w82), (.int .i64 w97), (.slice (Rw Op.cells u101.ops) .no), (.int .i64 w115), (.int .i64 i12)], ([.cells [(.int .i64 p0.temps), (.slice (Rw mK.cells p0.arrays) .no), (.slice (Rw lX.cells p0.blocks) .no), (.int .i64 p0.inn), (.int .i64 p0.out)], .front 0 0, Vc Span.cells 2 i14, .cells [(.slice (Rw Op.cells u101.ops) .no), (.int .i64 u101.term.kind), (.int .i64 u101.term.a), (.int .i64 u101.term.yes), (.int .i64 u101.term.no)], .front 0 0] : kT)) = tm (v_ (Cz l38 u101 w115) (i5, i12, i14)) fun r => (r.1.ex, [(.slice (Rw Span.cells []) (.own 1)), (.int .i64 0), (.slice (Rw (wV (ci .i64)) w78) .no), (.slice (Rw (wV (ci .i64)) w79) .no), (.vslice 2 (List.length l38) 0 (List.length l38) 2), (.int .i64 r.2.1), (.int .i64 w97), (.ptr 3 0), (.slice (Rw lX.cells p0.blocks) .no), (.int .i64 w82), (.int .i64 w97), (.slice (Rw Op.cells u101.ops) .no), (.int .i64 w115), (.int .i64 r.2.2.1)], ([.cells [(.int .i64 p0.temps), (.slice (Rw mK.cells p0.arrays) .no), (.slice (Rw lX.cells p0.blocks) .no), (.int .i64 p0.inn), (.int .i64 p0.out)], .front 0 0, Vc Span.cells 2 r.2.2.2, .cells [(.slice (Rw Op.cells u101.ops) .no), (.int .i64 u101.term.kind), (.int .i64 u101.term.a), (.int .i64 u101.term.yes), (.int .i64 u101.term.no)], .front 0 0] : kT)) := by
 exact w6 (enc := fun s116 => ([(.slice (Rw Span.cells []) (.own 1)), (.int .i64 0), (.slice (Rw (wV (ci .i64)) w78) .no), (.slice (Rw (wV (ci .i64)) w79) .no), (.vslice 2 (List.length l38) 0 (List.length l38) 2), (.int .i64 s116.1), (.int .i64 w97), (.ptr 3 0), (.slice (Rw lX.cells p0.blocks) .no), (.int .i64 w82), (.int .i64 w97), (.slice (Rw Op.cells u101.ops) .no), (.int .i64 w115), (.int .i64 s116.2.1)], ([.cells [(.int .i64 p0.temps), (.slice (Rw mK.cells p0.arrays) .no), (.slice (Rw lX.cells p0.blocks) .no), (.int .i64 p0.inn), (.int .i64 p0.out)], .front 0 0, Vc Span.cells 2 s116.2.2, .cells [(.slice (Rw Op.cells u101.ops) .no), (.int .i64 u101.term.kind), (.int .i64 u101.term.a), (.int .i64 u101.term.yes), (.int .i64 u101.term.no)], .front 0 0] : kT))) (fun s116 => W3 w78 w79 l38 w97 p0 w82 u101 w115 s116) (i5, i12, i14)
theorem TM (y0 : Int) (h : kT) : lP 1 1 [(.int .i64 0)] [(0, (.int .i64 y0))] h = some (.slice (Rw (ci .i64) [y0]) (.own h.length), h ++ [sD 1 1]) := by
 rfl
theorem Xq (l38 : (List Span)) (w203 : Int) (w215 : (List Int)) (p0 : IR) (w207 : (List Span)) (u101 : lX) : KK 83 [(.vslice 2 (List.length l38) 0 (List.length l38) 2), (.int .i64 w203), (.slice (Rw (ci .i64) w215) .no)] ([.cells [(.int .i64 p0.temps), (.slice (Rw mK.cells p0.arrays) .no), (.slice (Rw lX.cells p0.blocks) .no), (.int .i64 p0.inn), (.int .i64 p0.out)], .front 0 0, Vc Span.cells 2 w207, .cells [(.slice (Rw Op.cells u101.ops) .no), (.int .i64 u101.term.kind), (.int .i64 u101.term.a), (.int .i64 u101.term.yes), (.int .i64 u101.term.no)], .front 0 0, sD 1 1] : kT) = tm (t83 (List.length l38) w203 w215 w207) fun r => (.ret (.tuple []), ([.cells [(.int .i64 p0.temps), (.slice (Rw mK.cells p0.arrays) .no), (.slice (Rw lX.cells p0.blocks) .no), (.int .i64 p0.inn), (.int .i64 p0.out)], .front 0 0, Vc Span.cells 2 r, .cells [(.slice (Rw Op.cells u101.ops) .no), (.int .i64 u101.term.kind), (.int .i64 u101.term.a), (.int .i64 u101.term.yes), (.int .i64 u101.term.no)], .front 0 0, sD 1 1] : kT)) := by
 refine uJ (ids := [2]) rfl rfl ?_ ?_ rfl ?_ (Gb ..) (b83 (List.length l38) w203 w215 w207) fun r => ?_
 all_goals simp
noncomputable def Jh (K : k9) (m : Nat) (aO : kR) (aK : kR) (aL : kT) (aA : kR) (aB : kR) (aG : kR) (aH : kR) (aI : kR) (aJ : kR) (aC : kR) (aD : kR) (aE : kR) (aF : kR) : Option R :=
 lG aO (fa 1 aK fun aP => fa 1 aP fun aQ => ld false 1 aL aQ fun aR => lE (lP 1 1 [(.int .i64 0)] [(0, aR)] aL) fun aS aM => ca (K 83 [(kR.k8 aA), (kR.k8 aB), (kR.k8 aS)] aM) fun aT aN => lC m .normal [aG, aH, aI, aJ, aA, aB, aC, aD, aE, aF] aN) (lC m .normal [aG, aH, aI, aJ, aA, aB, aC, aD, aE, aF] aL)
noncomputable def BC (aE : Bool) (aA : (List Span)) (aC : lX) (aF : (List Span)) (aD : Int) : Option ((List Span)) :=
 tc aE (tb ((t83 (List.length aF) aD [aC.term.a] aA)) fun aB => some aB) (some aA)
theorem UO (w206 : Bool) (p0 : IR) (w207 : (List Span)) (u101 : lX) (l38 : (List Span)) (w203 : Int) (w78 : (List (List Int))) (w79 : (List (List Int))) (w97 : Int) (w82 : Int) : (Jh KK 5 (.bool w206) (.ptr 3 0) ([.cells [(.int .i64 p0.temps), (.slice (Rw mK.cells p0.arrays) .no), (.slice (Rw lX.cells p0.blocks) .no), (.int .i64 p0.inn), (.int .i64 p0.out)], .front 0 0, Vc Span.cells 2 w207, .cells [(.slice (Rw Op.cells u101.ops) .no), (.int .i64 u101.term.kind), (.int .i64 u101.term.a), (.int .i64 u101.term.yes), (.int .i64 u101.term.no)], .front 0 0] : kT) (.vslice 2 (List.length l38) 0 (List.length l38) 2) (.int .i64 w203) (.slice (Rw Span.cells []) (.own 1)) (.int .i64 0) (.slice (Rw (wV (ci .i64)) w78) .no) (.slice (Rw (wV (ci .i64)) w79) .no) (.int .i64 w97) (.slice (Rw lX.cells p0.blocks) .no) (.int .i64 w82) (.int .i64 w97)) = tm (BC w206 w207 u101 l38 w203) fun r => (.normal, [(.slice (Rw Span.cells []) (.own 1)), (.int .i64 0), (.slice (Rw (wV (ci .i64)) w78) .no), (.slice (Rw (wV (ci .i64)) w79) .no), (.vslice 2 (List.length l38) 0 (List.length l38) 2), (.int .i64 w203), (.int .i64 w97), (.slice (Rw lX.cells p0.blocks) .no), (.int .i64 w82), (.int .i64 w97)], ([.cells [(.int .i64 p0.temps), (.slice (Rw mK.cells p0.arrays) .no), (.slice (Rw lX.cells p0.blocks) .no), (.int .i64 p0.inn), (.int .i64 p0.out)], .front 0 0, Vc Span.cells 2 r, .cells [(.slice (Rw Op.cells u101.ops) .no), (.int .i64 u101.term.kind), (.int .i64 u101.term.a), (.int .i64 u101.term.yes), (.int .i64 u101.term.no)], .front 0 0] : kT)) := by
 simp +contextual -implicitDefEqProofs (maxSteps := 2000000) [-lS, -lK, -lD, -lF, -lL, -lQ, -lJ, Jh, BC, TM, Xq]
theorem Xr (l38 : (List Span)) (w234 : Int) (u230 : (List Int)) (p0 : IR) (r217 : (List Span)) (u101 : lX) : KK 83 [(.vslice 2 (List.length l38) 0 (List.length l38) 2), (.int .i64 w234), (.slice (Rw (ci .i64) u230) .no)] ([.cells [(.int .i64 p0.temps), (.slice (Rw mK.cells p0.arrays) .no), (.slice (Rw lX.cells p0.blocks) .no), (.int .i64 p0.inn), (.int .i64 p0.out)], .front 0 0, Vc Span.cells 2 r217, .cells [(.slice (Rw Op.cells u101.ops) .no), (.int .i64 u101.term.kind), (.int .i64 u101.term.a), (.int .i64 u101.term.yes), (.int .i64 u101.term.no)], .front 0 0] : kT) = tm (t83 (List.length l38) w234 u230 r217) fun r => (.ret (.tuple []), ([.cells [(.int .i64 p0.temps), (.slice (Rw mK.cells p0.arrays) .no), (.slice (Rw lX.cells p0.blocks) .no), (.int .i64 p0.inn), (.int .i64 p0.out)], .front 0 0, Vc Span.cells 2 r, .cells [(.slice (Rw Op.cells u101.ops) .no), (.int .i64 u101.term.kind), (.int .i64 u101.term.a), (.int .i64 u101.term.yes), (.int .i64 u101.term.no)], .front 0 0] : kT)) := by
 refine uJ (ids := [2]) rfl rfl ?_ ?_ rfl ?_ (Gb ..) (b83 (List.length l38) w234 u230 r217) fun r => ?_
 all_goals simp
noncomputable def Mx (K : k9) (m : Nat) (aI : kR) (aC : kR) (b7 : kT) (aX : kR) (aY : kR) (aZ : kR) (bF : kR) (bG : kR) (bH : kR) (a_ : kR) : Option R :=
 ix 5 aI aC fun t100 => ld true 5 b7 t100 fun bP => lE (nG 5 b7 (.agg [(.slice (Rw Op.cells []) .nil), (.int .i64 0), (.int .i64 0), (.int .i64 0), (.int .i64 0)])) fun a7 bN => (lU 5 bN a7 bP).bind fun bC => ix 1 aX aC fun bQ => ld false 1 bC bQ fun bR => ca (K 83 [(kR.k8 aY), (kR.k8 aZ), (kR.k8 bR)] bC) fun b_ a6 => fa 0 a7 fun bS => ld false 1 a6 bS fun bE => ln bE fun bT => (mJ (Jj K (List.length a6)) ([bF, bG, aX, bH, aY, aZ, aC, a7, aI, a_, aC, bE, bT, (.int .i64 0)], a6)).bind fun aA => (fun aH aJ aK aL aN aP aS aD aE aF aG bI bJ bK aR => Ex.lY aA.1 none (fun bL => Ex.inBlock 4 bL (fa 1 aD fun bU => fa 0 bU fun bV => ld false 1 aR bV fun bW => bo .eql bW (.int .i64 2) fun bX => (Jh K (List.length aR) bX aD aR aN aP aH aJ aK aL aS aE aF aG).bind fun aB => (fun a8 bA bB aM aO aQ aT aU aV aW bD => Ex.sO aB.1 (ix 1 aM aT fun bY => ld false 1 bD bY fun bZ => ca (K 83 [(kR.k8 aO), (kR.k8 aQ), (kR.k8 bZ)] bD) fun cA bO => bo .add aQ (.int .i64 1) fun b6 => lC m .normal [a8, bA, bB, aM, aO, b6, aU, aV, aW] bO)) (gd aB.2.1 0) (gd aB.2.1 1) (gd aB.2.1 2) (gd aB.2.1 3) (gd aB.2.1 4) (gd aB.2.1 5) (gd aB.2.1 6) (gd aB.2.1 7) (gd aB.2.1 8) (gd aB.2.1 9) aB.2.2) (fun bM => lC m bM [aH, aJ, aK, aL, aN, aP, aE, aF, aG] aR))) (gd aA.2.1 0) (gd aA.2.1 1) (gd aA.2.1 2) (gd aA.2.1 3) (gd aA.2.1 4) (gd aA.2.1 5) (gd aA.2.1 6) (gd aA.2.1 7) (gd aA.2.1 8) (gd aA.2.1 9) (gd aA.2.1 10) (gd aA.2.1 11) (gd aA.2.1 12) (gd aA.2.1 13) aA.2.2
noncomputable def GH (p0 : IR) (aK : Int) (aO : (List Span)) (aM : (List (List Int))) (aC : (List Span)) (aL : Int) (aN : (List (List Int))) : Option (Ey × Int × (List Span)) :=
 tb ((oO p0.blocks aK)) fun aB => tb ((oO aM aK)) fun aI => tb ((t83 (List.length aC) aL aI aO)) fun aF => tb (v_ (Cz aC aB ((List.length aB.ops : Nat) : Int)) (aL, 0, aF)) fun aA => As aA.1 none fun aD => Bm 4 aD (tb (BC (decide (aB.term.kind = 2)) aA.2.2.2 aB aC aA.2.1) fun aG => tb ((oO aN aK)) fun aJ => tb ((t83 (List.length aC) aA.2.1 aJ aG)) fun aH => some (.n, ((IntKind.wrap .i64 (aA.2.1 + 1)), aH))) fun aE => some (aE, (aA.2.1, aA.2.2.2))
theorem Y3 (p0 : IR) (w97 : Int) (w99 : (List Span)) (w78 : (List (List Int))) (l38 : (List Span)) (w96 : Int) (w79 : (List (List Int))) (w82 : Int) : (Mx KK 3 (.slice (Rw lX.cells p0.blocks) .no) (.int .i64 w97) ([.cells [(.int .i64 p0.temps), (.slice (Rw mK.cells p0.arrays) .no), (.slice (Rw lX.cells p0.blocks) .no), (.int .i64 p0.inn), (.int .i64 p0.out)], .front 0 0, Vc Span.cells 2 w99] : kT) (.slice (Rw (wV (ci .i64)) w78) .no) (.vslice 2 (List.length l38) 0 (List.length l38) 2) (.int .i64 w96) (.slice (Rw Span.cells []) (.own 1)) (.int .i64 0) (.slice (Rw (wV (ci .i64)) w79) .no) (.int .i64 w82)) = tm (GH p0 w97 w99 w78 l38 w96 w79) fun r => (r.1.ex, [(.slice (Rw Span.cells []) (.own 1)), (.int .i64 0), (.slice (Rw (wV (ci .i64)) w78) .no), (.slice (Rw (wV (ci .i64)) w79) .no), (.vslice 2 (List.length l38) 0 (List.length l38) 2), (.int .i64 r.2.1), (.slice (Rw lX.cells p0.blocks) .no), (.int .i64 w82), (.int .i64 w97)], ([.cells [(.int .i64 p0.temps), (.slice (Rw mK.cells p0.arrays) .no), (.slice (Rw lX.cells p0.blocks) .no), (.int .i64 p0.inn), (.int .i64 p0.out)], .front 0 0, Vc Span.cells 2 r.2.2] : kT)) := by
 simp +contextual -implicitDefEqProofs (maxSteps := 2000000) [-lS, -lK, -lD, -lF, -lL, -lQ, -lJ, Mx, GH, acL, Y6, UO, Xr]
noncomputable def ET (K : k9) (m : Nat) (s : List kR × kT) : Option R :=
 (fun aN aO aP aQ aR aS aH aB aC aV => bo .lss aC aB fun t95 => lG t95 ((Mx K (List.length aV) aH aC aV aP aR aS aN aO aQ aB).bind fun aA => (fun aG aI aJ aK aL aM aD aE aF aT => Ex.inBlock 3 aA.1 (bo .add aF (.int .i64 1) fun aW => lC m .normal [aG, aI, aJ, aK, aL, aM, aD, aE, aW] aT) (fun aU => lC m aU [aG, aI, aJ, aK, aL, aM, aD, aE, aF] aT)) (gd aA.2.1 0) (gd aA.2.1 1) (gd aA.2.1 2) (gd aA.2.1 3) (gd aA.2.1 4) (gd aA.2.1 5) (gd aA.2.1 6) (gd aA.2.1 7) (gd aA.2.1 8) aA.2.2) (lC m (.exit 2) [aN, aO, aP, aQ, aR, aS, aH, aB, aC] aV)) (gd s.1 0) (gd s.1 1) (gd s.1 2) (gd s.1 3) (gd s.1 4) (gd s.1 5) (gd s.1 6) (gd s.1 7) (gd s.1 8) s.2
noncomputable def BD (aE : (List (List Int))) (aF : (List (List Int))) (aD : (List Span)) (p0 : IR) (aG : Int) (aB : Int × Int × (List Span)) : Option (Ey × Int × Int × (List Span)) :=
 tc (decide (aB.2.1 < aG)) (tb (GH p0 aB.2.1 aB.2.2 aE aD aB.1 aF) fun aA => Bm 3 aA.1 (some (.n, (aA.2.1, (IntKind.wrap .i64 (aB.2.1 + 1)), aA.2.2))) fun aC => some (aC, (aA.2.1, aB.2.1, aA.2.2))) (some ((.x 2), (aB.1, aB.2.1, aB.2.2)))
theorem TJ (w78 : (List (List Int))) (w79 : (List (List Int))) (l38 : (List Span)) (p0 : IR) (w82 : Int) (s84 : Int × Int × (List Span)) : ET KK 3 ([(.slice (Rw Span.cells []) (.own 1)), (.int .i64 0), (.slice (Rw (wV (ci .i64)) w78) .no), (.slice (Rw (wV (ci .i64)) w79) .no), (.vslice 2 (List.length l38) 0 (List.length l38) 2), (.int .i64 s84.1), (.slice (Rw lX.cells p0.blocks) .no), (.int .i64 w82), (.int .i64 s84.2.1)], ([.cells [(.int .i64 p0.temps), (.slice (Rw mK.cells p0.arrays) .no), (.slice (Rw lX.cells p0.blocks) .no), (.int .i64 p0.inn), (.int .i64 p0.out)], .front 0 0, Vc Span.cells 2 s84.2.2] : kT)) = tm (BD w78 w79 l38 p0 w82 s84) fun r => (r.1.ex, [(.slice (Rw Span.cells []) (.own 1)), (.int .i64 0), (.slice (Rw (wV (ci .i64)) w78) .no), (.slice (Rw (wV (ci .i64)) w79) .no), (.vslice 2 (List.length l38) 0 (List.length l38) 2), (.int .i64 r.2.1), (.slice (Rw lX.cells p0.blocks) .no), (.int .i64 w82), (.int .i64 r.2.2.1)], ([.cells [(.int .i64 p0.temps), (.slice (Rw mK.cells p0.arrays) .no), (.slice (Rw lX.cells p0.blocks) .no), (.int .i64 p0.inn), (.int .i64 p0.out)], .front 0 0, Vc Span.cells 2 r.2.2.2] : kT)) := by
 simp +contextual -implicitDefEqProofs (maxSteps := 2000000) [-lS, -lK, -lD, -lF, -lL, -lQ, -lJ, ET, BD, Y3]
theorem UP (w78 : (List (List Int))) (w79 : (List (List Int))) (l38 : (List Span)) (p0 : IR) (w82 : Int) (i5 : Int) (i8 : Int) (i10 : (List Span)) : mJ (ET KK 3) ([(.slice (Rw Span.cells []) (.own 1)), (.int .i64 0), (.slice (Rw (wV (ci .i64)) w78) .no), (.slice (Rw (wV (ci .i64)) w79) .no), (.vslice 2 (List.length l38) 0 (List.length l38) 2), (.int .i64 i5), (.slice (Rw lX.cells p0.blocks) .no), (.int .i64 w82), (.int .i64 i8)], ([.cells [(.int .i64 p0.temps), (.slice (Rw mK.cells p0.arrays) .no), (.slice (Rw lX.cells p0.blocks) .no), (.int .i64 p0.inn), (.int .i64 p0.out)], .front 0 0, Vc Span.cells 2 i10] : kT)) = tm (v_ (BD w78 w79 l38 p0 w82) (i5, i8, i10)) fun r => (r.1.ex, [(.slice (Rw Span.cells []) (.own 1)), (.int .i64 0), (.slice (Rw (wV (ci .i64)) w78) .no), (.slice (Rw (wV (ci .i64)) w79) .no), (.vslice 2 (List.length l38) 0 (List.length l38) 2), (.int .i64 r.2.1), (.slice (Rw lX.cells p0.blocks) .no), (.int .i64 w82), (.int .i64 r.2.2.1)], ([.cells [(.int .i64 p0.temps), (.slice (Rw mK.cells p0.arrays) .no), (.slice (Rw lX.cells p0.blocks) .no), (.int .i64 p0.inn), (.int .i64 p0.out)], .front 0 0, Vc Span.cells 2 r.2.2.2] : kT)) := by
 exact w6 (enc := fun s84 => ([(.slice (Rw Span.cells []) (.own 1)), (.int .i64 0), (.slice (Rw (wV (ci .i64)) w78) .no), (.slice (Rw (wV (ci .i64)) w79) .no), (.vslice 2 (List.length l38) 0 (List.length l38) 2), (.int .i64 s84.1), (.slice (Rw lX.cells p0.blocks) .no), (.int .i64 w82), (.int .i64 s84.2.1)], ([.cells [(.int .i64 p0.temps), (.slice (Rw mK.cells p0.arrays) .no), (.slice (Rw lX.cells p0.blocks) .no), (.int .i64 p0.inn), (.int .i64 p0.out)], .front 0 0, Vc Span.cells 2 s84.2.2] : kT))) (fun s84 => TJ w78 w79 l38 p0 w82 s84) (i5, i8, i10)
noncomputable def m45 (K : k9) (a0 : kR) (h0 : kT) : Option (n_ × kT) :=
 (lE (nG 5 h0 a0) fun aT a6 => (fun (bE : kR) (a7 : kT) => ld true 5 a7 aT fun bF => ca (K 27 [(kR.k8 bF)] a7) fun aU aM => (mF 0 aU).bind fun bG => (mF 1 aU).bind fun bH => (mF 2 aU).bind fun t30 => bo .neq t30 (.int .i64 0) fun bI => lG bI ((fun (bJ : kR) (bD : kT) => some (.ret, [bJ, t30], bD)) (.slice (Rw Span.cells []) (.own (List.length aM))) (aM ++ [.front 0 0])) (fa 0 aT fun bK => ld false 1 aM bK fun bL => lE (oK 2 16 [(.int .i64 0), (.int .i64 0)] bL aM) fun a_ a8 => ln a_ fun bM => (mJ (Ji K (List.length a8)) ([aT, bE, (.int .i64 0), bG, bH, a_, bM, (.int .i64 0)], a8)).bind fun aB => (fun aI aC aD aJ aK aL aV aW aN => Ex.lY aB.1 none (fun bB => Ex.inBlock 0 bB (fa 2 aI fun bN => ld false 1 aN bN fun bA => ln bA fun bO => (mJ (ET K (List.length aN)) ([aC, aD, aJ, aK, aL, (.int .i64 0), bA, bO, (.int .i64 0)], aN)).bind fun aA => (fun aE aF aX aY aG aZ aO aP aQ aH => Ex.lY aA.1 none (fun aR => Ex.inBlock 2 aR (some (.ret, [aG, (.int .i64 0)], aH)) (fun aS => some (aS, [aE, aF], aH)))) (gd aA.2.1 0) (gd aA.2.1 1) (gd aA.2.1 2) (gd aA.2.1 3) (gd aA.2.1 4) (gd aA.2.1 5) (gd aA.2.1 6) (gd aA.2.1 7) (gd aA.2.1 8) aA.2.2) (fun bC => some (bC, [aC, aD], aN)))) (gd aB.2.1 0) (gd aB.2.1 1) (gd aB.2.1 2) (gd aB.2.1 3) (gd aB.2.1 4) (gd aB.2.1 5) (gd aB.2.1 6) (gd aB.2.1 7) aB.2.2)) (.slice (Rw Span.cells []) (.own (List.length a6))) (a6 ++ [.front 0 0])).bind (Ru (List.length h0))
theorem Yg (K : k9) (a0 : kR) (h0 : kT) : qQ Tryd.prog nC mJ K 45 [a0] h0 = m45 (mI nC K) a0 h0 := by kernel_rfl
noncomputable def V8 (mm : Nat) (aA : R) : Option (n_ × kT) :=
 (fun aB aC => Ex.nV aA.1 (nE mm aB aC)) (gd aA.2.1 0) aA.2.2
noncomputable def MD (K : k9) (m : Nat) (t98 : kR) (aB : kR) (aC : kR) (aD : kR) (aA : kR) (aF : kT) (aE : kR) : Option R :=
 lG t98 (lC m .normal [aB, aC, aD, aA, aA] aF) (lC m .normal [aB, aC, aD, aE, aA] aF)
noncomputable def A6 (aA : Bool) (aC : Int) (aB : Int) : Option (Int) :=
 tc aA (some aC) (some aB)
theorem Nb (w101 : Bool) (o0 : (List Span)) (o1 : Nat) (w54 : Int) (o2 : (List Bool)) (w53 : Int) : (MD KK 1 (.bool w101) (.slice (Rw Span.cells o0) .no) (.vslice 0 o1 0 o1 1) (.int .i64 0) (.int .i64 w54) ([Vc cb 1 o2] : kT) (.int .i64 w53)) = tm (A6 w101 w54 w53) fun r => (.normal, [(.slice (Rw Span.cells o0) .no), (.vslice 0 o1 0 o1 1), (.int .i64 0), (.int .i64 r), (.int .i64 w54)], ([Vc cb 1 o2] : kT)) := by
 simp +contextual -implicitDefEqProofs (maxSteps := 2000000) [-lS, -lK, -lD, -lF, -lL, -lQ, -lJ, MD, A6]
noncomputable def MF (K : k9) (m : Nat) (aN : kT) (t98 : kR) (aG : kR) (aH : kR) (aI : kR) (aK : kR) (aJ : kR) : Option R :=
 (MD K (List.length aN) t98 aG aH aI aK aN aJ).bind fun aA => (fun aB aC aD aE aF aL => Ex.sO aA.1 (bo .add aF (.int .i64 1) fun aM => lC m .normal [aB, aC, aD, aE, aM] aL)) (gd aA.2.1 0) (gd aA.2.1 1) (gd aA.2.1 2) (gd aA.2.1 3) (gd aA.2.1 4) aA.2.2
noncomputable def yB (aB : Bool) (aC : Int) (aD : Int) : Option (Ey × Int × Int) :=
 tb (A6 aB aC aD) fun aA => some (.n, (aA, (IntKind.wrap .i64 (aC + 1))))
theorem RY (o2 : (List Bool)) (w101 : Bool) (o0 : (List Span)) (o1 : Nat) (w54 : Int) (w53 : Int) : (MF KK 1 ([Vc cb 1 o2] : kT) (.bool w101) (.slice (Rw Span.cells o0) .no) (.vslice 0 o1 0 o1 1) (.int .i64 0) (.int .i64 w54) (.int .i64 w53)) = tm (yB w101 w54 w53) fun r => (r.1.ex, [(.slice (Rw Span.cells o0) .no), (.vslice 0 o1 0 o1 1), (.int .i64 0), (.int .i64 r.2.1), (.int .i64 r.2.2)], ([Vc cb 1 o2] : kT)) := by
 simp +contextual -implicitDefEqProofs (maxSteps := 2000000) [-lS, -lK, -lD, -lF, -lL, -lQ, -lJ, MF, yB, Nb]
noncomputable def ME (K : k9) (m : Nat) (t49 : kR) (aC : kR) (aI : kT) (aB : kR) (aD : kR) (aE : kR) (aF : kR) : Option R :=
 gS true t49 (kW aC aI) aI fun aW aJ => gS true t49 (bo .lss aW (.int .i64 0) fun aX => kW aX aJ) aJ fun aY aK => gS true t49 (kW aY aK) aK fun aA aL => gS false aA (kW aB aL) aL fun t64 aM => gS false aA (kW aD aM) aM fun aZ aN => gS false aA (ix 2 t64 aZ fun a6 => kW a6 aN) aN fun a7 aO => gS false aA (fa 0 a7 fun a8 => kW a8 aO) aO fun t73 aG => gS false aA (ld false 1 aG t73 fun a_ => kW a_ aG) aG fun bA aP => gS false aA (kW aB aP) aP fun bB aQ => gS false aA (kW aC aQ) aQ fun bC aR => gS false aA (ix 2 bB bC fun bD => kW bD aR) aR fun bE aS => gS false aA (fa 0 bE fun bF => kW bF aS) aS fun bG aH => gS false aA (ld false 1 aH bG fun bH => kW bH aH) aH fun bI aT => gS false aA (bo .lss bA bI fun bJ => kW bJ aT) aT fun bK aU => gS true t49 ((lV aA (.bool true) bK).bind fun t95 => kW t95 aU) aU fun t96 aV => (lV t49 t96 (.bool false)).bind fun t98 => MF K m aV t98 aB aE aF aD aC
noncomputable def Ac (aE : Bool) (aA : Int) (o0 : (List Span)) (aB : Int) : Option (Ey × Int × Int) :=
 tc aE (tc (decide (aA < 0)) (yB true aB aA) (tb ((oO o0 aB)) fun aC => tb ((oO o0 aA)) fun aD => yB (decide (aC.first < aD.first)) aB aA)) (yB false aB aA)
theorem Zg (w52 : Bool) (w53 : Int) (o2 : (List Bool)) (o0 : (List Span)) (w54 : Int) (o1 : Nat) : (ME KK 1 (.bool w52) (.int .i64 w53) ([Vc cb 1 o2] : kT) (.slice (Rw Span.cells o0) .no) (.int .i64 w54) (.vslice 0 o1 0 o1 1) (.int .i64 0)) = tm (Ac w52 w53 o0 w54) fun r => (r.1.ex, [(.slice (Rw Span.cells o0) .no), (.vslice 0 o1 0 o1 1), (.int .i64 0), (.int .i64 r.2.1), (.int .i64 r.2.2)], ([Vc cb 1 o2] : kT)) := by
 simp +contextual -implicitDefEqProofs (maxSteps := 2000000) [-lS, -lK, -lD, -lF, -lL, -lQ, -lJ, ME, Ac, Nb, RY]
noncomputable def Jp (K : k9) (m : Nat) (s : List kR × kT) : Option R :=
 (fun aB aC aD aE aA aG => ln aB fun t27 => bo .lss aA t27 fun aM => lG aM (ix 2 aB aA fun aN => fa 0 aN fun aO => ld false 1 aG aO fun aP => bo .geq aP (.int .i64 0) fun aF => gS true aF (kW aC aG) aG fun aQ aI => gS true aF (kW aA aI) aI fun aR aJ => gS true aF (ix 1 aQ aR fun aS => kW aS aJ) aJ fun aT aH => gS true aF (ld false 1 aH aT fun aU => kW aU aH) aH fun aV aK => gS true aF ((yF .not aV).bind fun aW => kW aW aK) aK fun aX aL => (lV aF aX (.bool false)).bind fun t49 => ME K m t49 aE aL aB aA aC aD) (lC m (.exit 0) [aB, aC, aD, aE, aA] aG)) (gd s.1 0) (gd s.1 1) (gd s.1 2) (gd s.1 3) (gd s.1 4) s.2
noncomputable def xA (o0 : (List Span)) (o1 : Nat) (o2 : (List Bool)) (aA : Int × Int) : Option (Ey × Int × Int) :=
 tc (decide (aA.2 < ((List.length o0 : Nat) : Int))) (tb ((oO o0 aA.2)) fun aC => tc (decide (0 ≤ aC.first)) (tb ((BM o1 aA.2)) fun aB => tb ((s6 o1 o2 aB)) fun Ob => Ac (!Ob) aA.1 o0 aA.2) (Ac false aA.1 o0 aA.2)) (some ((.x 0), (aA.1, aA.2)))
theorem W9 (o0 : (List Span)) (o1 : Nat) (o2 : (List Bool)) (s20 : Int × Int) : Jp KK 1 ([(.slice (Rw Span.cells o0) .no), (.vslice 0 o1 0 o1 1), (.int .i64 0), (.int .i64 s20.1), (.int .i64 s20.2)], ([Vc cb 1 o2] : kT)) = tm (xA o0 o1 o2 s20) fun r => (r.1.ex, [(.slice (Rw Span.cells o0) .no), (.vslice 0 o1 0 o1 1), (.int .i64 0), (.int .i64 r.2.1), (.int .i64 r.2.2)], ([Vc cb 1 o2] : kT)) := by
 simp +contextual -implicitDefEqProofs (maxSteps := 2000000) [-lS, -lK, -lD, -lF, -lL, -lQ, -lJ, Jp, xA, Nb, RY, Zg]
theorem Zf (o0 : (List Span)) (o1 : Nat) (o2 : (List Bool)) (i3 : Int) (i4 : Int) : mJ (Jp KK 1) ([(.slice (Rw Span.cells o0) .no), (.vslice 0 o1 0 o1 1), (.int .i64 0), (.int .i64 i3), (.int .i64 i4)], ([Vc cb 1 o2] : kT)) = tm (v_ (xA o0 o1 o2) (i3, i4)) fun r => (r.1.ex, [(.slice (Rw Span.cells o0) .no), (.vslice 0 o1 0 o1 1), (.int .i64 0), (.int .i64 r.2.1), (.int .i64 r.2.2)], ([Vc cb 1 o2] : kT)) := by
 exact w6 (enc := fun s20 => ([(.slice (Rw Span.cells o0) .no), (.vslice 0 o1 0 o1 1), (.int .i64 0), (.int .i64 s20.1), (.int .i64 s20.2)], ([Vc cb 1 o2] : kT))) (fun s20 => W9 o0 o1 o2 s20) (i3, i4)
noncomputable def m95 (K : k9) (a0 a1 : kR) (h0 : kT) : Option (n_ × kT) :=
 ((mJ (Jp K (List.length h0)) ([a0, a1, (.int .i64 0), (.int .i64 (-1)), (.int .i64 0)], h0)).bind fun aA => (fun aG aH aB aC aI aD => Ex.lY aA.1 none (fun aE => Ex.inBlock 0 aE (some (.ret, [aC], aD)) (fun aF => some (aF, [aB], aD)))) (gd aA.2.1 0) (gd aA.2.1 1) (gd aA.2.1 2) (gd aA.2.1 3) (gd aA.2.1 4) aA.2.2).bind (V8 (List.length h0))
theorem RF (K : k9) (a0 a1 : kR) (h0 : kT) : qQ Tryd.prog nC mJ K 95 [a0, a1] h0 = m95 (mI nC K) a0 a1 h0 := by kernel_rfl
noncomputable def t95 (o0 : (List Span)) (o1 : Nat) (o2 : (List Bool)) : Option (Int) :=
 tb (v_ (xA o0 o1 o2) ((-1), 0)) fun aA => As aA.1 none fun aB => Bm 0 aB (some aA.2.1) fun aC => OD aC (some 0)
theorem b95 (o0 : (List Span)) (o1 : Nat) (o2 : (List Bool)) : m95 KK (.slice (Rw Span.cells o0) .no) (.vslice 0 o1 0 o1 1) ([Vc cb 1 o2] : kT) = tm (t95 o0 o1 o2) fun r => (.ret (.int .i64 r), ([Vc cb 1 o2] : kT)) := by
 simp +contextual -implicitDefEqProofs (maxSteps := 2000000) [-lS, -lK, -lD, -lF, -lL, -lQ, -lJ, m95, t95, Zf, V8]
noncomputable def V9 (mm : Nat) (aB : R) : Option (n_ × kT) :=
 (fun aA aC => Ex.nV aB.1 (nE mm aA aC)) (gd aB.2.1 0) aB.2.2
noncomputable def MH (K : k9) (m : Nat) (aI : kR) (aB : kR) (aC : kR) (aD : kR) (aE : kR) (aF : kR) (aA : kR) (aH : kT) (aG : kR) : Option R :=
 lG aI (lC m .ret [aB, aC, aD, aE, aF, (.bool true), aA] aH) (bo .add aA (.int .i64 1) fun t83 => lC m .normal [aB, aC, aD, aE, aF, aG, t83] aH)
noncomputable def A8 (aC : Bool) (aA : Int) (aB : Bool) : Option (Ey × Bool × Int) :=
 tc aC (some (.r, (true, aA))) (some (.n, (aB, (IntKind.wrap .i64 (aA + 1)))))
theorem RZ (w82 : Bool) (o0 : (List Span)) (o1 : Nat) (o2 : Nat) (o3 : Int) (o4 : Int) (w57 : Int) (o5 : (List Int)) (o6 : (List Bool)) (w56 : Bool) : (MH KK 2 (.bool w82) (.slice (Rw Span.cells o0) .no) (.vslice 0 o1 0 o1 1) (.vslice 1 o2 0 o2 1) (.int .i64 o3) (.int .i64 o4) (.int .i64 w57) ([Vc (ci .i64) 1 o5, Vc cb 1 o6] : kT) (.bool w56)) = tm (A8 w82 w57 w56) fun r => (r.1.ex, [(.slice (Rw Span.cells o0) .no), (.vslice 0 o1 0 o1 1), (.vslice 1 o2 0 o2 1), (.int .i64 o3), (.int .i64 o4), (.bool r.2.1), (.int .i64 r.2.2)], ([Vc (ci .i64) 1 o5, Vc cb 1 o6] : kT)) := by
 simp +contextual -implicitDefEqProofs (maxSteps := 2000000) [-lS, -lK, -lD, -lF, -lL, -lQ, -lJ, MH, A8]
noncomputable def MG (K : k9) (m : Nat) (aB : kR) (aC : kR) (aJ : kT) (aA : kR) (aD : kR) (aF : kR) (aG : kR) (aH : kR) (aE : kR) : Option R :=
 gS true aB (kW aC aJ) aJ fun aQ aK => gS true aB (kW aA aK) aK fun aR aL => gS true aB (ix 2 aQ aR fun t64 => kW t64 aL) aL fun aS aM => gS true aB (fa 1 aS fun aT => kW aT aM) aM fun aU aI => gS true aB (ld false 1 aI aU fun aV => kW aV aI) aI fun aW aN => gS true aB (kW aD aN) aN fun t74 aO => gS true aB (bo .geq aW t74 fun aX => kW aX aO) aO fun aY aP => (lV aB aY (.bool false)).bind fun aZ => MH K m aZ aC aF aG aH aD aA aP aE
noncomputable def A7 (aD : Bool) (o0 : (List Span)) (aA : Int) (o4 : Int) (aB : Bool) : Option (Ey × Bool × Int) :=
 tc aD (tb ((oO o0 aA)) fun aC => A8 (decide (o4 ≤ aC.last)) aA aB) (A8 false aA aB)
theorem Zi (w55 : Bool) (o0 : (List Span)) (o5 : (List Int)) (o6 : (List Bool)) (w57 : Int) (o4 : Int) (o1 : Nat) (o2 : Nat) (o3 : Int) (w56 : Bool) : (MG KK 2 (.bool w55) (.slice (Rw Span.cells o0) .no) ([Vc (ci .i64) 1 o5, Vc cb 1 o6] : kT) (.int .i64 w57) (.int .i64 o4) (.vslice 0 o1 0 o1 1) (.vslice 1 o2 0 o2 1) (.int .i64 o3) (.bool w56)) = tm (A7 w55 o0 w57 o4 w56) fun r => (r.1.ex, [(.slice (Rw Span.cells o0) .no), (.vslice 0 o1 0 o1 1), (.vslice 1 o2 0 o2 1), (.int .i64 o3), (.int .i64 o4), (.bool r.2.1), (.int .i64 r.2.2)], ([Vc (ci .i64) 1 o5, Vc cb 1 o6] : kT)) := by
 simp +contextual -implicitDefEqProofs (maxSteps := 2000000) [-lS, -lK, -lD, -lF, -lL, -lQ, -lJ, MG, A7, RZ]
noncomputable def Jq (K : k9) (m : Nat) (s : List kR × kT) : Option R :=
 (fun aB aD aE aF aG aC aA aI => ln aB fun aP => bo .lss aA aP fun t30 => lG t30 (ix 1 aE aA fun aQ => ld false 1 aI aQ fun aH => gS true aH (kW aD aI) aI fun aR aK => gS true aH (kW aA aK) aK fun aS aL => gS true aH (ix 1 aR aS fun aT => kW aT aL) aL fun aU aJ => gS true aH (ld false 1 aJ aU fun aV => kW aV aJ) aJ fun aW aM => gS true aH (kW aF aM) aM fun aX aN => gS true aH (bo .eql aW aX fun t49 => kW t49 aN) aN fun aY aO => (lV aH aY (.bool false)).bind fun aZ => MG K m aZ aB aO aA aG aD aE aF aC) (lC m (.exit 0) [aB, aD, aE, aF, aG, aC, aA] aI)) (gd s.1 0) (gd s.1 1) (gd s.1 2) (gd s.1 3) (gd s.1 4) (gd s.1 5) (gd s.1 6) s.2
noncomputable def yC (o0 : (List Span)) (o1 : Nat) (o2 : Nat) (o3 : Int) (o4 : Int) (o5 : (List Int)) (o6 : (List Bool)) (aA : Bool × Int) : Option (Ey × Bool × Int) :=
 tc (decide (aA.2 < ((List.length o0 : Nat) : Int))) (tb ((BM o2 aA.2)) fun aB => tb ((s6 o2 o6 aB)) fun aD => tc aD (tb ((BM o1 aA.2)) fun aC => tb ((s6 o1 o5 aC)) fun Wq => A7 (decide (Wq = o3)) o0 aA.2 o4 aA.1) (A7 false o0 aA.2 o4 aA.1)) (some ((.x 0), (aA.1, aA.2)))
theorem W_ (o0 : (List Span)) (o1 : Nat) (o2 : Nat) (o3 : Int) (o4 : Int) (o5 : (List Int)) (o6 : (List Bool)) (s20 : Bool × Int) : Jq KK 2 ([(.slice (Rw Span.cells o0) .no), (.vslice 0 o1 0 o1 1), (.vslice 1 o2 0 o2 1), (.int .i64 o3), (.int .i64 o4), (.bool s20.1), (.int .i64 s20.2)], ([Vc (ci .i64) 1 o5, Vc cb 1 o6] : kT)) = tm (yC o0 o1 o2 o3 o4 o5 o6 s20) fun r => (r.1.ex, [(.slice (Rw Span.cells o0) .no), (.vslice 0 o1 0 o1 1), (.vslice 1 o2 0 o2 1), (.int .i64 o3), (.int .i64 o4), (.bool r.2.1), (.int .i64 r.2.2)], ([Vc (ci .i64) 1 o5, Vc cb 1 o6] : kT)) := by
 simp +contextual -implicitDefEqProofs (maxSteps := 2000000) [-lS, -lK, -lD, -lF, -lL, -lQ, -lJ, Jq, yC, RZ, Zi]
theorem Zh (o0 : (List Span)) (o1 : Nat) (o2 : Nat) (o3 : Int) (o4 : Int) (o5 : (List Int)) (o6 : (List Bool)) (i5 : Bool) (i6 : Int) : mJ (Jq KK 2) ([(.slice (Rw Span.cells o0) .no), (.vslice 0 o1 0 o1 1), (.vslice 1 o2 0 o2 1), (.int .i64 o3), (.int .i64 o4), (.bool i5), (.int .i64 i6)], ([Vc (ci .i64) 1 o5, Vc cb 1 o6] : kT)) = tm (v_ (yC o0 o1 o2 o3 o4 o5 o6) (i5, i6)) fun r => (r.1.ex, [(.slice (Rw Span.cells o0) .no), (.vslice 0 o1 0 o1 1), (.vslice 1 o2 0 o2 1), (.int .i64 o3), (.int .i64 o4), (.bool r.2.1), (.int .i64 r.2.2)], ([Vc (ci .i64) 1 o5, Vc cb 1 o6] : kT)) := by
 exact w6 (enc := fun s20 => ([(.slice (Rw Span.cells o0) .no), (.vslice 0 o1 0 o1 1), (.vslice 1 o2 0 o2 1), (.int .i64 o3), (.int .i64 o4), (.bool s20.1), (.int .i64 s20.2)], ([Vc (ci .i64) 1 o5, Vc cb 1 o6] : kT))) (fun s20 => W_ o0 o1 o2 o3 o4 o5 o6 s20) (i5, i6)
noncomputable def m96 (K : k9) (a0 a1 a2 a3 a4 : kR) (h0 : kT) : Option (n_ × kT) :=
 ((mJ (Jq K (List.length h0)) ([a0, a1, a2, a3, a4, (.bool false), (.int .i64 0)], h0)).bind fun aA => (fun aE aF aG aH aI aB aC aD => Ex.lY aA.1 none (fun aJ => Ex.inBlock 0 aJ (some (.ret, [(.bool false)], aD)) (fun aK => some (aK, [aB], aD)))) (gd aA.2.1 0) (gd aA.2.1 1) (gd aA.2.1 2) (gd aA.2.1 3) (gd aA.2.1 4) (gd aA.2.1 5) (gd aA.2.1 6) aA.2.2).bind (V9 (List.length h0))
theorem YI (K : k9) (a0 a1 a2 a3 a4 : kR) (h0 : kT) : qQ Tryd.prog nC mJ K 96 [a0, a1, a2, a3, a4] h0 = m96 (mI nC K) a0 a1 a2 a3 a4 h0 := by kernel_rfl
noncomputable def t96 (o0 : (List Span)) (o1 : Nat) (o2 : Nat) (o3 : Int) (o4 : Int) (o5 : (List Int)) (o6 : (List Bool)) : Option (Bool) :=
 tb (v_ (yC o0 o1 o2 o3 o4 o5 o6) (false, 0)) fun aA => As aA.1 none fun aB => Bm 0 aB (some false) fun aC => OD aC (some aA.2.1)
theorem b96 (o0 : (List Span)) (o1 : Nat) (o2 : Nat) (o3 : Int) (o4 : Int) (o5 : (List Int)) (o6 : (List Bool)) : m96 KK (.slice (Rw Span.cells o0) .no) (.vslice 0 o1 0 o1 1) (.vslice 1 o2 0 o2 1) (.int .i64 o3) (.int .i64 o4) ([Vc (ci .i64) 1 o5, Vc cb 1 o6] : kT) = tm (t96 o0 o1 o2 o3 o4 o5 o6) fun r => (.ret (.bool r), ([Vc (ci .i64) 1 o5, Vc cb 1 o6] : kT)) := by
 simp +contextual -implicitDefEqProofs (maxSteps := 2000000) [-lS, -lK, -lD, -lF, -lL, -lQ, -lJ, m96, t96, Zh, V9]
noncomputable def Rz (mm : Nat) (aA : R) : Option (n_ × kT) :=
 (fun aB aC aD aE => Ex.nV aA.1 (nE mm (.tuple [aB, aC, aD]) aE)) (gd aA.2.1 0) (gd aA.2.1 1) (gd aA.2.1 2) aA.2.2
theorem YO (n : Int) (h : kT) : oK 1 1 [(.bool false)] (.int .i64 n) h = tm (Sx 1 (false : Bool) n) fun l => (.vslice h.length l.length 0 l.length 1, h ++ [Vc cb 1 l]) := xY rfl
theorem YP (n : Int) (h : kT) : oK 1 8 [(.int .i64 0)] (.int .i64 n) h = tm (Sx 8 (0 : Int) n) fun l => (.vslice h.length l.length 0 l.length 1, h ++ [Vc (ci .i64) 1 l]) := xY rfl
theorem ZC (y0 : Int) (h : kT) (id tot j : Nat) (xs : List Int) : Oe 1 id h (some (Vc (ci .i64) 1 xs)) tot j (.int .i64 y0) = tb (s6 tot xs j) fun x => tm (Au tot xs j y0) fun zs => h.set id (Vc (ci .i64) 1 zs) := Nu (enc := (ci .i64)) y0 (fun _ => rfl) rfl rfl
noncomputable def Jk (K : k9) (m : Nat) (s : List kR × kT) : Option R :=
 (fun aD aE aF aB aG aC aA aH => ln aB fun aJ => bo .lss aA aJ fun aK => lG aK (ix 1 aC aA fun aL => (lU 1 aH aL (.int .i64 (-1))).bind fun aI => bo .add aA (.int .i64 1) fun aM => lC m .normal [aD, aE, aF, aB, aG, aC, aM] aI) (lC m (.exit 0) [aD, aE, aF, aB, aG, aC, aA] aH)) (gd s.1 0) (gd s.1 1) (gd s.1 2) (gd s.1 3) (gd s.1 4) (gd s.1 5) (gd s.1 6) s.2
noncomputable def DZ (aE : (List Span)) (aB : (List Int)) (aA : Int × (List Int)) : Option (Ey × Int × (List Int)) :=
 tc (decide (aA.1 < ((List.length aE : Nat) : Int))) (tb ((BM (List.length aB) aA.1)) fun aC => tb ((s6 (List.length aB) aA.2 aC)) fun aF => tb ((Au (List.length aB) aA.2 aC (-1))) fun aD => some (.n, ((IntKind.wrap .i64 (aA.1 + 1)), aD))) (some ((.x 0), (aA.1, aA.2)))
theorem W4 (w41 : (List Span)) (l36 : (List Bool)) (l40 : (List Int)) (p0 : IR) (s45 : Int × (List Int)) : Jk KK 4 ([(.slice (Rw (ci .i64) []) (.own 1)), (.int .i64 0), (.int .i64 0), (.slice (Rw Span.cells w41) .no), (.vslice 2 (List.length l36) 0 (List.length l36) 1), (.vslice 3 (List.length l40) 0 (List.length l40) 1), (.int .i64 s45.1)], ([.cells [(.int .i64 p0.temps), (.slice (Rw mK.cells p0.arrays) .no), (.slice (Rw lX.cells p0.blocks) .no), (.int .i64 p0.inn), (.int .i64 p0.out)], .front 0 0, Vc cb 1 l36, Vc (ci .i64) 1 s45.2] : kT)) = tm (DZ w41 l40 s45) fun r => (r.1.ex, [(.slice (Rw (ci .i64) []) (.own 1)), (.int .i64 0), (.int .i64 0), (.slice (Rw Span.cells w41) .no), (.vslice 2 (List.length l36) 0 (List.length l36) 1), (.vslice 3 (List.length l40) 0 (List.length l40) 1), (.int .i64 r.2.1)], ([.cells [(.int .i64 p0.temps), (.slice (Rw mK.cells p0.arrays) .no), (.slice (Rw lX.cells p0.blocks) .no), (.int .i64 p0.inn), (.int .i64 p0.out)], .front 0 0, Vc cb 1 l36, Vc (ci .i64) 1 r.2.2] : kT)) := by
 simp +contextual -implicitDefEqProofs (maxSteps := 2000000) [-lS, -lK, -lD, -lF, -lL, -lQ, -lJ, Jk, DZ, ZC]
theorem Y8 (w41 : (List Span)) (l36 : (List Bool)) (l40 : (List Int)) (p0 : IR) (i6 : Int) (i9 : (List Int)) : mJ (Jk KK 4) ([(.slice (Rw (ci .i64) []) (.own 1)), (.int .i64 0), (.int .i64 0), (.slice (Rw Span.cells w41) .no), (.vslice 2 (List.length l36) 0 (List.length l36) 1), (.vslice 3 (List.length l40) 0 (List.length l40) 1), (.int .i64 i6)], ([.cells [(.int .i64 p0.temps), (.slice (Rw mK.cells p0.arrays) .no), (.slice (Rw lX.cells p0.blocks) .no), (.int .i64 p0.inn), (.int .i64 p0.out)], .front 0 0, Vc cb 1 l36, Vc (ci .i64) 1 i9] : kT)) = tm (v_ (DZ w41 l40) (i6, i9)) fun r => (r.1.ex, [(.slice (Rw (ci .i64) []) (.own 1)), (.int .i64 0), (.int .i64 0), (.slice (Rw Span.cells w41) .no), (.vslice 2 (List.length l36) 0 (List.length l36) 1), (.vslice 3 (List.length l40) 0 (List.length l40) 1), (.int .i64 r.2.1)], ([.cells [(.int .i64 p0.temps), (.slice (Rw mK.cells p0.arrays) .no), (.slice (Rw lX.cells p0.blocks) .no), (.int .i64 p0.inn), (.int .i64 p0.out)], .front 0 0, Vc cb 1 l36, Vc (ci .i64) 1 r.2.2] : kT)) := by
 exact w6 (enc := fun s45 => ([(.slice (Rw (ci .i64) []) (.own 1)), (.int .i64 0), (.int .i64 0), (.slice (Rw Span.cells w41) .no), (.vslice 2 (List.length l36) 0 (List.length l36) 1), (.vslice 3 (List.length l40) 0 (List.length l40) 1), (.int .i64 s45.1)], ([.cells [(.int .i64 p0.temps), (.slice (Rw mK.cells p0.arrays) .no), (.slice (Rw lX.cells p0.blocks) .no), (.int .i64 p0.inn), (.int .i64 p0.out)], .front 0 0, Vc cb 1 l36, Vc (ci .i64) 1 s45.2] : kT))) (fun s45 => W4 w41 l36 l40 p0 s45) (i6, i9)
theorem acO (w75 : (List Span)) (l36 : (List Bool)) (p0 : IR) (w76 : (List Int)) : KK 95 [(.slice (Rw Span.cells w75) .no), (.vslice 2 (List.length l36) 0 (List.length l36) 1)] ([.cells [(.int .i64 p0.temps), (.slice (Rw mK.cells p0.arrays) .no), (.slice (Rw lX.cells p0.blocks) .no), (.int .i64 p0.inn), (.int .i64 p0.out)], .front 0 0, Vc cb 1 l36, Vc (ci .i64) 1 w76] : kT) = tm (t95 w75 (List.length l36) l36) fun r => (.ret (.int .i64 r), ([.cells [(.int .i64 p0.temps), (.slice (Rw mK.cells p0.arrays) .no), (.slice (Rw lX.cells p0.blocks) .no), (.int .i64 p0.inn), (.int .i64 p0.out)], .front 0 0, Vc cb 1 l36, Vc (ci .i64) 1 w76] : kT)) := by
 refine uJ (ids := [2]) rfl rfl ?_ ?_ rfl ?_ (RF ..) (b95 w75 (List.length l36) l36) fun r => ?_
 all_goals simp
theorem acP (w78 : (List Span)) (l40 : (List Int)) (l36 : (List Bool)) (s97 : Int) (u109 : Span) (p0 : IR) (w95 : (List Bool)) (w96 : (List Int)) : KK 96 [(.slice (Rw Span.cells w78) .no), (.vslice 3 (List.length l40) 0 (List.length l40) 1), (.vslice 2 (List.length l36) 0 (List.length l36) 1), (.int .i64 s97), (.int .i64 u109.first)] ([.cells [(.int .i64 p0.temps), (.slice (Rw mK.cells p0.arrays) .no), (.slice (Rw lX.cells p0.blocks) .no), (.int .i64 p0.inn), (.int .i64 p0.out)], .front 0 0, Vc cb 1 w95, Vc (ci .i64) 1 w96] : kT) = tm (t96 w78 (List.length l40) (List.length l36) s97 u109.first w96 w95) fun r => (.ret (.bool r), ([.cells [(.int .i64 p0.temps), (.slice (Rw mK.cells p0.arrays) .no), (.slice (Rw lX.cells p0.blocks) .no), (.int .i64 p0.inn), (.int .i64 p0.out)], .front 0 0, Vc cb 1 w95, Vc (ci .i64) 1 w96] : kT)) := by
 refine uJ (ids := [3, 2]) rfl rfl ?_ ?_ rfl ?_ (YI ..) (b96 w78 (List.length l40) (List.length l36) s97 u109.first w96 w95) fun r => ?_
 all_goals simp
noncomputable def Jl (K : k9) (m : Nat) (s : List kR × kT) : Option R :=
 (fun aH aI aG aC aD aE aF aA aB aJ => ix 2 aC aA fun aL => fa 0 aL fun aM => ld false 1 aJ aM fun aN => ca (K 96 [(kR.k8 aC), (kR.k8 aE), (kR.k8 aD), (kR.k8 aB), (kR.k8 aN)] aJ) fun aO aK => lG aO (bo .add aB (.int .i64 1) fun aP => lC m .normal [aH, aI, aG, aC, aD, aE, aF, aA, aP] aK) (lC m (.exit 4) [aH, aI, aG, aC, aD, aE, aF, aA, aB] aK)) (gd s.1 0) (gd s.1 1) (gd s.1 2) (gd s.1 3) (gd s.1 4) (gd s.1 5) (gd s.1 6) (gd s.1 7) (gd s.1 8) s.2
noncomputable def CA (aD : (List Span)) (aE : (List Bool)) (aF : (List Int)) (aG : Int) (aH : (List Bool)) (aI : (List Int)) (aB : Int) : Option (Ey × Int) :=
 tb ((oO aD aG)) fun aC => tb ((t96 aD (List.length aF) (List.length aE) aB aC.first aI aH)) fun aA => tc aA (some (.n, (IntKind.wrap .i64 (aB + 1)))) (some ((.x 4), aB))
theorem W5 (w78 : (List Span)) (l36 : (List Bool)) (l40 : (List Int)) (w92 : Int) (w93 : Int) (p0 : IR) (w95 : (List Bool)) (w96 : (List Int)) (s97 : Int) : Jl KK 4 ([(.slice (Rw (ci .i64) []) (.own 1)), (.int .i64 0), (.int .i64 0), (.slice (Rw Span.cells w78) .no), (.vslice 2 (List.length l36) 0 (List.length l36) 1), (.vslice 3 (List.length l40) 0 (List.length l40) 1), (.int .i64 w92), (.int .i64 w93), (.int .i64 s97)], ([.cells [(.int .i64 p0.temps), (.slice (Rw mK.cells p0.arrays) .no), (.slice (Rw lX.cells p0.blocks) .no), (.int .i64 p0.inn), (.int .i64 p0.out)], .front 0 0, Vc cb 1 w95, Vc (ci .i64) 1 w96] : kT)) = tm (CA w78 l36 l40 w93 w95 w96 s97) fun r => (r.1.ex, [(.slice (Rw (ci .i64) []) (.own 1)), (.int .i64 0), (.int .i64 0), (.slice (Rw Span.cells w78) .no), (.vslice 2 (List.length l36) 0 (List.length l36) 1), (.vslice 3 (List.length l40) 0 (List.length l40) 1), (.int .i64 w92), (.int .i64 w93), (.int .i64 r.2)], ([.cells [(.int .i64 p0.temps), (.slice (Rw mK.cells p0.arrays) .no), (.slice (Rw lX.cells p0.blocks) .no), (.int .i64 p0.inn), (.int .i64 p0.out)], .front 0 0, Vc cb 1 w95, Vc (ci .i64) 1 w96] : kT)) := by
 simp +contextual -implicitDefEqProofs (maxSteps := 2000000) [-lS, -lK, -lD, -lF, -lL, -lQ, -lJ, Jl, CA, acP]
theorem Y9 (w78 : (List Span)) (l36 : (List Bool)) (l40 : (List Int)) (w92 : Int) (w93 : Int) (p0 : IR) (w95 : (List Bool)) (w96 : (List Int)) (i8 : Int) : mJ (Jl KK 4) ([(.slice (Rw (ci .i64) []) (.own 1)), (.int .i64 0), (.int .i64 0), (.slice (Rw Span.cells w78) .no), (.vslice 2 (List.length l36) 0 (List.length l36) 1), (.vslice 3 (List.length l40) 0 (List.length l40) 1), (.int .i64 w92), (.int .i64 w93), (.int .i64 i8)], ([.cells [(.int .i64 p0.temps), (.slice (Rw mK.cells p0.arrays) .no), (.slice (Rw lX.cells p0.blocks) .no), (.int .i64 p0.inn), (.int .i64 p0.out)], .front 0 0, Vc cb 1 w95, Vc (ci .i64) 1 w96] : kT)) = tm (v_ (CA w78 l36 l40 w93 w95 w96) i8) fun r => (r.1.ex, [(.slice (Rw (ci .i64) []) (.own 1)), (.int .i64 0), (.int .i64 0), (.slice (Rw Span.cells w78) .no), (.vslice 2 (List.length l36) 0 (List.length l36) 1), (.vslice 3 (List.length l40) 0 (List.length l40) 1), (.int .i64 w92), (.int .i64 w93), (.int .i64 r.2)], ([.cells [(.int .i64 p0.temps), (.slice (Rw mK.cells p0.arrays) .no), (.slice (Rw lX.cells p0.blocks) .no), (.int .i64 p0.inn), (.int .i64 p0.out)], .front 0 0, Vc cb 1 w95, Vc (ci .i64) 1 w96] : kT)) := by
 exact w6 (enc := fun s97 => ([(.slice (Rw (ci .i64) []) (.own 1)), (.int .i64 0), (.int .i64 0), (.slice (Rw Span.cells w78) .no), (.vslice 2 (List.length l36) 0 (List.length l36) 1), (.vslice 3 (List.length l40) 0 (List.length l40) 1), (.int .i64 w92), (.int .i64 w93), (.int .i64 s97)], ([.cells [(.int .i64 p0.temps), (.slice (Rw mK.cells p0.arrays) .no), (.slice (Rw lX.cells p0.blocks) .no), (.int .i64 p0.inn), (.int .i64 p0.out)], .front 0 0, Vc cb 1 w95, Vc (ci .i64) 1 w96] : kT))) (fun s97 => W5 w78 l36 l40 w92 w93 p0 w95 w96 s97) i8
theorem ZD (y0 : Int) (h : kT) (id tot j : Nat) (xs : List Int) : Oe 1 id h (some (Vc (ci .i64) 1 xs)) tot j (.int .i64 y0) = tb (s6 tot xs j) fun x => tm (Au tot xs j y0) fun zs => h.set id (Vc (ci .i64) 1 zs) := Nu (enc := (ci .i64)) y0 (fun _ => rfl) rfl rfl
theorem ZE (y0 : Bool) (h : kT) (id tot j : Nat) (xs : List Bool) : Oe 1 id h (some (Vc cb 1 xs)) tot j (.bool y0) = tb (s6 tot xs j) fun x => tm (Au tot xs j y0) fun zs => h.set id (Vc cb 1 zs) := Nu (enc := cb) y0 (fun _ => rfl) rfl rfl
noncomputable def Mz (K : k9) (m : Nat) (a7 : kT) (aN : kR) (aO : kR) (aP : kR) (aQ : kR) (aR : kR) (aS : kR) (aK : kR) (aL : kR) : Option R :=
 (mJ (Jl K (List.length a7)) ([aN, aO, aP, aQ, aR, aS, aK, aL, (.int .i64 0)], a7)).bind fun aB => (fun aG aH aI aJ aC aD aE aA aF aM => Ex.lY aB.1 none (fun aT => Ex.inBlock 4 aT (ix 1 aD aA fun aX => (lU 1 aM aX aF).bind fun aV => ix 1 aC aA fun aY => (lU 1 aV aY (.bool true)).bind fun aW => bo .add aF (.int .i64 1) fun aZ => (Ah aE aZ).bind fun a6 => lC m .normal [aG, aH, aI, aJ, aC, aD, a6, aA] aW) (fun aU => lC m aU [aG, aH, aI, aJ, aC, aD, aE, aA] aM))) (gd aB.2.1 0) (gd aB.2.1 1) (gd aB.2.1 2) (gd aB.2.1 3) (gd aB.2.1 4) (gd aB.2.1 5) (gd aB.2.1 6) (gd aB.2.1 7) (gd aB.2.1 8) aB.2.2
noncomputable def GI (aF : (List Bool)) (aG : (List Int)) (aP : (List Span)) (aD : (List Bool)) (aE : (List Int)) (aM : Int) (aL : Int) : Option (Ey × Int × (List Bool) × (List Int)) :=
 tb (v_ (CA aP aD aE aL aF aG) 0) fun aA => As aA.1 none fun aH => Bm 4 aH (tb ((BM (List.length aE) aL)) fun aB => tb ((s6 (List.length aE) aG aB)) fun aN => tb ((Au (List.length aE) aG aB aA.2)) fun aJ => tb ((BM (List.length aD) aL)) fun aC => tb ((s6 (List.length aD) aF aC)) fun aO => tb ((Au (List.length aD) aF aC true)) fun aK => some (.n, ((max aM (IntKind.wrap .i64 (aA.2 + 1))), aK, aJ))) fun aI => some (aI, (aM, aF, aG))
theorem Y7 (p0 : IR) (w95 : (List Bool)) (w96 : (List Int)) (w78 : (List Span)) (l36 : (List Bool)) (l40 : (List Int)) (w92 : Int) (w93 : Int) : (Mz KK 4 ([.cells [(.int .i64 p0.temps), (.slice (Rw mK.cells p0.arrays) .no), (.slice (Rw lX.cells p0.blocks) .no), (.int .i64 p0.inn), (.int .i64 p0.out)], .front 0 0, Vc cb 1 w95, Vc (ci .i64) 1 w96] : kT) (.slice (Rw (ci .i64) []) (.own 1)) (.int .i64 0) (.int .i64 0) (.slice (Rw Span.cells w78) .no) (.vslice 2 (List.length l36) 0 (List.length l36) 1) (.vslice 3 (List.length l40) 0 (List.length l40) 1) (.int .i64 w92) (.int .i64 w93)) = tm (GI w95 w96 w78 l36 l40 w92 w93) fun r => (r.1.ex, [(.slice (Rw (ci .i64) []) (.own 1)), (.int .i64 0), (.int .i64 0), (.slice (Rw Span.cells w78) .no), (.vslice 2 (List.length l36) 0 (List.length l36) 1), (.vslice 3 (List.length l40) 0 (List.length l40) 1), (.int .i64 r.2.1), (.int .i64 w93)], ([.cells [(.int .i64 p0.temps), (.slice (Rw mK.cells p0.arrays) .no), (.slice (Rw lX.cells p0.blocks) .no), (.int .i64 p0.inn), (.int .i64 p0.out)], .front 0 0, Vc cb 1 r.2.2.1, Vc (ci .i64) 1 r.2.2.2] : kT)) := by
 simp +contextual -implicitDefEqProofs (maxSteps := 2000000) [-lS, -lK, -lD, -lF, -lL, -lQ, -lJ, Mz, GI, Y9, ZD, ZE]
theorem Xt (w78 : (List Span)) (l36 : (List Bool)) (p0 : IR) (w154 : (List Bool)) (w155 : (List Int)) : KK 95 [(.slice (Rw Span.cells w78) .no), (.vslice 2 (List.length l36) 0 (List.length l36) 1)] ([.cells [(.int .i64 p0.temps), (.slice (Rw mK.cells p0.arrays) .no), (.slice (Rw lX.cells p0.blocks) .no), (.int .i64 p0.inn), (.int .i64 p0.out)], .front 0 0, Vc cb 1 w154, Vc (ci .i64) 1 w155] : kT) = tm (t95 w78 (List.length l36) w154) fun r => (.ret (.int .i64 r), ([.cells [(.int .i64 p0.temps), (.slice (Rw mK.cells p0.arrays) .no), (.slice (Rw lX.cells p0.blocks) .no), (.int .i64 p0.inn), (.int .i64 p0.out)], .front 0 0, Vc cb 1 w154, Vc (ci .i64) 1 w155] : kT)) := by
 refine uJ (ids := [2]) rfl rfl ?_ ?_ rfl ?_ (RF ..) (b95 w78 (List.length l36) w154) fun r => ?_
 all_goals simp
noncomputable def EU (K : k9) (m : Nat) (s : List kR × kT) : Option R :=
 (fun aL aM aN aO aP aQ aF aB aU => bo .geq aB (.int .i64 0) fun aW => lG aW ((Mz K (List.length aU) aU aL aM aN aO aP aQ aF aB).bind fun aA => (fun aG aH aI aC aD aJ aE aK aR => Ex.inBlock 3 aA.1 (ca (K 95 [(kR.k8 aC), (kR.k8 aD)] aR) fun aV aT => lC m .normal [aG, aH, aI, aC, aD, aJ, aE, aV] aT) (fun aS => lC m aS [aG, aH, aI, aC, aD, aJ, aE, aK] aR)) (gd aA.2.1 0) (gd aA.2.1 1) (gd aA.2.1 2) (gd aA.2.1 3) (gd aA.2.1 4) (gd aA.2.1 5) (gd aA.2.1 6) (gd aA.2.1 7) aA.2.2) (lC m (.exit 2) [aL, aM, aN, aO, aP, aQ, aF, aB] aU)) (gd s.1 0) (gd s.1 1) (gd s.1 2) (gd s.1 3) (gd s.1 4) (gd s.1 5) (gd s.1 6) (gd s.1 7) s.2
noncomputable def BE (aF : (List Span)) (aE : (List Bool)) (aG : (List Int)) (aB : Int × Int × (List Bool) × (List Int)) : Option (Ey × Int × Int × (List Bool) × (List Int)) :=
 tc (decide (0 ≤ aB.2.1)) (tb (GI aB.2.2.1 aB.2.2.2 aF aE aG aB.1 aB.2.1) fun aA => Bm 3 aA.1 (tb ((t95 aF (List.length aE) aA.2.2.1)) fun aD => some (.n, (aA.2.1, aD, aA.2.2.1, aA.2.2.2))) fun aC => some (aC, (aA.2.1, aB.2.1, aA.2.2.1, aA.2.2.2))) (some ((.x 2), (aB.1, aB.2.1, aB.2.2.1, aB.2.2.2)))
theorem TK (w78 : (List Span)) (l36 : (List Bool)) (l40 : (List Int)) (p0 : IR) (s81 : Int × Int × (List Bool) × (List Int)) : EU KK 4 ([(.slice (Rw (ci .i64) []) (.own 1)), (.int .i64 0), (.int .i64 0), (.slice (Rw Span.cells w78) .no), (.vslice 2 (List.length l36) 0 (List.length l36) 1), (.vslice 3 (List.length l40) 0 (List.length l40) 1), (.int .i64 s81.1), (.int .i64 s81.2.1)], ([.cells [(.int .i64 p0.temps), (.slice (Rw mK.cells p0.arrays) .no), (.slice (Rw lX.cells p0.blocks) .no), (.int .i64 p0.inn), (.int .i64 p0.out)], .front 0 0, Vc cb 1 s81.2.2.1, Vc (ci .i64) 1 s81.2.2.2] : kT)) = tm (BE w78 l36 l40 s81) fun r => (r.1.ex, [(.slice (Rw (ci .i64) []) (.own 1)), (.int .i64 0), (.int .i64 0), (.slice (Rw Span.cells w78) .no), (.vslice 2 (List.length l36) 0 (List.length l36) 1), (.vslice 3 (List.length l40) 0 (List.length l40) 1), (.int .i64 r.2.1), (.int .i64 r.2.2.1)], ([.cells [(.int .i64 p0.temps), (.slice (Rw mK.cells p0.arrays) .no), (.slice (Rw lX.cells p0.blocks) .no), (.int .i64 p0.inn), (.int .i64 p0.out)], .front 0 0, Vc cb 1 r.2.2.2.1, Vc (ci .i64) 1 r.2.2.2.2] : kT)) := by
 simp +contextual -implicitDefEqProofs (maxSteps := 2000000) [-lS, -lK, -lD, -lF, -lL, -lQ, -lJ, EU, BE, Y7, Xt]
theorem UQ (w78 : (List Span)) (l36 : (List Bool)) (l40 : (List Int)) (p0 : IR) (i6 : Int) (i7 : Int) (i9 : (List Bool)) (i10 : (List Int)) : mJ (EU KK 4) ([(.slice (Rw (ci .i64) []) (.own 1)), (.int .i64 0), (.int .i64 0), (.slice (Rw Span.cells w78) .no), (.vslice 2 (List.length l36) 0 (List.length l36) 1), (.vslice 3 (List.length l40) 0 (List.length l40) 1), (.int .i64 i6), (.int .i64 i7)], ([.cells [(.int .i64 p0.temps), (.slice (Rw mK.cells p0.arrays) .no), (.slice (Rw lX.cells p0.blocks) .no), (.int .i64 p0.inn), (.int .i64 p0.out)], .front 0 0, Vc cb 1 i9, Vc (ci .i64) 1 i10] : kT)) = tm (v_ (BE w78 l36 l40) (i6, i7, i9, i10)) fun r => (r.1.ex, [(.slice (Rw (ci .i64) []) (.own 1)), (.int .i64 0), (.int .i64 0), (.slice (Rw Span.cells w78) .no), (.vslice 2 (List.length l36) 0 (List.length l36) 1), (.vslice 3 (List.length l40) 0 (List.length l40) 1), (.int .i64 r.2.1), (.int .i64 r.2.2.1)], ([.cells [(.int .i64 p0.temps), (.slice (Rw mK.cells p0.arrays) .no), (.slice (Rw lX.cells p0.blocks) .no), (.int .i64 p0.inn), (.int .i64 p0.out)], .front 0 0, Vc cb 1 r.2.2.2.1, Vc (ci .i64) 1 r.2.2.2.2] : kT)) := by
 exact w6 (enc := fun s81 => ([(.slice (Rw (ci .i64) []) (.own 1)), (.int .i64 0), (.int .i64 0), (.slice (Rw Span.cells w78) .no), (.vslice 2 (List.length l36) 0 (List.length l36) 1), (.vslice 3 (List.length l40) 0 (List.length l40) 1), (.int .i64 s81.1), (.int .i64 s81.2.1)], ([.cells [(.int .i64 p0.temps), (.slice (Rw mK.cells p0.arrays) .no), (.slice (Rw lX.cells p0.blocks) .no), (.int .i64 p0.inn), (.int .i64 p0.out)], .front 0 0, Vc cb 1 s81.2.2.1, Vc (ci .i64) 1 s81.2.2.2] : kT))) (fun s81 => TK w78 l36 l40 p0 s81) (i6, i7, i9, i10)
noncomputable def m48 (K : k9) (a0 : kR) (h0 : kT) : Option (n_ × kT) :=
 (lE (nG 5 h0 a0) fun bD aV => (fun (bE : kR) (aW : kT) => ld true 5 aW bD fun bF => ca (K 46 [(kR.k8 bF)] aW) fun a6 aR => (mF 0 a6).bind fun aS => (mF 1 a6).bind fun a7 => bo .neq a7 (.int .i64 0) fun t30 => lG t30 ((fun (bG : kR) (bB : kT) => some (.ret, [bG, (.int .i64 0), a7], bB)) (.slice (Rw (ci .i64) []) (.own (List.length aR))) (aR ++ [.front 0 0])) (ln aS fun bH => lE (oK 1 1 [(.bool false)] bH aR) fun bI bC => ln aS fun bJ => lE (oK 1 8 [(.int .i64 0)] bJ bC) fun bK aX => (mJ (Jk K (List.length aX)) ([bE, (.int .i64 0), (.int .i64 0), aS, bI, bK, (.int .i64 0)], aX)).bind fun aB => (fun aD aE aF aG aH aN a8 aY => Ex.lY aB.1 none (fun a_ => Ex.inBlock 0 a_ (ca (K 95 [(kR.k8 aG), (kR.k8 aH)] aY) fun t73 aZ => (mJ (EU K (List.length aZ)) ([aD, aE, aF, aG, aH, aN, (.int .i64 0), t73], aZ)).bind fun aA => (fun aI aJ aK aT aU aL aC aO aM => Ex.lY aA.1 none (fun aP => Ex.inBlock 2 aP (some (.ret, [aL, aC, (.int .i64 0)], aM)) (fun aQ => some (aQ, [aI, aJ, aK], aM)))) (gd aA.2.1 0) (gd aA.2.1 1) (gd aA.2.1 2) (gd aA.2.1 3) (gd aA.2.1 4) (gd aA.2.1 5) (gd aA.2.1 6) (gd aA.2.1 7) aA.2.2) (fun bA => some (bA, [aD, aE, aF], aY)))) (gd aB.2.1 0) (gd aB.2.1 1) (gd aB.2.1 2) (gd aB.2.1 3) (gd aB.2.1 4) (gd aB.2.1 5) (gd aB.2.1 6) aB.2.2)) (.slice (Rw (ci .i64) []) (.own (List.length aV))) (aV ++ [.front 0 0])).bind (Rz (List.length h0))
theorem Yi (K : k9) (a0 : kR) (h0 : kT) : qQ Tryd.prog nC mJ K 48 [a0] h0 = m48 (mI nC K) a0 h0 := by kernel_rfl
end Go.Proofs.YtkeoalhglkfbkaaDoor


namespace Go.Proofs.YtkeoalhglkfbkaaDoor
open Go Hk
def Cc (s : Span) (a : Int) : Span := if s.first < 0 then ⟨a, a⟩ else ⟨min s.first a, max s.last a⟩
def BN (l : List Span) (a : Int) (t : Int) : List Span := match l[t.toNat]? with
 | some s => l.set t.toNat (Cc s a)
 | none => l
theorem U4 {l : List Span} {a t : Int} : (BN l a t).length = l.length := by unfold BN; split <;> simp
theorem LB {a : Int} : ∀ {ts : List Int} {l : List Span}, (ts.foldl (BN · a) l).length = l.length
 | [], _ => rfl
 | t :: ts, l => by rw [List.foldl_cons, LB, U4]
theorem Lt {l : List Span} {n : Nat} {a : Int} {ts : List Int} (hn : l.length = n) (ha : 0 ≤ a) (hl : ts.length ≤ 2000000) (ht : ∀ t ∈ ts, 0 ≤ t ∧ t.toNat < n) : t83 n a ts l = some (ts.foldl (BN · a) l) := by
 have key : ∀ (d i : Nat), ts.length = i + d → v_ (A5 n a ts ((ts.length : Nat) : Int)) ((i : Int), (ts.take i).foldl (BN · a) l) = some (.x 0, ((ts.length : Int), ts.foldl (BN · a) l)) := by
  intro d
  induction d with
  | zero =>
   intro i hi
   obtain rfl : i = ts.length := by omega
   rw [List.take_length]
   refine qX ?_ (by simp)
   simp [A5]
  | succ d ih =>
   intro i hi
   rw [← ih (i + 1) (by omega)]
   refine rD ?_
   have hil : i < ts.length := by omega
   have e1 : oO ts (i : Int) = some ts[i] := by rw [nZ, List.getElem?_eq_getElem hil]
   have w1 : IntKind.i64.wrap ((i : Int) + 1) = ((i + 1 : Nat) : Int) := by rw [wrap64 (by omega) (by omega), Int.natCast_add]; rfl
   have hii : (i : Int) < (ts.length : Int) := by omega
   obtain ⟨h0, h1⟩ := ht _ (List.getElem_mem hil)
   have hLl : ((ts.take i).foldl (BN · a) l).length = n := by rw [LB, hn]
   have hstep : (ts.take (i + 1)).foldl (BN · a) l = BN ((ts.take i).foldl (BN · a) l) a ts[i] := by
    rw [List.take_succ_eq_append_getElem hil, List.foldl_append]; rfl
   rw [hstep]
   generalize (ts.take i).foldl (BN · a) l = L at *
   generalize ts[i] = t at *
   have hin : BM n t = some t.toNat := by unfold BM; rw [if_pos ⟨h0, by omega⟩]
   have hg : ∀ (L : List Span), L.length = n → s6 n L t.toNat = L[t.toNat]? := fun L h => by unfold s6; rw [if_pos h]
   have hs : ∀ (L : List Span) (x : Span), L.length = n → Au n L t.toNat x = some (L.set t.toNat x) := fun L x h => by unfold Au; rw [if_pos ⟨h, by omega⟩]
   have hLt : L[t.toNat]? = some L[t.toNat] := List.getElem?_eq_getElem (by omega)
   have hU : BN L a t = L.set t.toNat (Cc L[t.toNat] a) := by unfold BN; rw [hLt]
   rw [hU]
   generalize L[t.toNat] = s at *
   have hset : ∀ x : Span, (L.set t.toNat x)[t.toNat]? = some x := fun x => List.getElem?_set_self (by omega)
   have hlen : ∀ x : Span, (L.set t.toNat x).length = n := fun x => by rw [List.length_set]; exact hLl
   by_cases hf : s.first < 0
   ·have hj : CD true a n t L = some (L.set t.toNat ⟨a, a⟩) := by simp [CD, hin, hg L hLl, hLt, hs L _ hLl]
    have hE : Cc s a = ⟨a, a⟩ := by unfold Cc; rw [if_pos hf]
    simp only [A5, e1, hii, decide_true, oN, mH, hin, hg L hLl, hLt, hf, hj, hg _ (hlen _), hset, hs _ _ (hlen _), List.set_set, w1, hE]
    simp
   ·have hj : CD false a n t L = some L := by simp [CD]
    have hE : Cc s a = ⟨min s.first a, max s.last a⟩ := by unfold Cc; rw [if_neg hf]
    simp only [A5, e1, hii, decide_true, oN, mH, hin, hg L hLl, hLt, hf, decide_false, hj, hs L _ hLl, hg _ (hlen _), hset, hs _ _ (hlen _), List.set_set, w1, hE]
 have := key ts.length 0 (by omega)
 have e0 : ((0 : Nat) : Int) = 0 := rfl
 rw [e0, List.take_zero, List.foldl_nil] at this
 simp [t83, this]
def q_ (m : List Bool) : Span := (m.foldl (fun (st : Nat × Span) b => (st.1 + 1, if b then Cc st.2 (st.1 : Int) else st.2)) (0, ⟨-1, -1⟩)).2
theorem PG (m : List Bool) (st : Nat × Span) : (m.foldl (fun (st : Nat × Span) b => (st.1 + 1, if b then Cc st.2 (st.1 : Int) else st.2)) st).1 = st.1 + m.length := by
 induction m generalizing st with
 | nil => rfl
 | cons b m ih => rw [List.foldl_cons, ih]; simp; omega
theorem tF (m : List Bool) (b : Bool) : q_ (m ++ [b]) = if b then Cc (q_ m) (m.length : Int) else q_ m := by
 unfold q_
 rw [List.foldl_append]
 have := PG m (0, ⟨-1, -1⟩)
 simp only [Nat.zero_add] at this
 simp only [List.foldl_cons, List.foldl_nil, this]
theorem Mb {s : Span} {a : Int} (ha : 0 ≤ a) : Cc (Cc s a) a = Cc s a := by
 unfold Cc
 by_cases h : s.first < 0
 ·simp only [h, if_true]
  rw [if_neg (by omega)]
  simp
 ·simp only [h, if_false]
  have : ¬ (min s.first a < 0) := by omega
  rw [if_neg this]
  congr 1 <;> omega
def LS (N : Nat) (F : Nat → List Bool) : List Span := (List.range N).map fun t => q_ (F t)
theorem uL {N : Nat} {F : Nat → List Bool} : (LS N F).length = N := by simp [LS]
theorem Kb {N : Nat} {F G : Nat → List Bool} (h : ∀ t, t < N → F t = G t) : LS N F = LS N G := by
 unfold LS
 refine List.map_congr_left fun t ht => ?_
 rw [h t (List.mem_range.1 ht)]
theorem WE {N a : Nat} {M : Nat → List Bool} {c : Nat → Bool} (hM : ∀ t, (M t).length = a) (u : Int) : BN (LS N fun t => M t ++ [c t]) (a : Int) u = LS N fun t => M t ++ [c t || decide (t = u.toNat)] := by
 apply List.ext_getElem?
 intro j
 unfold BN
 by_cases hu : u.toNat < N
 ·have e : (LS N fun t => M t ++ [c t])[u.toNat]? = some (q_ (M u.toNat ++ [c u.toNat])) := by
   unfold LS; rw [List.getElem?_map, List.getElem?_range hu]; rfl
  rw [e]
  simp only
  rw [List.getElem?_set]
  by_cases hj : u.toNat = j
  ·subst hj
   rw [if_pos rfl, if_pos (by rw [uL]; exact hu)]
   unfold LS
   rw [List.getElem?_map, List.getElem?_range hu]
   simp only [Option.map_some, decide_true, Bool.or_true]
   rw [tF, tF, hM]
   cases c u.toNat with
   | true => simp [Mb (Int.natCast_nonneg a)]
   | false => simp
  ·rw [if_neg hj]
   unfold LS
   rw [List.getElem?_map, List.getElem?_map]
   by_cases hjN : j < N
   ·rw [List.getElem?_range hjN]
    have : ¬ j = u.toNat := fun e => hj e.symm
    simp [this]
   ·have : (List.range N)[j]? = none := by simp; omega
    rw [this]; rfl
 ·have e : (LS N fun t => M t ++ [c t])[u.toNat]? = none := by
   rw [List.getElem?_eq_none_iff, uL]; omega
  rw [e]
  simp only
  unfold LS
  rw [List.getElem?_map, List.getElem?_map]
  by_cases hjN : j < N
  ·rw [List.getElem?_range hjN]
   have : ¬ j = u.toNat := by omega
   simp [this]
  ·have : (List.range N)[j]? = none := by simp; omega
   rw [this]; rfl
def vO (ts : List Int) (t : Nat) : Bool := ts.any fun u => decide (t = u.toNat)
theorem Bc {N a : Nat} {M : Nat → List Bool} (hM : ∀ t, (M t).length = a) : ∀ (ts : List Int) (c : Nat → Bool), ts.foldl (BN · (a : Int)) (LS N fun t => M t ++ [c t]) = LS N fun t => M t ++ [c t || vO ts t]
 | [], c => by simp [vO]
 | u :: ts, c => by
  rw [List.foldl_cons, WE hM, Bc hM ts]
  refine Kb fun t _ => ?_
  simp [vO, Bool.or_assoc]
end Go.Proofs.YtkeoalhglkfbkaaDoor


namespace Go.Proofs.YtkeoalhglkfbkaaDoor
open Go Hk
def ZI (o : Op) (t : Nat) : Bool := vO (mW o) t || ((mM o.kind).dst && decide (t = o.dst.toNat))
def tE (b : lX) (t : Nat) : Bool := decide (b.term.kind = 2) && decide (t = b.term.a.toNat)
def s_ (c : Bool) : List Bool → List Bool
 | [] => []
 | x :: r => (c || x) :: r
def mB (inn out : Bool) (b : lX) (t : Nat) : List Bool := s_ inn (b.ops.map (fun o => ZI o t) ++ [tE b t || out])
theorem BX (l : List Bool) : s_ false l = l := by cases l <;> simp [s_]
theorem K0 (c : Bool) (l : List Bool) : (s_ c l).length = l.length := by cases l <;> rfl
theorem YL {i o : Bool} {b : lX} {t : Nat} : (mB i o b t).length = b.ops.length + 1 := by simp [mB, K0]
open Classical in
noncomputable def Jt (p : IR) (k : Nat) (t : Nat) : List Bool := match p.blocks[k]? with
 | some b => mB (decide (Reach p.blocks (t : Int) k)) (decide (pS p.blocks (t : Int) b.term)) b t
 | none => []
noncomputable def sA (p : IR) (k : Nat) (t : Nat) : List Bool := (List.range k).flatMap fun i => Jt p i t
theorem DQ {p : IR} {k t : Nat} : sA p (k + 1) t = sA p k t ++ Jt p k t := by simp [sA, List.range_succ]
noncomputable def oR (p : IR) : List Span := LS p.temps.toNat (sA p p.blocks.length)
theorem Kc {N : Nat} {f : Nat → List Bool} : (LS N fun t => f t ++ [false]) = LS N f := by
 unfold LS; refine List.map_congr_left fun t _ => ?_; rw [tF]; rfl
section
variable {p : IR} (hp : wK p) {N : Nat} (hN : (N : Int) = p.temps)
include hp hN
theorem Sn {b : lX} (hb : b ∈ p.blocks) {l38 : List Span} (hl : l38.length = N) : ∀ (d k a : Nat) (D : Nat → List Bool) (c : Nat → Bool), b.ops.length = k + d → (∀ t, (D t).length = a) → a + d ≤ 4000000000000 →
  ∃ (D' : Nat → List Bool) (c' : Nat → Bool), v_ (Cz l38 b ((b.ops.length : Nat) : Int)) ((a : Int), (k : Int), LS N fun t => D t ++ [c t]) = some (.x 4, (((a + d : Nat) : Int), (b.ops.length : Int), LS N fun t => D' t ++ [c' t])) ∧
   (∀ t, (D' t).length = a + d) ∧ ∀ t e, D' t ++ [c' t || e] = D t ++ s_ (c t) ((b.ops.drop k).map (fun o => ZI o t) ++ [e]) := by
 intro d
 induction d with
 | zero =>
  intro k a D c hk hD ha
  obtain rfl : k = b.ops.length := by omega
  refine ⟨D, c, qX ?_ (by simp), hD, fun t e => by simp [s_]⟩
  simp [Cz]
 | succ d ih =>
  intro k a D c hk hD ha
  have hil : k < b.ops.length := by omega
  have hm := List.getElem_mem hil
  have h1 := hp.len b hb
  have hset : ∀ (f : Nat → List Bool), LS N f = LS N fun t => f t ++ [false] := fun f => by
   unfold LS; refine List.map_congr_left fun t _ => ?_; rw [tF]; rfl
  obtain ⟨D', c', e1, e2, e3⟩ := ih (k + 1) (a + 1) (fun t => D t ++ [c t || ZI b.ops[k] t]) (fun _ => false) (by omega) (fun t => by simp [hD]) (by omega)
  refine ⟨D', c', ?_, fun t => by rw [e2]; omega, fun t e => ?_⟩
  ·rw [show a + (d + 1) = a + 1 + d by omega, ← e1]
   refine rD ?_
   have ei : oO b.ops (k : Int) = some b.ops[k] := by rw [nZ, List.getElem?_eq_getElem hil]
   have hii : (k : Int) < (b.ops.length : Int) := by omega
   have w1 : IntKind.i64.wrap ((k : Int) + 1) = ((k + 1 : Nat) : Int) := by rw [wrap64 (by omega) (by omega), Int.natCast_add]; rfl
   have w2 : IntKind.i64.wrap ((a : Int) + 1) = ((a + 1 : Nat) : Int) := by rw [wrap64 (by omega) (by omega), Int.natCast_add]; rfl
   have hu := hp.use b hb _ hm
   have hd := hp.made b hb _ hm
   have hul : (mW b.ops[k]).length ≤ 2000000 := by
    unfold mW; rw [List.length_take]; simp; omega
   generalize b.ops[k] = o at *
   have h83 := Lt (l := LS N fun t => D t ++ [c t]) (n := N) (a := (a : Int)) (ts := mW o) uL (by omega) hul (fun t ht => by have := hu t ht; omega)
   rw [Bc hD] at h83
   simp only [Cz, hl, ei, hii, decide_true, oN, mH, t74, t73, h83, w1, w2]
   cases hdst : (mM o.kind).dst with
   | false =>
    have hj : Cy false (LS N fun t => D t ++ [c t || vO (mW o) t]) o l38 (a : Int) = some (LS N fun t => D t ++ [c t || vO (mW o) t]) := by simp [Cy]
    rw [hj, mH, hset (fun t => D t ++ [c t || vO (mW o) t])]
    simp only [ZI, hdst, Bool.false_and, Bool.or_false]
   | true =>
    have hd' := hd hdst
    have h83' := Lt (l := LS N fun t => D t ++ [c t || vO (mW o) t]) (n := N) (a := (a : Int)) (ts := [o.dst]) uL (by omega) (by simp) (fun t ht => by simp at ht; subst ht; omega)
    have h2 := Bc (N := N) hD [o.dst] (fun t => c t || vO (mW o) t)
    rw [h2] at h83'
    have hj : Cy true (LS N fun t => D t ++ [c t || vO (mW o) t]) o l38 (a : Int) = some (LS N fun t => D t ++ [(c t || vO (mW o) t) || vO [o.dst] t]) := by
     simp only [Cy, oN, hl, h83', mH]
    rw [hj, mH, hset (fun t => D t ++ [(c t || vO (mW o) t) || vO [o.dst] t])]
    simp only [ZI, hdst, Bool.true_and, vO, List.any_cons, List.any_nil, Bool.or_false, Bool.or_assoc]
  ·rw [e3, BX, List.drop_eq_getElem_cons hil, List.map_cons, List.cons_append, List.append_assoc]
   rfl
open Classical in
theorem TU {k : Nat} (hk : k < p.blocks.length) {t : Nat} (ht : t < N) : vO (sK p k) t = decide (Reach p.blocks (t : Int) k) := by
 rw [Bool.eq_iff_iff]
 unfold vO
 rw [List.any_eq_true, decide_eq_true_iff]
 constructor
 ·rintro ⟨u, hu, h⟩
  obtain ⟨h0, _, h2⟩ := zP.1 hu
  have : (t : Int) = u := by have := of_decide_eq_true h; omega
  rw [this]; exact h2
 ·intro h
  exact ⟨(t : Int), zP.2 ⟨by omega, by omega, h⟩, by simp⟩
open Classical in
theorem Q8 {k : Nat} {b : lX} (hb : p.blocks[k]? = some b) {t : Nat} (ht : t < N) : vO (pJ p k) t = decide (pS p.blocks (t : Int) b.term) := by
 rw [Bool.eq_iff_iff]
 unfold vO
 rw [List.any_eq_true, decide_eq_true_iff]
 constructor
 ·rintro ⟨u, hu, h⟩
  obtain ⟨h0, _, h2⟩ := (r_ hb).1 hu
  have : (t : Int) = u := by have := of_decide_eq_true h; omega
  rw [this]; exact h2
 ·intro h
  exact ⟨(t : Int), (r_ hb).2 ⟨by omega, by omega, h⟩, by simp⟩
theorem Sl {k a : Nat} {b : lX} (hb : p.blocks[k]? = some b) (h0 : mZ p = 0) {l38 : List Span} (hl : l38.length = N) {D : Nat → List Bool} (hD : ∀ t, (D t).length = a) (ha : a ≤ 2000000000000) :
  GH p (k : Int) (LS N fun t => D t ++ [false]) (qF p) l38 (a : Int) (qG p) = some (.n, (((a + (b.ops.length + 1) : Nat) : Int), LS N fun t => (D t ++ Jt p k t) ++ [false])) := by
 have hbm := List.mem_of_getElem? hb
 have hkl : k < p.blocks.length := (List.getElem?_eq_some_iff.1 hb).1
 have hlen := hp.len b hbm
 have eb : oO p.blocks (k : Int) = some b := by rw [nZ, hb]
 have ei : oO (qF p) (k : Int) = some (sK p k) := by
  rw [nZ, qF, if_pos h0, List.getElem?_map, List.getElem?_range hkl]; rfl
 have eo : oO (qG p) (k : Int) = some (pJ p k) := by
  rw [nZ, qG, if_pos h0, List.getElem?_map, List.getElem?_range hkl]; rfl
 have hin : ∀ t ∈ sK p k, 0 ≤ t ∧ t.toNat < N := fun t ht => by obtain ⟨h1, h2, _⟩ := zP.1 ht; omega
 have hout : ∀ t ∈ pJ p k, 0 ≤ t ∧ t.toNat < N := fun t ht => by obtain ⟨h1, h2, _⟩ := (r_ hb).1 ht; omega
 have hil : (sK p k).length ≤ 2000000 := (DE p).1 _ (List.mem_of_getElem? (by rw [← nZ]; exact ei))
 have hol : (pJ p k).length ≤ 2000000 := (DF p).1 _ (List.mem_of_getElem? (by rw [← nZ]; exact eo))
 have s1 := Lt (l := LS N fun t => D t ++ [false]) (n := N) (a := (a : Int)) (ts := sK p k) uL (by omega) hil hin
 rw [Bc hD] at s1
 obtain ⟨D', c', g1, g2, g3⟩ := Sn hp hN hbm hl b.ops.length 0 a D (fun t => false || vO (sK p k) t) (by omega) hD (by omega)
 have n0 : ((0 : Nat) : Int) = 0 := rfl
 rw [n0] at g1
 have s2 : ∃ c2 : Nat → Bool, BC (decide (b.term.kind = 2)) (LS N fun t => D' t ++ [c' t]) b l38 ((a + b.ops.length : Nat) : Int) = some (LS N fun t => D' t ++ [c2 t]) ∧ ∀ t, c2 t = (c' t || tE b t) := by
  by_cases hk2 : b.term.kind = 2
  ·have ht := hp.term b hbm hk2
   have s := Lt (l := LS N fun t => D' t ++ [c' t]) (n := N) (a := ((a + b.ops.length : Nat) : Int)) (ts := [b.term.a]) uL (by omega) (by simp) (fun t h => by simp at h; subst h; omega)
   rw [Bc g2] at s
   refine ⟨fun t => c' t || vO [b.term.a] t, ?_, fun t => by simp [tE, hk2, vO]⟩
   simp only [BC, hk2, decide_true, oN, hl, s, mH]
  ·refine ⟨c', ?_, fun t => by simp [tE, hk2]⟩
   simp only [BC, hk2, decide_false, qB]
 obtain ⟨c2, s2, hc2⟩ := s2
 have s3 := Lt (l := LS N fun t => D' t ++ [c2 t]) (n := N) (a := ((a + b.ops.length : Nat) : Int)) (ts := pJ p k) uL (by omega) hol hout
 rw [Bc g2] at s3
 have w1 : IntKind.i64.wrap (((a + b.ops.length : Nat) : Int) + 1) = ((a + (b.ops.length + 1) : Nat) : Int) := by rw [wrap64 (by omega) (by omega)]; omega
 unfold GH
 simp only [eb, ei, mH, hl, s1, g1, As, Bm, beq_self_eq_true, cond_true, s2, eo, s3, w1]
 have hfin : (LS N fun t => D' t ++ [c2 t || vO (pJ p k) t]) = LS N fun t => (D t ++ Jt p k t) ++ [false] := by
  rw [Kc]
  refine Kb fun t ht => ?_
  have := g3 t (tE b t || vO (pJ p k) t)
  rw [List.drop_zero] at this
  rw [hc2, Bool.or_assoc, this]
  unfold Jt
  rw [hb]
  simp only [mB, Bool.false_or, TU hp hN hkl ht, Q8 hp hN hb ht]
 rw [hfin]
omit hN in
theorem AP : ∀ (k t : Nat), k ≤ p.blocks.length → (sA p k t).length = ((p.blocks.take k).map fun b => b.ops.length + 1).sum ∧ ((p.blocks.take k).map fun b => b.ops.length + 1).sum ≤ k * 1048577
 | 0, t, _ => by simp [sA]
 | k + 1, t, hk => by
  have hkl : k < p.blocks.length := by omega
  obtain ⟨h1, h2⟩ := AP k t (by omega)
  have h3 := hp.len _ (List.getElem_mem hkl)
  rw [DQ, List.length_append, h1, List.take_succ_eq_append_getElem hkl, List.map_append, List.sum_append]
  have : (Jt p k t).length = p.blocks[k].ops.length + 1 := by unfold Jt; rw [List.getElem?_eq_getElem hkl]; exact YL
  rw [this]
  simp only [List.map_cons, List.map_nil, List.sum_cons, List.sum_nil]
  omega
theorem PN (h0 : mZ p = 0) {l38 : List Span} (hl : l38.length = N) : ∀ (d k : Nat), p.blocks.length = k + d →
  v_ (BD (qF p) (qG p) l38 p ((p.blocks.length : Nat) : Int)) (((((p.blocks.take k).map fun b => b.ops.length + 1).sum : Nat) : Int), (k : Int), LS N fun t => sA p k t ++ [false]) =
   some (.x 2, (((((p.blocks.take p.blocks.length).map fun b => b.ops.length + 1).sum : Nat) : Int), (p.blocks.length : Int), LS N fun t => sA p p.blocks.length t ++ [false])) := by
 intro d
 induction d with
 | zero =>
  intro k hk
  obtain rfl : k = p.blocks.length := by omega
  refine qX ?_ (by simp)
  simp [BD]
 | succ d ih =>
  intro k hk
  have hkl : k < p.blocks.length := by omega
  rw [← ih (k + 1) (by omega)]
  refine rD ?_
  have hnb := hp.nb
  have hle : ∀ t, (sA p k t).length = ((p.blocks.take k).map fun b => b.ops.length + 1).sum := fun t => (AP hp k t (by omega)).1
  have hle2 := (AP hp k 0 (by omega)).2
  have hb : p.blocks[k]? = some p.blocks[k] := List.getElem?_eq_getElem hkl
  have hs : ((p.blocks.take (k + 1)).map fun b => b.ops.length + 1).sum = ((p.blocks.take k).map fun b => b.ops.length + 1).sum + (p.blocks[k].ops.length + 1) := by
   rw [List.take_succ_eq_append_getElem hkl, List.map_append, List.sum_append]; simp
  have hg := Sl hp hN hb h0 hl hle (by have : k * 1048577 ≤ 1048576 * 1048577 := Nat.mul_le_mul_right _ (by omega); omega)
  have hii : (k : Int) < (p.blocks.length : Int) := by omega
  have w1 : IntKind.i64.wrap ((k : Int) + 1) = ((k + 1 : Nat) : Int) := by rw [wrap64 (by omega) (by omega), Int.natCast_add]; rfl
  simp only [BD, hii, decide_true, oN, hg, mH, Bm, w1, hs, DQ]
theorem Sm {l38 : List Span} (hl : l38.length = N) (hN2 : N ≤ 2000000) : ∀ (d k : Nat) (R : List Span), N = k + d → R.length = d →
  v_ (DY l38 ((l38.length : Nat) : Int)) ((k : Int), List.replicate k ⟨-1, -1⟩ ++ R) = some (.x 0, ((N : Int), List.replicate N ⟨-1, -1⟩)) := by
 intro d
 induction d with
 | zero =>
  intro k R hk hR
  obtain rfl : k = N := by omega
  have : R = [] := List.eq_nil_of_length_eq_zero hR
  subst this
  refine qX ?_ (by simp)
  simp [DY, hl]
 | succ d ih =>
  intro k R hk hR
  obtain ⟨x, R, rfl⟩ : ∃ x r, R = x :: r := by cases R with | nil => simp at hR | cons x r => exact ⟨x, r, rfl⟩
  rw [← ih (k + 1) R (by omega) (by simpa using hR)]
  refine rD ?_
  have hii : (k : Int) < (l38.length : Int) := by omega
  have w1 : IntKind.i64.wrap ((k : Int) + 1) = ((k + 1 : Nat) : Int) := by rw [wrap64 (by omega) (by omega), Int.natCast_add]; rfl
  have e1 : BM l38.length (k : Int) = some k := by unfold BM; rw [if_pos (by omega)]; rfl
  have hlen : (List.replicate k (⟨-1, -1⟩ : Span) ++ x :: R).length = l38.length := by simp at hR ⊢; omega
  have e2 : s6 l38.length (List.replicate k ⟨-1, -1⟩ ++ x :: R) k = some x := by
   unfold s6; rw [if_pos hlen, List.getElem?_append_right (by simp)]; simp
  have e3 : Au l38.length (List.replicate k ⟨-1, -1⟩ ++ x :: R) k ⟨-1, -1⟩ = some (List.replicate (k + 1) ⟨-1, -1⟩ ++ R) := by
   unfold Au
   rw [if_pos ⟨hlen, by rw [hlen]; omega⟩, List.set_append_right _ _ (by simp), List.length_replicate, Nat.sub_self, List.set_cons_zero, List.replicate_succ', List.append_assoc]
   rfl
  simp only [DY, hii, decide_true, oN, e1, mH, e2, e3, w1]
end
theorem Er : ∀ {a b x y : List kR}, mU a = some x → mU b = some y → mU (a ++ b) = some (x ++ y)
 | [], b, x, y, h1, h2 => by simp only [mU, Option.some.injEq] at h1; subst h1; exact h2
 | v :: a, b, x, y, h1, h2 => by
  simp only [mU] at h1
  split at h1
  ·rename_i u w e1 e2
   cases h1
   simp only [List.cons_append, mU, e1, Er e2 h2]
  ·cases h1
theorem Gl {α : Type} {enc : α → List kR} (hp : ∀ x, mU (enc x) = some (enc x)) : ∀ xs : List α, mU (Rw enc xs).flatten = some (Rw enc xs).flatten
 | [] => rfl
 | x :: r => by
  have e : (Rw enc (x :: r)).flatten = enc x ++ (Rw enc r).flatten := rfl
  rw [e]; exact Er (hp x) (Gl hp r)
theorem Ie {α : Type} {enc : α → List kR} {sz : Nat} (he : ∀ x, (enc x).length = sz) : ∀ xs : List α, rowsOf xs.length sz (Rw enc xs).flatten = Rw enc xs
 | [] => rfl
 | x :: r => by
  have e : (Rw enc (x :: r)).flatten = enc x ++ (Rw enc r).flatten := rfl
  rw [List.length_cons, rowsOf, e, ← he x, List.take_left, List.drop_left, he x, Ie he r]; rfl
theorem JP {α : Type} {enc : α → List kR} {sz id m : Nat} {h : kT} {xs : List α} (hm : ¬ id < m) (he : ∀ x, (enc x).length = sz) (hp : ∀ x, mU (enc x) = some (enc x)) (hb : h[id]? = some (Vc enc sz xs)) :
  kR.nM m h (.vslice id xs.length 0 xs.length sz) = .slice (Rw enc xs) .no := by
 have hl := vE he xs
 have ht : (((Rw enc xs).flatten.drop 0).take (xs.length * sz)) = (Rw enc xs).flatten := by rw [List.drop_zero, List.take_of_length_le (by rw [hl]; exact Nat.le_refl _)]
 have hd : decide (id < m) = false := decide_eq_false hm
 unfold kR.nM
 simp only [hd, cond_false, hb, Vc, ht, Gl hp, Ie he, hl, Nat.zero_add, Nat.le_refl, and_self, decide_true, cond_true]
theorem c45 (p : IR) (h : kT) : KK 45 [.agg [.int .i64 p.temps, .slice (Rw mK.cells p.arrays) .no, .slice (Rw lX.cells p.blocks) .no, .int .i64 p.inn, .int .i64 p.out]] h =
  some (.ret (.tuple [.slice (Rw Span.cells (if mZ p = 0 then oR p else [])) .no, .int .i64 (mZ p)]), h) := by
 refine lZ rfl rfl (mN (Yg _ _ _) ?_)
 by_cases h0 : mZ p = 0
 ·obtain ⟨hp, hl⟩ := tY h0
  obtain ⟨_, lp, _, _, _⟩ := rZ h0
  have ht0 := lp.t0
  have ht1 := lp.t1
  have hN : ((p.temps.toNat : Nat) : Int) = p.temps := by omega
  have hmk : Sx 16 (⟨0, 0⟩ : Span) p.temps = some (List.replicate p.temps.toNat ⟨0, 0⟩) := by
   unfold Sx; rw [if_pos ⟨by omega, by omega, by omega⟩]
  generalize hl38 : List.replicate p.temps.toNat (⟨0, 0⟩ : Span) = l38 at hmk
  have hlen : l38.length = p.temps.toNat := by rw [← hl38]; simp
  have l2 := Sm hp hN (l38 := l38) hlen (by omega) p.temps.toNat 0 l38 (by omega) hlen
  have l14 := PN hp hN h0 (l38 := l38) hlen p.blocks.length 0 (by omega)
  have n0 : ((0 : Nat) : Int) = 0 := rfl
  have hR : (LS p.temps.toNat fun t => sA p 0 t ++ [false]) = List.replicate p.temps.toNat ⟨-1, -1⟩ := by
   unfold LS sA
   rw [List.eq_replicate_iff]
   refine ⟨by simp, fun x hx => ?_⟩
   obtain ⟨t, _, rfl⟩ := List.mem_map.1 hx
   rfl
  rw [hR] at l14
  simp only [n0, List.replicate_zero, List.nil_append, List.take_zero, List.map_nil, List.sum_nil] at l2 l14
  rw [Kc] at l14
  have hs : (LS p.temps.toNat (sA p p.blocks.length)) = oR p := rfl
  rw [hs] at l14
  have hsl : (oR p).length = l38.length := by rw [hlen]; exact uL
  rw [if_pos h0]
  have hfz : ∀ (b0 b1 : lW) (R : kT), kR.nM 0 (b0 :: b1 :: Vc Span.cells 2 (oR p) :: R) (.vslice 2 l38.length 0 l38.length 2) = .slice (Rw Span.cells (oR p)) .no := by
   intro b0 b1 R
   rw [← hsl]
   exact JP (enc := Span.cells) (by omega) (fun _ => rfl) (fun _ => rfl) rfl
  simp -implicitDefEqProofs [-lS, -lK, -lD, -lF, -lL, -lQ, -lJ, m45, Gq, t27, h0, YN, hmk, Y5, UP, l2, l14, Ru]
  simp only [kR.oM, List.map_cons, List.map_nil, hfz]
  rfl
 ·rw [if_neg h0]
  simp -implicitDefEqProofs [-lS, -lK, -lD, -lF, -lL, -lQ, -lJ, m45, Gq, t27, h0, Ru]
end Go.Proofs.YtkeoalhglkfbkaaDoor


namespace Go.Proofs.YtkeoalhglkfbkaaDoor
open Go Hk
theorem IC {id sz n : Nat} (h : n ≠ 0) : Vs id sz n = .vslice id n 0 n sz := if_neg h
theorem CK {α : Type} {enc : α → List kR} {sz : Nat} {xs : List α} (h : xs.length ≠ 0) : Vb enc sz xs = Vc enc sz xs := if_neg h
theorem Qu {id n i : Nat} (hi : i < n) : kY 1 (Vs id 1 n) (.int .i64 (i : Int)) = some (.vptr id n i) := by
 rw [IC (by omega)]; simp [kY, hi]
theorem abR {α : Type} {enc : α → List kR} {h : kT} {id i : Nat} {U : List α} {c : α → kR} (he : ∀ x, enc x = [c x]) (hb : h[id]? = some (Vb enc 1 U)) (hi : i < U.length) : kV false 1 h (.vptr id U.length i) = some (c U[i]) := by
 rw [CK (by omega)] at hb
 have := AD (enc := enc) (sz := 1) (h := h) (id := id) (xs := U) (tot := U.length) (j := i) (off := 0) (fun x => by rw [he]; rfl) hb (by omega)
 rw [Nat.mul_one, Nat.add_zero, s6, if_pos rfl, List.getElem?_eq_getElem hi] at this
 rw [this]; simp [he]
theorem VO {H : kT} {id : Nat} {o : List Bool} {k : Bool} {T : Hk.Tok} (hb : H[id]? = some (Vb cb 1 o)) (ho : o.length ≤ 4000000000000) :
  mY 1 1 H (Vs id 1 o.length) (.slice [[.bool k]] T) = some (Vs id 1 (o ++ [k]).length, H.set id (Vb cb 1 (o ++ [k]))) := by
 have h := Fe (enc := cb) (sz := 1) (by_ := 1) (id := id) (h := H) (xs := o) (ys := [k]) (T := T) (fun _ => rfl) (by simp) hb
 have e : xB 1 o [k] = some (o ++ [k]) := by unfold xB; rw [if_pos (by simp; omega)]
 rw [e, vB] at h
 have n0 : (o ++ [k]).length ≠ 0 := by simp
 rw [IC n0, CK n0]
 exact h
theorem Cs {m : Nat} {h : kT} {o : List Int} : pA m h (Vb (ci .i64) 1 o) = some (Vb (ci .i64) 1 o) := by
 unfold Vb; split
 ·rfl
 ·exact y9 (fun x => by simp)
theorem rF {m : Nat} {h : kT} {o : List Bool} : pA m h (Vb cb 1 o) = some (Vb cb 1 o) := by
 unfold Vb; split
 ·rfl
 ·exact y9 (fun x => by simp)
theorem Gz {id m n : Nat} {h : kT} (hm : id < m) : kR.oM m h (Vs id 1 n) = Vs id 1 n := by
 unfold Vs; split
 ·simp [kR.oM, kR.nM, hm]
 ·simp [kR.oM, kR.nM, hm]
def sN (o : Op) (t : Int) : Bool := (mW o).any (fun u => decide (u = t)) || ((mM o.kind).dst && decide (o.dst = t))
theorem OU {oc : List kR} (ho : ∀ m h, mP m h oc = some oc) {U : List Int} (hU : U.length ≤ 1000) (t : Int) : ∀ (d i : Nat), U.length = i + d →
  ∃ j : Int, mJ (Bs KK 2) ([.int .i64 t, .ptr 0 0, .bool false, Vs 1 1 U.length, .int .i64 (i : Int)], [.cells oc, Vb (ci .i64) 1 U]) =
   some ((if (U.drop i).any (fun u => decide (u = t)) then (Ex.ret) else (.exit 0)), [.int .i64 t, .ptr 0 0, .bool ((U.drop i).any (fun u => decide (u = t))), Vs 1 1 U.length, .int .i64 j], [.cells oc, Vb (ci .i64) 1 U]) := by
 have hl : ∀ h : kT, kR.oM 2 h (Vs 1 1 U.length) = Vs 1 1 U.length := fun h => Gz (by omega)
 intro d
 induction d with
 | zero =>
  intro i hi
  obtain rfl : i = U.length := by omega
  refine ⟨(U.length : Int), ?_⟩
  rw [mE]
  simp [Bs, ho, hl, Cs]
 | succ d ih =>
  intro i hi
  have hil : i < U.length := by omega
  have e1 := Qu (id := 1) hil
  have e2 : kV false 1 [.cells oc, Vb (ci .i64) 1 U] (.vptr 1 U.length i) = some (.int .i64 U[i]) := abR (c := kR.int .i64) (fun _ => rfl) rfl hil
  have w1 : IntKind.i64.wrap ((i : Int) + 1) = ((i + 1 : Nat) : Int) := by rw [wrap64 (by omega) (by omega), Int.natCast_add]; rfl
  rw [List.drop_eq_getElem_cons hil]
  by_cases hx : U[i] = t
  ·refine ⟨(i : Int), ?_⟩
   rw [mE]
   simp [Bs, ho, hl, Cs, e1, e2, hx, hil, -sU, -lL]
  ·obtain ⟨j, hj⟩ := ih (i + 1) (by omega)
   refine ⟨j, ?_⟩
   rw [mE]
   have : Bs KK 2 ([.int .i64 t, .ptr 0 0, .bool false, Vs 1 1 U.length, .int .i64 (i : Int)], [.cells oc, Vb (ci .i64) 1 U]) = some (.normal, [.int .i64 t, .ptr 0 0, .bool false, Vs 1 1 U.length, .int .i64 ((i + 1 : Nat) : Int)], [.cells oc, Vb (ci .i64) 1 U]) := by
    simp [Bs, ho, hl, Cs, e1, e2, hx, hil, w1, -sU, -lL]
   rw [this]
   simp only [Option.bind_some, pC, hj, List.any_cons, decide_eq_false hx, Bool.false_or]
theorem ag6 (o : Op) (t : Int) (h : kT) : KK 159 [.agg [.int .i64 o.kind, .int .i64 o.dst, .int .i64 o.a, .int .i64 o.b, .int .i64 o.c, .int .i64 o.imm], .int .i64 t] h = some (.ret (.bool (sN o t)), h) := by
 refine lZ rfl rfl (mN (UB _ _ _ _) ?_)
 have hul : (mW o).length ≤ 1000 := by unfold mW; rw [List.length_take]; simp; omega
 obtain ⟨j, hj⟩ := OU (oc := [.int .i64 o.kind, .int .i64 o.dst, .int .i64 o.a, .int .i64 o.b, .int .i64 o.c, .int .i64 o.imm]) (fun m h => by simp) hul t (mW o).length 0 (by omega)
 have n0 : ((0 : Nat) : Int) = 0 := rfl
 rw [n0, List.drop_zero] at hj
 have h100 : ∀ h, KK 100 [.agg [.int .i64 o.kind, .int .i64 o.dst, .int .i64 o.a, .int .i64 o.b, .int .i64 o.c, .int .i64 o.imm]] h = some (.ret (Vs h.length 1 (mW o).length), h ++ [Vb (ci .i64) 1 (mW o)]) := fun h => by rw [Hg]; rfl
 have h101 : ∀ h, KK 101 [.agg [.int .i64 o.kind, .int .i64 o.dst, .int .i64 o.a, .int .i64 o.b, .int .i64 o.c, .int .i64 o.imm]] h = some (.ret (.bool (mM o.kind).dst), h) := fun h => by rw [zX]; rfl
 unfold sN
 generalize (mW o).any (fun u => decide (u = t)) = x at *
 cases x with
 | true => simp [Rn, h100, hj, BL]
 | false =>
  cases hd : (mM o.kind).dst <;> rw [hd] at h101
  ·simp [Rn, h100, hj, h101]
  ·by_cases ht : o.dst = t
   ·subst ht; simp [Rn, h100, hj, h101]
   ·simp [Rn, h100, hj, h101, ht]
section
variable {p : IR} (hp : wK p) (hl : ∀ b ∈ p.blocks, pT b.term = oY b.term)
def HM (p : IR) (l : List Bool) : kT := [.cells [.int .i64 p.temps, .slice (Rw mK.cells p.arrays) .no, .slice (Rw lX.cells p.blocks) .no, .int .i64 p.inn, .int .i64 p.out], .front 0 0, Vb cb 1 l]
def WC (p : IR) (l : List Bool) (b : lX) : kT := [.cells [.int .i64 p.temps, .slice (Rw mK.cells p.arrays) .no, .slice (Rw lX.cells p.blocks) .no, .int .i64 p.inn, .int .i64 p.out], .front 0 0, Vb cb 1 l, .cells [.slice (Rw Op.cells b.ops) .no, .int .i64 b.term.kind, .int .i64 b.term.a, .int .i64 b.term.yes, .int .i64 b.term.no], .front 0 0]
include hp in
theorem Pq {b : lX} (hb : b ∈ p.blocks) (t : Int) (x8 : Int) (x6 : Int) : ∀ (d k : Nat) (l : List Bool), b.ops.length = k + d → l.length + d ≤ 2000000000000 →
  mJ (Gc KK 5) ([.int .i64 t, .ptr 0 0, .slice [] (.own 1), Vs 2 1 l.length, .int .i64 x6, .ptr 3 0, .int .i64 x8, .int .i64 (k : Int)], WC p l b) =
   some (.exit 2, [.int .i64 t, .ptr 0 0, .slice [] (.own 1), Vs 2 1 (l ++ (b.ops.drop k).map fun o => sN o t).length, .int .i64 x6, .ptr 3 0, .int .i64 x8, .int .i64 (b.ops.length : Int)], WC p (l ++ (b.ops.drop k).map fun o => sN o t) b) := by
 intro d
 induction d with
 | zero =>
  intro k l hk hll
  obtain rfl : k = b.ops.length := by omega
  have hs : ∀ h : kT, kR.oM 5 h (Vs 2 1 l.length) = Vs 2 1 l.length := fun h => Gz (by omega)
  rw [mE]
  simp [Gc, WC, hs, rF]
 | succ d ih =>
  intro k l hk hll
  have hil : k < b.ops.length := by omega
  have hlen := hp.len b hb
  have ih := ih (k + 1) (l ++ [sN b.ops[k] t]) (by omega) (by simp; omega)
  have e1 : oO b.ops (k : Int) = some b.ops[k] := by rw [nZ, List.getElem?_eq_getElem hil]
  have w1 : IntKind.i64.wrap ((k : Int) + 1) = ((k + 1 : Nat) : Int) := by rw [wrap64 (by omega) (by omega), Int.natCast_add]; rfl
  have hs : ∀ (n : Nat) (h : kT), kR.oM 5 h (Vs 2 1 n) = Vs 2 1 n := fun n h => Gz (by omega)
  have ha := fun H T h => VO (H := H) (id := 2) (o := l) (k := sN b.ops[k] t) (T := T) h (by omega)
  have h159 := ag6 b.ops[k] t
  rw [mE]
  have hst : Gc KK 5 ([.int .i64 t, .ptr 0 0, .slice [] (.own 1), Vs 2 1 l.length, .int .i64 x6, .ptr 3 0, .int .i64 x8, .int .i64 (k : Int)], WC p l b) =
   some (.normal, [.int .i64 t, .ptr 0 0, .slice [] (.own 1), Vs 2 1 (l ++ [sN b.ops[k] t]).length, .int .i64 x6, .ptr 3 0, .int .i64 x8, .int .i64 ((k + 1 : Nat) : Int)], WC p (l ++ [sN b.ops[k] t]) b) := by
   generalize sN b.ops[k] t = x at *
   simp [Gc, WC, hs, rF, hil, e1, h159, lP, oL, mU, kR.tK, rowsOf, ha, w1]
  rw [hst]
  simp only [Option.bind_some, pC]
  rw [ih, List.drop_eq_getElem_cons hil]
  simp only [List.map_cons, List.append_assoc, List.singleton_append]
theorem PD {l R : List Bool} (hR : R ≠ []) : (l ++ R).set l.length true = l ++ s_ true R := by
 rw [List.set_append_right _ _ (Nat.le_refl _), Nat.sub_self]
 cases R with
 | nil => exact absurd rfl hR
 | cons x r => simp [s_]
open Classical in
noncomputable def Pr (p : IR) (k : Nat) (t : Int) : List Bool := match p.blocks[k]? with
 | some b => s_ (decide (Reach p.blocks t k)) (b.ops.map (fun o => sN o t) ++ [(decide (b.term.kind = 2) && decide (b.term.a = t)) || decide (pS p.blocks t b.term)])
 | none => []
include hp hl
open Classical in
theorem RD {k : Nat} {b : lX} (hb : p.blocks[k]? = some b) (t : Int) (l : List Bool) (hll : l.length ≤ 1500000000000) :
  w8 KK 3 ([.int .i64 t, .ptr 0 0, .slice [] (.own 1), Vs 2 1 l.length, .int .i64 (k : Int)], HM p l) =
   some (.normal, [.int .i64 t, .ptr 0 0, .slice [] (.own 1), Vs 2 1 (l ++ Pr p k t).length, .int .i64 ((k + 1 : Nat) : Int)], HM p (l ++ Pr p k t)) := by
 have hbm := List.mem_of_getElem? hb
 have hkl : k < p.blocks.length := (List.getElem?_eq_some_iff.1 hb).1
 have hlen := hp.len b hbm
 have hnb := hp.nb
 have e1 : oO p.blocks (k : Int) = some b := by rw [nZ, hb]
 have hl0 := Pq hp hbm t (l.length : Int) (k : Int) b.ops.length 0 l (by omega) (by omega)
 have n0 : ((0 : Nat) : Int) = 0 := rfl
 rw [n0, List.drop_zero] at hl0
 have h65 : ∀ h, KK 65 [.agg [.int .i64 p.temps, .slice (Rw mK.cells p.arrays) .no, .slice (Rw lX.cells p.blocks) .no, .int .i64 p.inn, .int .i64 p.out], .int .i64 (k : Int), .int .i64 t] h = some (.ret (.bool (decide (Reach p.blocks t k))), h) := fun h => c65 hp hl hkl t h
 have h66 : ∀ h, KK 66 [.agg [.int .i64 p.temps, .slice (Rw mK.cells p.arrays) .no, .slice (Rw lX.cells p.blocks) .no, .int .i64 p.inn, .int .i64 p.out], .int .i64 (k : Int), .int .i64 t] h = some (.ret (.bool (decide (pS p.blocks t b.term))), h) := fun h => c66 hp hl hb t h
 have hm : Pr p k t = s_ (decide (Reach p.blocks t k)) (b.ops.map (fun o => sN o t) ++ [(decide (b.term.kind = 2) && decide (b.term.a = t)) || decide (pS p.blocks t b.term)]) := by unfold Pr; rw [hb]
 rw [hm]
 have w1 : IntKind.i64.wrap ((k : Int) + 1) = ((k + 1 : Nat) : Int) := by rw [wrap64 (by omega) (by omega), Int.natCast_add]; rfl
 have hs : ∀ (m n : Nat) (h : kT), 2 < m → kR.oM m h (Vs 2 1 n) = Vs 2 1 n := fun m n h hm => Gz hm
 have hvl : ∀ n : Nat, lN (Vs 2 1 n) = some (.int .i64 (n : Int)) := fun n => Fw
 generalize hl1 : l ++ b.ops.map (fun o => sN o t) = l1 at *
 have hl1l : l1.length = l.length + b.ops.length := by rw [← hl1]; simp
 generalize decide (Reach p.blocks t k) = re at *
 generalize decide (pS p.blocks t b.term) = be at *
 have key : ∀ v : Bool, v = ((decide (b.term.kind = 2) && decide (b.term.a = t)) || be) → True := fun _ _ => trivial
 have ha := fun v H T h => VO (H := H) (id := 2) (o := l1) (k := v) (T := T) h (by omega)
 have hi : ∀ v : Bool, kY 1 (Vs 2 1 (l1 ++ [v]).length) (.int .i64 (l.length : Int)) = some (.vptr 2 (l1 ++ [v]).length l.length) := fun v => Qu (by simp; omega)
 have hst : ∀ (v : Bool) (b0 b1 b3 b4 b5 : lW), lU 1 [b0, b1, Vb cb 1 (l1 ++ [v]), b3, b4, b5] (.vptr 2 (l1 ++ [v]).length l.length) (.bool true) = some [b0, b1, Vb cb 1 ((l1 ++ [v]).set l.length true), b3, b4, b5] := by
  intro v b0 b1 b3 b4 b5
  have hne : (l1 ++ [v]).length ≠ 0 := by simp
  rw [CK hne, CK (by rw [List.length_set]; exact hne)]
  have := B9 (enc := cb) (sz := 1) (h := [b0, b1, Vc cb 1 (l1 ++ [v]), b3, b4, b5]) (id := 2) (tot := (l1 ++ [v]).length) (j := l.length) (xs := l1 ++ [v]) (v := .bool true) true (fun _ => rfl) rfl (by omega) rfl rfl
  rw [Nat.mul_one] at this
  rw [this, s6, if_pos rfl, List.getElem?_eq_getElem (by simp; omega), mH, Au, if_pos ⟨rfl, by simp; omega⟩]
  rfl
 have fin : ∀ v : Bool, l ++ s_ true (b.ops.map (fun o => sN o t) ++ [v]) = (l1 ++ [v]).set l.length true := by
  intro v; rw [← PD (by simp), ← hl1, List.append_assoc]
 have fin2 : ∀ v : Bool, l ++ s_ false (b.ops.map (fun o => sN o t) ++ [v]) = l1 ++ [v] := by
  intro v; rw [BX, ← hl1, List.append_assoc]
 simp only [HM, WC] at hl0 ⊢
 by_cases hk2 : b.term.kind = 2
 ·by_cases hat : b.term.a = t
  ·cases re
   ·rw [fin2]
    have q1 := eq_true hk2
    have q2 := eq_true hat
    simp only [q1, q2, decide_true, Bool.true_and, Bool.true_or]
    clear hk2 hat
    simp [w8, hs, rF, hkl, e1, hvl, hl0, q1, q2, h65, lP, oL, mU, kR.tK, rowsOf, ha, w1]
   ·rw [fin]
    have q1 := eq_true hk2
    have q2 := eq_true hat
    simp only [q1, q2, decide_true, Bool.true_and, Bool.true_or]
    clear hk2 hat
    have hi := hi true
    rw [List.length_append, List.length_singleton] at hi
    have hst := hst true
    rw [List.length_append, List.length_singleton] at hst
    simp [w8, hs, rF, hkl, e1, hvl, hl0, q1, q2, h65, lP, oL, mU, kR.tK, rowsOf, ha, w1, hi, hst, -Bh, -lJ]
  ·have q1 := eq_true hk2
   cases re
   ·rw [fin2]
    simp only [hat, decide_false, Bool.and_false, Bool.false_or]
    simp [w8, hs, rF, hkl, e1, hvl, hl0, q1, hat, h66, h65, lP, oL, mU, kR.tK, rowsOf, ha, w1]
   ·rw [fin]
    simp only [hat, decide_false, Bool.and_false, Bool.false_or]
    have hi := hi be
    rw [List.length_append, List.length_singleton] at hi
    have hst := hst be
    rw [List.length_append, List.length_singleton] at hst
    simp [w8, hs, rF, hkl, e1, hvl, hl0, q1, hat, h66, h65, lP, oL, mU, kR.tK, rowsOf, ha, w1, hi, hst, -Bh, -lJ]
 ·cases re
  ·rw [fin2]
   simp only [hk2, decide_false, Bool.false_and, Bool.false_or]
   simp [w8, hs, rF, hkl, e1, hvl, hl0, hk2, h66, h65, lP, oL, mU, kR.tK, rowsOf, ha, w1]
  ·rw [fin]
   simp only [hk2, decide_false, Bool.false_and, Bool.false_or]
   have hi := hi be
   rw [List.length_append, List.length_singleton] at hi
   have hst := hst be
   rw [List.length_append, List.length_singleton] at hst
   simp [w8, hs, rF, hkl, e1, hvl, hl0, hk2, h66, h65, lP, oL, mU, kR.tK, rowsOf, ha, w1, hi, hst, -Bh, -lJ]
omit hl in
open Classical in
theorem YM {k t : Nat} : Pr p k (t : Int) = Jt p k t := by
 unfold Pr Jt
 cases hb : p.blocks[k]? with
 | none => rfl
 | some b =>
  have hbm := List.mem_of_getElem? hb
  simp only [mB]
  have h1 : b.ops.map (fun o => sN o (t : Int)) = b.ops.map fun o => ZI o t := by
   refine List.map_congr_left fun o ho => ?_
   unfold sN ZI vO
   have hu := hp.use b hbm o ho
   have hd := hp.made b hbm o ho
   have e1 : (mW o).any (fun u => decide (u = (t : Int))) = (mW o).any fun u => decide (t = u.toNat) := by
    rw [Bool.eq_iff_iff, List.any_eq_true, List.any_eq_true]
    constructor
    ·rintro ⟨u, h1, h2⟩; exact ⟨u, h1, by have := hu u h1; have := of_decide_eq_true h2; exact decide_eq_true (by omega)⟩
    ·rintro ⟨u, h1, h2⟩; exact ⟨u, h1, by have := hu u h1; have := of_decide_eq_true h2; exact decide_eq_true (by omega)⟩
   rw [e1]
   cases hdd : (mM o.kind).dst with
   | false => rfl
   | true =>
    have := hd hdd
    congr 1
    rw [Bool.eq_iff_iff]; simp; omega
  have h2 : (decide (b.term.kind = 2) && decide (b.term.a = (t : Int))) = tE b t := by
   unfold tE
   by_cases hk : b.term.kind = 2
   ·have := hp.term b hbm hk
    rw [Bool.eq_iff_iff]; simp [hk]; omega
   ·simp [hk]
  rw [h1, h2]
theorem RC (t : Nat) : ∀ (d k : Nat), p.blocks.length = k + d →
  mJ (w8 KK 3) ([.int .i64 (t : Int), .ptr 0 0, .slice [] (.own 1), Vs 2 1 (sA p k t).length, .int .i64 (k : Int)], HM p (sA p k t)) =
   some (.exit 0, [.int .i64 (t : Int), .ptr 0 0, .slice [] (.own 1), Vs 2 1 (sA p p.blocks.length t).length, .int .i64 (p.blocks.length : Int)], HM p (sA p p.blocks.length t)) := by
 intro d
 induction d with
 | zero =>
  intro k hk
  obtain rfl : k = p.blocks.length := by omega
  have hs : ∀ (n : Nat) (h : kT), kR.oM 3 h (Vs 2 1 n) = Vs 2 1 n := fun n h => Gz (by omega)
  rw [mE]
  simp [w8, HM, hs, rF]
 | succ d ih =>
  intro k hk
  have hkl : k < p.blocks.length := by omega
  have hb : p.blocks[k]? = some p.blocks[k] := List.getElem?_eq_getElem hkl
  obtain ⟨h1, h2⟩ := AP hp k t (by omega)
  have hnb := hp.nb
  have hst := RD hp hl hb (t : Int) (sA p k t) (by have : k * 1048577 ≤ 1048576 * 1048577 := Nat.mul_le_mul_right _ (by omega); omega)
  rw [YM hp, ← DQ] at hst
  rw [mE, hst]
  simp only [Option.bind_some, pC]
  exact ih (k + 1) (by omega)
theorem c84 (t : Nat) (h : kT) : KK 84 [.agg [.int .i64 p.temps, .slice (Rw mK.cells p.arrays) .no, .slice (Rw lX.cells p.blocks) .no, .int .i64 p.inn, .int .i64 p.out], .int .i64 (t : Int)] h = some (.ret (.slice (Rw cb (sA p p.blocks.length t)) .no), h) := by
 refine lZ rfl rfl (mN (YB _ _ _ _) ?_)
 have hl0 := RC hp hl t p.blocks.length 0 (by omega)
 have n0 : ((0 : Nat) : Int) = 0 := rfl
 have hz : sA p 0 t = [] := rfl
 rw [n0, hz] at hl0
 have hl0' : mJ (w8 KK 3) ([.int .i64 (t : Int), .ptr 0 0, .slice [] (.own 1), .slice [] (.own 2), .int .i64 0], [.cells [.int .i64 p.temps, .slice (Rw mK.cells p.arrays) .no, .slice (Rw lX.cells p.blocks) .no, .int .i64 p.inn, .int .i64 p.out], .front 0 0, .front 0 0]) =
  some (.exit 0, [.int .i64 (t : Int), .ptr 0 0, .slice [] (.own 1), Vs 2 1 (sA p p.blocks.length t).length, .int .i64 (p.blocks.length : Int)], HM p (sA p p.blocks.length t)) := hl0
 generalize sA p p.blocks.length t = M at *
 have hfin : kR.k8 (kR.oM 0 (HM p M) (Vs 2 1 M.length)) = .slice (Rw cb M) .no := by
  by_cases h0 : M.length = 0
  ·have : M = [] := List.eq_nil_of_length_eq_zero h0
   subst this; rfl
  ·rw [IC h0]
   have : kR.nM 0 (HM p M) (.vslice 2 M.length 0 M.length 1) = .slice (Rw cb M) .no := JP (enc := cb) (by omega) (fun _ => rfl) (fun _ => rfl) (by show some (Vb cb 1 M) = _; rw [CK h0])
   show kR.k8 (kR.nM 0 (HM p M) (.vslice 2 M.length 0 M.length 1)) = _
   rw [this]; rfl
 generalize HM p M = H at *
 simp [m84, hl0', hfin]
end
end Go.Proofs.YtkeoalhglkfbkaaDoor


namespace Go.Proofs.YtkeoalhglkfbkaaDoor
open Go Hk
theorem DU (m : List Bool) : (q_ m).first ≤ (q_ m).last ∧ (q_ m).last < m.length ∧ -1 ≤ (q_ m).first ∧ ((q_ m).first < 0 → (q_ m).last = -1) := by
 induction m using PS.u7 with
 | h0 => exact ⟨by decide, by decide, by decide, fun _ => rfl⟩
 | h1 l b ih =>
  obtain ⟨h1, h2, h3, h4⟩ := ih
  rw [tF]
  have hl : ((l ++ [b]).length : Int) = (l.length : Int) + 1 := by simp
  rw [hl]
  cases b with
  | false => simp only [Bool.false_eq_true, if_false]; exact ⟨h1, by omega, h3, h4⟩
  | true =>
   simp only [if_true]
   unfold Cc
   by_cases hf : (q_ l).first < 0
   ·rw [if_pos hf]; exact ⟨Int.le_refl _, by show (l.length : Int) < _; omega, by show (-1 : Int) ≤ (l.length : Int); omega, fun h => by have : (l.length : Int) < 0 := h; omega⟩
   ·rw [if_neg hf]
    refine ⟨?_, ?_, ?_, ?_⟩ <;> simp only <;> omega
theorem Ni (m : List Bool) : q_ (m ++ [true]) = ⟨if (q_ m).first < 0 then (m.length : Int) else (q_ m).first, (m.length : Int)⟩ := by
 obtain ⟨h1, h2, h3, h4⟩ := DU m
 rw [tF, if_pos rfl]
 unfold Cc
 by_cases hf : (q_ m).first < 0
 ·rw [if_pos hf, if_pos hf]
 ·rw [if_neg hf, if_neg hf]
  congr 1 <;> omega
def HD (p : IR) (n : Nat) : kT := [.cells [.int .i64 p.temps, .slice (Rw mK.cells p.arrays) .no, .slice (Rw lX.cells p.blocks) .no, .int .i64 p.inn, .int .i64 p.out], .front 0 0, sD 2 n]
section
variable {p : IR} {A : List Span} {M : List Bool} {t : Int}
theorem Pf (hM : M.length ≤ 2000000000000) : ∀ (d k : Nat), M.length = k + d →
  mJ (Cj KK 4) ([.ptr 0 0, .slice [] (.own 1), .int .i64 0, .slice (Rw Span.cells A) (.own 2), .int .i64 t, .slice (Rw cb M) .no, .ptr 3 0, .int .i64 (k : Int)], HD p A.length ++ [.cells (q_ (M.take k)).cells]) =
   some (.exit 2, [.ptr 0 0, .slice [] (.own 1), .int .i64 0, .slice (Rw Span.cells A) (.own 2), .int .i64 t, .slice (Rw cb M) .no, .ptr 3 0, .int .i64 (M.length : Int)], HD p A.length ++ [.cells (q_ M).cells]) := by
 intro d
 induction d with
 | zero =>
  intro k hk
  obtain rfl : k = M.length := by omega
  rw [mE, List.take_length]
  simp [Cj, HD]
 | succ d ih =>
  intro k hk
  have hkl : k < M.length := by omega
  have e1 : oO M (k : Int) = some M[k] := by rw [nZ, List.getElem?_eq_getElem hkl]
  have w1 : IntKind.i64.wrap ((k : Int) + 1) = ((k + 1 : Nat) : Int) := by rw [wrap64 (by omega) (by omega), Int.natCast_add]; rfl
  have hst : Cj KK 4 ([.ptr 0 0, .slice [] (.own 1), .int .i64 0, .slice (Rw Span.cells A) (.own 2), .int .i64 t, .slice (Rw cb M) .no, .ptr 3 0, .int .i64 (k : Int)], HD p A.length ++ [.cells (q_ (M.take k)).cells]) =
   some (.normal, [.ptr 0 0, .slice [] (.own 1), .int .i64 0, .slice (Rw Span.cells A) (.own 2), .int .i64 t, .slice (Rw cb M) .no, .ptr 3 0, .int .i64 ((k + 1 : Nat) : Int)], HD p A.length ++ [.cells (q_ (M.take (k + 1))).cells]) := by
   have htl : (M.take k).length = k := by rw [List.length_take]; omega
   rw [List.take_succ_eq_append_getElem hkl]
   cases hb : M[k] with
   | false =>
    rw [hb] at e1
    rw [tF]
    simp [Cj, HD, e1, w1, hkl]
   | true =>
    rw [hb] at e1
    rw [Ni, htl]
    generalize q_ (M.take k) = s at *
    by_cases hf : s.first < 0
    ·simp [Cj, HD, e1, w1, hkl, hf]
    ·simp [Cj, HD, e1, w1, hkl, hf]
  rw [mE, hst]
  simp only [Option.bind_some, pC]
  exact ih (k + 1) (by omega)
end
section
variable {p : IR} (hp : wK p) (hl : ∀ b ∈ p.blocks, pT b.term = oY b.term) {N : Nat} (hN : (N : Int) = p.temps)
include hp hl hN
theorem Rx {t : Nat} (ht : t < N) (A : List Span) (hA : A.length ≤ 2000000) :
  DJ KK 3 ([.ptr 0 0, .slice [] (.own 1), .int .i64 0, .slice (Rw Span.cells A) (.own 2), .int .i64 (t : Int)], HD p A.length) =
   some (.normal, [.ptr 0 0, .slice [] (.own 1), .int .i64 0, .slice (Rw Span.cells (A ++ [q_ (sA p p.blocks.length t)])) (.own 2), .int .i64 ((t + 1 : Nat) : Int)], HD p (A ++ [q_ (sA p p.blocks.length t)]).length) := by
 obtain ⟨h1, h2⟩ := AP hp p.blocks.length t (Nat.le_refl _)
 have hnb := hp.nb
 have htm := hp.temps
 have hM : (sA p p.blocks.length t).length ≤ 2000000000000 := by
  have : p.blocks.length * 1048577 ≤ 1048576 * 1048577 := Nat.mul_le_mul_right _ hnb
  omega
 have h84 := fun h => c84 hp hl t h
 have hl0 := Pf (p := p) (A := A) (t := (t : Int)) hM _ 0 (Nat.zero_add _).symm
 have n0 : ((0 : Nat) : Int) = 0 := rfl
 have hz : q_ [] = ⟨-1, -1⟩ := rfl
 rw [n0, List.take_zero, hz] at hl0
 generalize sA p p.blocks.length t = M at *
 have w1 : IntKind.i64.wrap ((t : Int) + 1) = ((t + 1 : Nat) : Int) := by rw [wrap64 (by omega) (by omega), Int.natCast_add]; rfl
 have hlt : (t : Int) < p.temps := by omega
 generalize hs : q_ M = s at *
 have ha : ∀ (C : kT) T, nQ 2 16 (.cells [.int .i64 p.temps, .slice (Rw mK.cells p.arrays) .no, .slice (Rw lX.cells p.blocks) .no, .int .i64 p.inn, .int .i64 p.out] :: .front 0 0 :: sD 2 A.length :: C) (.slice (Rw Span.cells A) (.own 2)) (.slice [[.int .i64 s.first, .int .i64 s.last]] T) =
   some (.slice (Rw Span.cells (A ++ [s])) (.own 2), .cells [.int .i64 p.temps, .slice (Rw mK.cells p.arrays) .no, .slice (Rw lX.cells p.blocks) .no, .int .i64 p.inn, .int .i64 p.out] :: .front 0 0 :: sD 2 (A ++ [s]).length :: C) := by
  intro C T
  have := Hx (enc := Span.cells) (sz := 2) (by_ := 16) (id := 2) (h := .cells [.int .i64 p.temps, .slice (Rw mK.cells p.arrays) .no, .slice (Rw lX.cells p.blocks) .no, .int .i64 p.inn, .int .i64 p.out] :: .front 0 0 :: sD 2 A.length :: C) (xs := A) (ys := [s]) (T := T) (fun _ => rfl) rfl
  rw [zB (by omega) (by omega) (by simp), vB] at this
  exact this
 have hen : ([.cells [.int .i64 p.temps, .slice (Rw mK.cells p.arrays) .no, .slice (Rw lX.cells p.blocks) .no, .int .i64 p.inn, .int .i64 p.out], .front 0 0, sD 2 A.length] : kT) ++ [.cells s.cells] = [.cells [.int .i64 p.temps, .slice (Rw mK.cells p.arrays) .no, .slice (Rw lX.cells p.blocks) .no, .int .i64 p.inn, .int .i64 p.out], .front 0 0, sD 2 A.length, .cells [.int .i64 s.first, .int .i64 s.last]] := rfl
 simp only [HD, Span.qW, List.cons_append, List.nil_append] at hl0 hen ⊢
 simp [DJ, hlt, h84, hl0, lP, oL, mU, kR.tK, rowsOf, ha, w1]
theorem Rv (hN2 : N ≤ 2000000) : ∀ (d t : Nat), N = t + d →
  mJ (DJ KK 3) ([.ptr 0 0, .slice [] (.own 1), .int .i64 0, .slice (Rw Span.cells (LS t (sA p p.blocks.length))) (.own 2), .int .i64 (t : Int)], HD p (LS t (sA p p.blocks.length)).length) =
   some (.exit 0, [.ptr 0 0, .slice [] (.own 1), .int .i64 0, .slice (Rw Span.cells (LS N (sA p p.blocks.length))) (.own 2), .int .i64 (N : Int)], HD p (LS N (sA p p.blocks.length)).length) := by
 intro d
 induction d with
 | zero =>
  intro t ht
  obtain rfl : t = N := by omega
  rw [mE]
  have : ¬ ((t : Int) < p.temps) := by omega
  simp [DJ, HD, this]
 | succ d ih =>
  intro t ht
  have hst := Rx hp hl hN (t := t) (by omega) (LS t (sA p p.blocks.length)) (by rw [uL]; omega)
  have hs : LS t (sA p p.blocks.length) ++ [q_ (sA p p.blocks.length t)] = LS (t + 1) (sA p p.blocks.length) := by simp [LS, List.range_succ]
  rw [hs] at hst
  rw [mE, hst]
  simp only [Option.bind_some, pC]
  exact ih (t + 1) (by omega)
end
theorem c46 (p : IR) (h : kT) : KK 46 [.agg [.int .i64 p.temps, .slice (Rw mK.cells p.arrays) .no, .slice (Rw lX.cells p.blocks) .no, .int .i64 p.inn, .int .i64 p.out]] h =
  some (.ret (.tuple [.slice (Rw Span.cells (if mZ p = 0 then oR p else [])) .no, .int .i64 (mZ p)]), h) := by
 refine lZ rfl rfl (mN (Yh _ _ _) ?_)
 have h64 : ∀ h, KK 64 [.agg [.int .i64 p.temps, .slice (Rw mK.cells p.arrays) .no, .slice (Rw lX.cells p.blocks) .no, .int .i64 p.inn, .int .i64 p.out]] h = some (.ret (.int .i64 (mZ p)), h) := fun h => c64 p h
 by_cases h0 : mZ p = 0
 ·obtain ⟨hp, hl⟩ := tY h0
  obtain ⟨_, lp, _, _, _⟩ := rZ h0
  have ht0 := lp.t0
  have ht1 := lp.t1
  have hlp := Rv hp hl (N := p.temps.toNat) (by omega) (by omega) p.temps.toNat 0 (by omega)
  have hz : LS 0 (sA p p.blocks.length) = [] := rfl
  have n0 : ((0 : Nat) : Int) = 0 := rfl
  rw [hz, n0] at hlp
  have hlp' : mJ (DJ KK 3) ([.ptr 0 0, .slice [] (.own 1), .int .i64 0, .slice [] (.own 2), .int .i64 0], [.cells [.int .i64 p.temps, .slice (Rw mK.cells p.arrays) .no, .slice (Rw lX.cells p.blocks) .no, .int .i64 p.inn, .int .i64 p.out], .front 0 0, .front 0 0]) =
   some (.exit 0, [.ptr 0 0, .slice [] (.own 1), .int .i64 0, .slice (Rw Span.cells (oR p)) (.own 2), .int .i64 (p.temps.toNat : Int)], HD p (oR p).length) := hlp
  rw [if_pos h0]
  generalize HD p (oR p).length = H at *
  simp [m46, h64, h0, hlp']
  all_goals rfl
 ·rw [if_neg h0]
  simp [m46, h64, h0]
  all_goals rfl
end Go.Proofs.YtkeoalhglkfbkaaDoor


namespace Go.Proofs.YtkeoalhglkfbkaaDoor
open Go Hk
def rH (n : Nat) (ps : List (Nat × Nat)) : List Bool := ps.foldl (fun D q => D.set q.1 true) (List.replicate n false)
theorem uP {n : Nat} {ps : List (Nat × Nat)} : (rH n ps).length = n := by
 induction ps using PS.u7 with
 | h0 => simp [rH]
 | h1 l q ih => unfold rH at ih ⊢; rw [List.foldl_append]; simpa using ih
theorem CR {n : Nat} {ps : List (Nat × Nat)} {q : Nat × Nat} : rH n (ps ++ [q]) = (rH n ps).set q.1 true := by simp [rH]
theorem Dw {n : Nat} {ps : List (Nat × Nat)} {t : Nat} (ht : t < n) : (rH n ps)[t]? = some (decide (t ∈ ps.map (·.1))) := by
 induction ps using PS.u7 with
 | h0 => simp [rH, ht]
 | h1 l q ih =>
  rw [CR, List.getElem?_set]
  by_cases hq : q.1 = t
  ·rw [if_pos hq, if_pos (by rw [uP]; omega)]
   simp [hq]
  ·rw [if_neg hq, ih]
   simp only [List.map_append, List.map_cons, List.map_nil, List.mem_append, List.mem_singleton]
   congr 1
   rw [decide_eq_decide]
   constructor
   ·exact .inl
   ·rintro (h | h)
    ·exact h
    ·exact absurd h.symm hq
theorem yW {n : Nat} {ps : List (Nat × Nat)} (hd : (ps.map (·.1)).Nodup) {t : Nat} (ht : t < n) : (∀ s, (t, s) ∈ ps → (tO n ps)[t]? = some (s : Int)) ∧ (t ∉ ps.map (·.1) → (tO n ps)[t]? = some (-1)) := by
 induction ps using PS.u7 with
 | h0 => exact ⟨fun s h => by simp at h, fun _ => by simp [tO, ht]⟩
 | h1 l q ih =>
  rw [List.map_append, List.nodup_append] at hd
  obtain ⟨hd1, _, hd3⟩ := hd
  obtain ⟨i1, i2⟩ := ih hd1
  have hq : q.1 ∉ l.map (·.1) := fun h => hd3 _ h q.1 (by simp) rfl
  rw [AU]
  refine ⟨fun s hs => ?_, fun hs => ?_⟩
  ·rw [List.getElem?_set]
   rcases List.mem_append.1 hs with h | h
   ·have hne : q.1 ≠ t := fun e => hq (e ▸ List.mem_map.2 ⟨_, h, rfl⟩)
    rw [if_neg hne]; exact i1 s h
   ·simp only [List.mem_singleton] at h
    subst h
    rw [if_pos rfl, if_pos (by rw [sY]; exact ht)]
  ·rw [List.getElem?_set]
   have hne : q.1 ≠ t := fun e => hs (by simp [e])
   rw [if_neg hne]
   exact i2 fun h => hs (by simp only [List.map_append, List.mem_append]; exact .inl h)
section
variable {sp : List Span} {N : Nat} (hN : sp.length = N) (hN2 : N ≤ 1000000)
include hN hN2
theorem aeM {o : List Int} {D : List Bool} (ho : o.length = N) (hD : D.length = N) (s first : Int) : t96 sp N N s first o D = some ((List.range N).any fun t => (D.getD t false && decide (o.getD t 0 = s)) && decide (first ≤ eS sp t)) := by
 have key : ∀ (d i : Nat), N = i + d → ∃ j : Int, v_ (yC sp N N s first o D) (false, (i : Int)) =
   some ((if ((List.range' i d).any fun t => (D.getD t false && decide (o.getD t 0 = s)) && decide (first ≤ eS sp t)) then .r else .x 0), ((List.range' i d).any fun t => (D.getD t false && decide (o.getD t 0 = s)) && decide (first ≤ eS sp t), j)) := by
  intro d
  induction d with
  | zero =>
   intro i hi
   obtain rfl : i = N := by omega
   refine ⟨(i : Int), ?_⟩
   rw [qX (e := .x 0) (s' := (false, (i : Int))) ?_ (by simp)]
   ·simp
   ·simp [yC, hN]
  | succ d ih =>
   intro i hi
   have hil : i < N := by omega
   have e1 : BM N (i : Int) = some i := by unfold BM; rw [if_pos (by omega)]; rfl
   have e2 : s6 N D i = some (D.getD i false) := by unfold s6; rw [if_pos hD, List.getElem?_eq_getElem (by omega), List.getD_eq_getElem?_getD, List.getElem?_eq_getElem (by omega)]; rfl
   have e3 : s6 N o i = some (o.getD i 0) := by unfold s6; rw [if_pos ho, List.getElem?_eq_getElem (by omega), List.getD_eq_getElem?_getD, List.getElem?_eq_getElem (by omega)]; rfl
   have e4 : oO sp (i : Int) = some sp[i] := by rw [nZ, List.getElem?_eq_getElem (by omega)]
   have e5 : sp[i].last = eS sp i := by unfold eS; rw [List.getElem?_eq_getElem (by omega)]; rfl
   have w1 : IntKind.i64.wrap ((i : Int) + 1) = ((i + 1 : Nat) : Int) := by rw [wrap64 (by omega) (by omega), Int.natCast_add]; rfl
   have hii : (i : Int) < (sp.length : Int) := by omega
   obtain ⟨j, hj⟩ := ih (i + 1) (by omega)
   rw [List.range'_succ]
   simp only [List.any_cons]
   by_cases hc : ((D.getD i false && decide (o.getD i 0 = s)) && decide (first ≤ eS sp i)) = true
   ·simp only [hc, Bool.true_or, if_true]
    refine ⟨(i : Int), qX ?_ (by simp)⟩
    simp only [Bool.and_eq_true, decide_eq_true_eq] at hc
    obtain ⟨⟨c1, c2⟩, c3⟩ := hc
    simp only [yC, hii, decide_true, oN, e1, mH, e2, c1, e3, c2, A7, e4, e5, c3, A8]
   ·have hc' : ((D.getD i false && decide (o.getD i 0 = s)) && decide (first ≤ eS sp i)) = false := by simpa using hc
    simp only [hc', Bool.false_or]
    refine ⟨j, ?_⟩
    rw [← hj]
    refine rD ?_
    cases c1 : D.getD i false with
    | false => simp only [yC, hii, decide_true, oN, e1, mH, e2, c1, qB, A7, A8, w1]
    | true =>
     by_cases c2 : o.getD i 0 = s
     ·have c3 : ¬ first ≤ eS sp i := fun h => hc (by simp only [c1, c2, h, decide_true, Bool.and_self])
      simp only [yC, hii, decide_true, oN, e1, mH, e2, c1, e3, c2, A7, e4, e5, c3, decide_false, A8, qB, w1]
     ·simp only [yC, hii, decide_true, oN, e1, mH, e2, c1, e3, c2, decide_false, A7, qB, A8, w1]
 obtain ⟨j, hj⟩ := key N 0 (by omega)
 rw [← List.range_eq_range'] at hj
 have n0 : ((0 : Nat) : Int) = 0 := rfl
 rw [n0] at hj
 unfold t96
 rw [hj, mH]
 cases ((List.range N).any fun t => (D.getD t false && decide (o.getD t 0 = s)) && decide (first ≤ eS sp t)) <;> simp
theorem Sw {ps : List (Nat × Nat)} (hd : (ps.map (·.1)).Nodup) (hlt : ∀ q ∈ ps, q.1 < N) (s : Nat) (first : Int) :
  ((List.range N).any fun t => ((rH N ps).getD t false && decide ((tO N ps).getD t 0 = (s : Int))) && decide (first ≤ eS sp t)) = PS.tk (eS sp) ps s first := by
 rw [Bool.eq_iff_iff, List.any_eq_true, PS.JU]
 constructor
 ·rintro ⟨t, ht, h⟩
  have ht := List.mem_range.1 ht
  simp only [Bool.and_eq_true, decide_eq_true_eq, List.getD_eq_getElem?_getD, Dw ht, Option.getD_some] at h
  obtain ⟨⟨h1, h2⟩, h3⟩ := h
  obtain ⟨q, hq, rfl⟩ := List.mem_map.1 h1
  rw [(yW hd ht).1 q.2 hq] at h2
  have h2 : (q.2 : Int) = (s : Int) := h2
  exact ⟨q, hq, by omega, h3⟩
 ·rintro ⟨q, hq, rfl, h2⟩
  have ht := hlt q hq
  refine ⟨q.1, List.mem_range.2 ht, ?_⟩
  simp only [Bool.and_eq_true, decide_eq_true_eq, List.getD_eq_getElem?_getD, Dw ht, Option.getD_some]
  exact ⟨⟨List.mem_map.2 ⟨q, hq, rfl⟩, by rw [(yW hd ht).1 q.2 hq]; rfl⟩, h2⟩
theorem Sr {ps : List (Nat × Nat)} (hd : (ps.map (·.1)).Nodup) (hlt : ∀ q ∈ ps, q.1 < N) (hpl : ps.length ≤ 1000000) {t : Nat} (ht : t < N) {l36 : List Bool} {l40 : List Int} (h36 : l36.length = N) (h40 : l40.length = N) : ∀ (d s : Nat), PS.pH (eS sp) ps (fS sp t) = s + d →
  v_ (CA sp l36 l40 (t : Int) (rH N ps) (tO N ps)) (s : Int) = some (.x 4, ((PS.pH (eS sp) ps (fS sp t) : Nat) : Int)) := by
 have e1 : oO sp (t : Int) = some sp[t] := by rw [nZ, List.getElem?_eq_getElem (by omega)]
 have e2 : sp[t].first = fS sp t := by unfold fS; rw [List.getElem?_eq_getElem (by omega)]; rfl
 have h96 : ∀ s : Nat, t96 sp N N (s : Int) (fS sp t) (tO N ps) (rH N ps) = some (PS.tk (eS sp) ps s (fS sp t)) := fun s => by
  rw [aeM hN hN2 sY uP, Sw hN hN2 hd hlt]
 have hsl := PS.Dh (e := eS sp) ps (fS sp t)
 intro d
 induction d with
 | zero =>
  intro s hs
  have hs' : s = PS.pH (eS sp) ps (fS sp t) := by omega
  rw [hs']
  refine qX ?_ (by simp)
  unfold CA
  rw [e1, mH, h36, h40, e2, h96, mH, PS.Cu]
  rfl
 | succ d ih =>
  intro s hs
  rw [← ih (s + 1) (by omega)]
  refine rD ?_
  have hb := PS.xS (e := eS sp) (ps := ps) (f := fS sp t) (s := s) (by omega)
  have w1 : IntKind.i64.wrap ((s : Int) + 1) = ((s + 1 : Nat) : Int) := by rw [wrap64 (by omega) (by omega), Int.natCast_add]; rfl
  unfold CA
  rw [e1, mH, h36, h40, e2, h96, mH, hb, oN, w1]
end
end Go.Proofs.YtkeoalhglkfbkaaDoor


namespace Go.Proofs.YtkeoalhglkfbkaaDoor
open Go Hk
def Kz (sp : List Span) (D : List Bool) (t : Nat) : Prop := 0 ≤ fS sp t ∧ D.getD t false = false
def adK (sp : List Span) (a b : Nat) : Prop := fS sp a < fS sp b ∨ fS sp a = fS sp b ∧ a ≤ b
def QJ (sp : List Span) (D : List Bool) (b : Int) (i : Nat) : Prop :=
 (b = -1 ∧ ∀ t < i, ¬ Kz sp D t) ∨ ∃ n : Nat, b = (n : Int) ∧ n < i ∧ Kz sp D n ∧ ∀ t < i, Kz sp D t → adK sp n t
theorem Hz {sp : List Span} {D : List Bool} {b : Int} {i : Nat} (h : QJ sp D b i) (hc : ¬ Kz sp D i) : QJ sp D b (i + 1) := by
 rcases h with ⟨h1, h2⟩ | ⟨n, h1, h2, h3, h4⟩
 ·refine .inl ⟨h1, fun t ht => ?_⟩
  by_cases he : t = i
  ·exact he ▸ hc
  ·exact h2 t (by omega)
 ·refine .inr ⟨n, h1, by omega, h3, fun t ht ct => ?_⟩
  by_cases he : t = i
  ·exact absurd (he ▸ ct) hc
  ·exact h4 t (by omega) ct
section
variable {sp : List Span} {N : Nat} (hN : sp.length = N) (hN2 : N ≤ 1000000)
include hN hN2
theorem Sv {D : List Bool} (hD : D.length = N) : ∀ (d i : Nat) (b : Int), N = i + d → QJ sp D b i →
  ∃ b', v_ (xA sp N D) (b, (i : Int)) = some (.x 0, (b', (N : Int))) ∧ QJ sp D b' N := by
 intro d
 induction d with
 | zero =>
  intro i b hi hb
  obtain rfl : i = N := by omega
  refine ⟨b, qX ?_ (by simp), hb⟩
  simp [xA, hN]
 | succ d ih =>
  intro i b hi hb
  have hil : i < N := by omega
  have e1 : BM N (i : Int) = some i := by unfold BM; rw [if_pos (by omega)]; rfl
  have e2 : s6 N D i = some (D.getD i false) := by unfold s6; rw [if_pos hD, List.getElem?_eq_getElem (by omega), List.getD_eq_getElem?_getD, List.getElem?_eq_getElem (by omega)]; rfl
  have e4 : oO sp (i : Int) = some sp[i] := by rw [nZ, List.getElem?_eq_getElem (by omega)]
  have e5 : sp[i].first = fS sp i := by unfold fS; rw [List.getElem?_eq_getElem (by omega)]; rfl
  have w1 : IntKind.i64.wrap ((i : Int) + 1) = ((i + 1 : Nat) : Int) := by rw [wrap64 (by omega) (by omega), Int.natCast_add]; rfl
  have hii : (i : Int) < (sp.length : Int) := by omega
  by_cases hf : 0 ≤ fS sp i
  ·cases hd : D.getD i false with
   | true =>
    obtain ⟨b', h1, h2⟩ := ih (i + 1) b (by omega) (Hz hb fun h => by rw [h.2] at hd; cases hd)
    refine ⟨b', ?_, h2⟩
    rw [← h1]
    refine rD ?_
    simp only [xA, hii, decide_true, oN, e4, mH, e5, hf, e1, e2, hd, Bool.not_true, Ac, qB, yB, A6, w1]
   | false =>
    have hc : Kz sp D i := ⟨hf, hd⟩
    rcases hb with ⟨hb1, hb2⟩ | ⟨n, hb1, hb2, hb3, hb4⟩
    ·obtain ⟨b', h1, h2⟩ := ih (i + 1) (i : Int) (by omega) (.inr ⟨i, rfl, by omega, hc, fun t ht ct => by
      by_cases he : t = i
      ·subst he; exact .inr ⟨rfl, Nat.le_refl _⟩
      ·exact absurd ct (hb2 t (by omega))⟩)
     refine ⟨b', ?_, h2⟩
     rw [← h1]
     refine rD ?_
     have hlt : b < 0 := by omega
     simp only [xA, hii, decide_true, oN, e4, mH, e5, hf, e1, e2, hd, Bool.not_false, Ac, hlt, oN, yB, A6, w1]
    ·have hnl : ¬ b < 0 := by omega
     have e6 : oO sp b = some sp[n] := by rw [hb1, nZ, List.getElem?_eq_getElem (by omega)]
     have e7 : sp[n].first = fS sp n := by unfold fS; rw [List.getElem?_eq_getElem (by omega)]; rfl
     by_cases hlt : fS sp i < fS sp n
     ·obtain ⟨b', h1, h2⟩ := ih (i + 1) (i : Int) (by omega) (.inr ⟨i, rfl, by omega, hc, fun t ht ct => by
       by_cases he : t = i
       ·subst he; exact .inr ⟨rfl, Nat.le_refl _⟩
       ·rcases hb4 t (by omega) ct with h | ⟨h, _⟩
        ·exact .inl (by omega)
        ·exact .inl (by omega)⟩)
      refine ⟨b', ?_, h2⟩
      rw [← h1]
      refine rD ?_
      simp only [xA, hii, decide_true, oN, e4, mH, e5, hf, e1, e2, hd, Bool.not_false, Ac, hnl, decide_false, qB, e6, e7, hlt, yB, A6, w1]
     ·obtain ⟨b', h1, h2⟩ := ih (i + 1) b (by omega) (.inr ⟨n, hb1, by omega, hb3, fun t ht ct => by
       by_cases he : t = i
       ·subst he
        by_cases hq : fS sp n = fS sp t
        ·exact .inr ⟨hq, by omega⟩
        ·exact .inl (by omega)
       ·exact hb4 t (by omega) ct⟩)
      refine ⟨b', ?_, h2⟩
      rw [← h1]
      refine rD ?_
      simp only [xA, hii, decide_true, oN, e4, mH, e5, hf, e1, e2, hd, Bool.not_false, Ac, hnl, decide_false, qB, e6, e7, hlt, yB, A6, w1]
  ·obtain ⟨b', h1, h2⟩ := ih (i + 1) b (by omega) (Hz hb fun h => hf h.1)
   refine ⟨b', ?_, h2⟩
   rw [← h1]
   refine rD ?_
   simp only [xA, hii, decide_true, oN, e4, mH, e5, hf, decide_false, qB, Ac, yB, A6, w1]
omit hN2 in
theorem QK {k : Nat} {b : Int} (h : QJ sp (rH N (PS.gS (fS sp) (eS sp) ((nB sp).take k))) b N) :
  b = if hk : k < (nB sp).length then (((nB sp)[k] : Nat) : Int) else -1 := by
 have hcd : ∀ t, t < N → (Kz sp (rH N (PS.gS (fS sp) (eS sp) ((nB sp).take k))) t ↔ t ∈ nB sp ∧ t ∉ (nB sp).take k) := by
  intro t ht
  unfold Kz
  rw [List.getD_eq_getElem?_getD, Dw ht, PS.wX, Option.getD_some, decide_eq_false_iff_not, q7]
  constructor
  ·rintro ⟨h1, h2⟩; exact ⟨⟨by omega, h1⟩, h2⟩
  ·rintro ⟨⟨_, h1⟩, h2⟩; exact ⟨h1, h2⟩
 have hmt : ∀ t, t ∈ nB sp → t ∉ (nB sp).take k → ∃ j, k ≤ j ∧ ∃ hj : j < (nB sp).length, (nB sp)[j] = t := by
  intro t h1 h2
  obtain ⟨j, hj, rfl⟩ := List.mem_iff_getElem.1 h1
  refine ⟨j, ?_, hj, rfl⟩
  rcases Nat.lt_or_ge j k with h | h
  ·exact absurd (List.mem_take_iff_getElem.2 ⟨j, by omega, rfl⟩) h2
  ·exact h
 by_cases hk : k < (nB sp).length
 ·rw [dif_pos hk]
  have hlt : (nB sp)[k] < N := by have := (q7.1 (List.getElem_mem hk)).1; omega
  have hck : Kz sp (rH N (PS.gS (fS sp) (eS sp) ((nB sp).take k))) (nB sp)[k] := by
   rw [hcd _ hlt]
   refine ⟨List.getElem_mem hk, fun hm => ?_⟩
   obtain ⟨j, hj, he⟩ := List.mem_take_iff_getElem.1 hm
   have hjk : j < k := by omega
   exact absurd he (List.pairwise_iff_getElem.1 zU j k (by omega) hk hjk)
  rcases h with ⟨_, h2⟩ | ⟨n, h1, h2, h3, h4⟩
  ·exact absurd hck (h2 _ hlt)
  ·obtain ⟨m1, m2⟩ := (hcd n h2).1 h3
   obtain ⟨j, hj1, hj2, hj3⟩ := hmt n m1 m2
   rw [h1]
   rcases Nat.lt_or_ge k j with hkj | hkj
   ·have s1 := List.pairwise_iff_getElem.1 (xL (sp := sp)) k j hk hj2 hkj
    rw [hj3] at s1
    have s2 := h4 _ hlt hck
    unfold adK at s2
    have : n = (nB sp)[k] := by
     rcases s1 with s1 | s1 <;> rcases s2 with s2 | s2 <;> omega
    omega
   ·have : j = k := by omega
    subst this
    rw [hj3]
 ·rw [dif_neg hk]
  rcases h with ⟨h1, _⟩ | ⟨n, h1, h2, h3, h4⟩
  ·exact h1
  ·obtain ⟨m1, m2⟩ := (hcd n h2).1 h3
   obtain ⟨j, hj1, hj2, hj3⟩ := hmt n m1 m2
   omega
theorem Wm {k : Nat} : t95 sp N (rH N (PS.gS (fS sp) (eS sp) ((nB sp).take k))) =
  some (if hk : k < (nB sp).length then (((nB sp)[k] : Nat) : Int) else -1) := by
 obtain ⟨b', h1, h2⟩ := Sv hN hN2 (D := rH N (PS.gS (fS sp) (eS sp) ((nB sp).take k))) uP N 0 (-1) (by omega) (.inl ⟨rfl, fun t ht => by omega⟩)
 have h3 := QK hN h2
 have n0 : ((0 : Nat) : Int) = 0 := rfl
 rw [n0] at h1
 unfold t95
 rw [h1, mH]
 rw [← h3]
 simp
theorem Sp {ps : List (Nat × Nat)} (hd : (ps.map (·.1)).Nodup) (hlt : ∀ q ∈ ps, q.1 < N) (hpl : ps.length ≤ 1000000) {t : Nat} (ht : t < N) {l36 : List Bool} {l40 : List Int} (h36 : l36.length = N) (h40 : l40.length = N) :
  GI (rH N ps) (tO N ps) sp l36 l40 ((PS.nS ps : Nat) : Int) (t : Int) =
   some (.n, (((PS.nS (ps ++ [(t, PS.pH (eS sp) ps (fS sp t))]) : Nat) : Int), rH N (ps ++ [(t, PS.pH (eS sp) ps (fS sp t))]), tO N (ps ++ [(t, PS.pH (eS sp) ps (fS sp t))]))) := by
 have h7 := Sr hN hN2 hd hlt hpl ht h36 h40 (PS.pH (eS sp) ps (fS sp t)) 0 (by omega)
 have n0 : ((0 : Nat) : Int) = 0 := rfl
 rw [n0] at h7
 have hsl := PS.Dh (e := eS sp) ps (fS sp t)
 rw [PS.yT, CR, AU]
 generalize PS.pH (eS sp) ps (fS sp t) = s at *
 have e1 : BM N (t : Int) = some t := by unfold BM; rw [if_pos (by omega)]; rfl
 have e2 : s6 N (tO N ps) t = some ((tO N ps)[t]'(by rw [sY]; omega)) := by unfold s6; rw [if_pos sY, List.getElem?_eq_getElem]
 have e3 : Au N (tO N ps) t (s : Int) = some ((tO N ps).set t (s : Int)) := by unfold Au; rw [if_pos ⟨sY, by rw [sY]; omega⟩]
 have e4 : s6 N (rH N ps) t = some ((rH N ps)[t]'(by rw [uP]; omega)) := by unfold s6; rw [if_pos uP, List.getElem?_eq_getElem]
 have e5 : Au N (rH N ps) t true = some ((rH N ps).set t true) := by unfold Au; rw [if_pos ⟨uP, by rw [uP]; omega⟩]
 have w1 : IntKind.i64.wrap ((s : Int) + 1) = ((s + 1 : Nat) : Int) := by rw [wrap64 (by omega) (by omega), Int.natCast_add]; rfl
 have wm : max ((PS.nS ps : Nat) : Int) ((s + 1 : Nat) : Int) = ((max (PS.nS ps) (s + 1) : Nat) : Int) := by omega
 unfold GI
 rw [h7, mH, h36, h40]
 simp only [As, Bm, e1, mH, e2, e3, e4, e5, w1, wm]
 simp
theorem PO {l36 : List Bool} {l40 : List Int} (h36 : l36.length = N) (h40 : l40.length = N) : ∀ (d k : Nat), (nB sp).length = k + d →
  v_ (BE sp l36 l40) (((PS.nS (PS.gS (fS sp) (eS sp) ((nB sp).take k)) : Nat) : Int), (if hk : k < (nB sp).length then (((nB sp)[k] : Nat) : Int) else -1), rH N (PS.gS (fS sp) (eS sp) ((nB sp).take k)), tO N (PS.gS (fS sp) (eS sp) ((nB sp).take k))) =
   some (.x 2, (EK sp, -1, rH N (J6 sp), tO N (J6 sp))) := by
 have hol := Lb (sp := sp)
 intro d
 induction d with
 | zero =>
  intro k hk
  have : (nB sp).take k = nB sp := List.take_of_length_le (by omega)
  rw [this, dif_neg (by omega)]
  exact qX (by simp [BE, J6, EK]) (by simp)
 | succ d ih =>
  intro k hk
  have hkl : k < (nB sp).length := by omega
  have hg : (PS.gS (fS sp) (eS sp) ((nB sp).take (k + 1))) = PS.gS (fS sp) (eS sp) ((nB sp).take k) ++ [((nB sp)[k], PS.pH (eS sp) (PS.gS (fS sp) (eS sp) ((nB sp).take k)) (fS sp (nB sp)[k]))] := by
   rw [List.take_succ_eq_append_getElem hkl, PS.wG]
  have hlen : (PS.gS (fS sp) (eS sp) ((nB sp).take k)).length = k := by
   rw [← List.length_map (f := (·.1)), PS.wX, List.length_take]; omega
  have hnd : ((PS.gS (fS sp) (eS sp) ((nB sp).take k)).map (·.1)).Nodup := by
   rw [PS.wX]; exact List.Sublist.nodup (List.take_sublist _ _) zU
  have hlt : ∀ q ∈ PS.gS (fS sp) (eS sp) ((nB sp).take k), q.1 < N := by
   intro q hq
   have : q.1 ∈ (PS.gS (fS sp) (eS sp) ((nB sp).take k)).map (·.1) := List.mem_map.2 ⟨q, hq, rfl⟩
   rw [PS.wX] at this
   have := (q7.1 (List.mem_of_mem_take this)).1
   omega
  have htN : (nB sp)[k] < N := by have := (q7.1 (List.getElem_mem hkl)).1; omega
  have h5 := Sp hN hN2 hnd hlt (by omega) htN h36 h40
  rw [← hg] at h5
  have h95 := Wm hN hN2 (k := k + 1)
  rw [← ih (k + 1) (by omega)]
  refine rD ?_
  rw [dif_pos hkl]
  have hge : (0 : Int) ≤ (((nB sp)[k] : Nat) : Int) := by omega
  simp only [BE, hge, decide_true, oN, h5, mH, Bm, h36, h95]
theorem Sq {l40 : List Int} (h40 : l40.length = N) : ∀ (d i : Nat) (R : List Int), N = i + d → R.length = d →
  v_ (DZ sp l40) ((i : Int), List.replicate i (-1) ++ R) = some (.x 0, ((N : Int), List.replicate N (-1))) := by
 intro d
 induction d with
 | zero =>
  intro i R hi hR
  obtain rfl : i = N := by omega
  obtain rfl := List.length_eq_zero_iff.1 hR
  rw [List.append_nil]
  exact qX (by simp [DZ, hN]) (by simp)
 | succ d ih =>
  intro i R hi hR
  obtain ⟨x, R, rfl⟩ : ∃ x R', R = x :: R' := by cases R with | nil => cases hR | cons x R => exact ⟨x, R, rfl⟩
  rw [← ih (i + 1) R (by omega) (by simpa using hR)]
  refine rD ?_
  have hlen : (List.replicate i (-1) ++ x :: R).length = N := by simp at hR ⊢; omega
  have hii : (i : Int) < (sp.length : Int) := by omega
  have w1 : IntKind.i64.wrap ((i : Int) + 1) = ((i + 1 : Nat) : Int) := by rw [wrap64 (by omega) (by omega), Int.natCast_add]; rfl
  have e1 : BM N (i : Int) = some i := by unfold BM; rw [if_pos (by omega)]; rfl
  have e2 : s6 N (List.replicate i (-1) ++ x :: R) i = some x := by
   unfold s6; rw [if_pos hlen, List.getElem?_append_right (by simp)]; simp
  have e3 : Au N (List.replicate i (-1) ++ x :: R) i (-1) = some (List.replicate (i + 1) (-1) ++ R) := by
   unfold Au
   rw [if_pos ⟨hlen, by rw [hlen]; omega⟩, List.set_append_right _ _ (by simp), List.length_replicate, Nat.sub_self, List.set_cons_zero, List.replicate_succ', List.append_assoc]
   rfl
  simp only [DZ, hii, decide_true, oN, h40, e1, mH, e2, e3, w1]
end
end Go.Proofs.YtkeoalhglkfbkaaDoor


namespace Go.Proofs.YtkeoalhglkfbkaaDoor
open Go Hk
theorem c48 (p : IR) (hN2 : p.temps ≤ 1000000) (h : kT) : KK 48 [.agg [.int .i64 p.temps, .slice (Rw mK.cells p.arrays) .no, .slice (Rw lX.cells p.blocks) .no, .int .i64 p.inn, .int .i64 p.out]] h =
  some (.ret (.tuple [.slice (Rw (ci .i64) (if mZ p = 0 then A3 (oR p) else [])) .no, .int .i64 (if mZ p = 0 then EK (oR p) else 0), .int .i64 (mZ p)]), h) := by
 refine lZ rfl rfl (mN (Yi _ _ _) ?_)
 by_cases h0 : mZ p = 0
 ·obtain ⟨hp, hl⟩ := tY h0
  obtain ⟨_, lp, _, _, _⟩ := rZ h0
  have ht0 := lp.t0
  rw [if_pos h0, if_pos h0]
  generalize hsp : oR p = sp
  have hN : sp.length = p.temps.toNat := by rw [← hsp]; exact uL
  have hN2 : p.temps.toNat ≤ 1000000 := by omega
  have hmk0 : Sx 1 (false : Bool) ((sp.length : Nat) : Int) = some (List.replicate p.temps.toNat false) := by
   unfold Sx; rw [if_pos ⟨by omega, by omega, by omega⟩, Int.toNat_natCast, hN]
  have hmk1 : Sx 8 (0 : Int) ((sp.length : Nat) : Int) = some (List.replicate p.temps.toNat 0) := by
   unfold Sx; rw [if_pos ⟨by omega, by omega, by omega⟩, Int.toNat_natCast, hN]
  have hD : rH p.temps.toNat (PS.gS (fS sp) (eS sp) ((nB sp).take 0)) = List.replicate p.temps.toNat false := rfl
  have hO : tO p.temps.toNat (PS.gS (fS sp) (eS sp) ((nB sp).take 0)) = List.replicate p.temps.toNat (-1) := rfl
  have hS : ((PS.nS (PS.gS (fS sp) (eS sp) ((nB sp).take 0)) : Nat) : Int) = 0 := rfl
  have l95 := Wm hN hN2 (k := 0)
  generalize hl36 : List.replicate p.temps.toNat false = l36 at hmk0 hD
  generalize hl40 : List.replicate p.temps.toNat (0 : Int) = l40 at hmk1
  have h36 : l36.length = p.temps.toNat := by rw [← hl36]; simp
  have h40 : l40.length = p.temps.toNat := by rw [← hl40]; simp
  have l3 := Sq hN hN2 h40 p.temps.toNat 0 l40 (by omega) h40
  have l11 := PO hN hN2 h36 h40 (nB sp).length 0 (by omega)
  have n0 : ((0 : Nat) : Int) = 0 := rfl
  rw [hS, hD, hO] at l11
  rw [hD, ← h36] at l95
  simp only [n0, List.replicate_zero, List.nil_append] at l3
  generalize (if hk : 0 < (nB sp).length then (((nB sp)[0] : Nat) : Int) else -1) = z at l95 l11
  have hgo : A3 sp = tO p.temps.toNat (J6 sp) := by unfold A3; rw [hN]
  have hlen : (A3 sp).length = l40.length := by rw [hgo, sY, h40]
  rw [← hgo] at l11
  have hfz : ∀ (b0 b1 b2 : lW) (R : kT), kR.nM 0 (b0 :: b1 :: b2 :: Vc (ci .i64) 1 (A3 sp) :: R) (.vslice 3 l40.length 0 l40.length 1) = .slice (Rw (ci .i64) (A3 sp)) .no := by
   intro b0 b1 b2 R
   rw [← hlen]
   exact JP (enc := (ci .i64)) (by omega) (fun _ => rfl) (fun _ => rfl) rfl
  have k46 := c46 p
  rw [if_pos h0, h0, hsp] at k46
  simp -implicitDefEqProofs [-lS, -lK, -lD, -lF, -lL, -lQ, -lJ, m48, k46, h0, YO, YP, hmk0, hmk1, Y8, UQ, acO, l95, l3, l11, Rz]
  simp only [kR.oM, List.map_cons, List.map_nil, hfz]
  rfl
 ·rw [if_neg h0, if_neg h0]
  have k46 := c46 p
  rw [if_neg h0] at k46
  simp -implicitDefEqProofs [-lS, -lK, -lD, -lF, -lL, -lQ, -lJ, m48, k46, h0, Rz]
  rfl
theorem TN {p : IR} (h0 : mZ p ≠ 0) (h : Hk.kT) :
  KK 47 [.agg [.int .i64 p.temps, .slice (Rw mK.cells p.arrays) .no, .slice (Rw lX.cells p.blocks) .no, .int .i64 p.inn, .int .i64 p.out]] h =
   some (.ret (.tuple [.slice (Rw (ci .i64) []) .no, .int .i64 0, .int .i64 (mZ p)]), h) := by
 refine lZ rfl rfl (mN (Ry _ _ _) ?_)
 have k45 := c45 p
 rw [if_neg h0] at k45
 simp [m47, k45, h0, Lx]
 rfl
end Go.Proofs.YtkeoalhglkfbkaaDoor


namespace Go.Proofs.YtkeoalhglkfbkaaDoor
open Go Hk
noncomputable def QX (p : IR) : Bool := Classical.choose (c43 p)
theorem I1 {p : IR} (h : QX p = true) : p.temps ≤ 60 := (Classical.choose_spec (c43 p)).1 h
def Sc (a b c d : Int) : Bool := (a == c) && ((b == d) && true)
def UY (a b c d : Int) : Bool := !Sc a b c d
theorem UZ (a b c d : Int) : (!Sc a b c d) = UY a b c d := rfl
theorem PF (a b : Int) : Sc a b a b = true := by simp [Sc]
theorem Qz (a b c d : Int) : o_ [.i, .i] (.agg [.int .i64 a, .int .i64 b]) (.agg [.int .i64 c, .int .i64 d]) = some (Sc a b c d) := rfl
noncomputable def Ob (p : IR) : Option Bool := some (QX p)
noncomputable def Wq : Option Bool := some true
noncomputable def u45 (p : IR) : Option (List Span × Int) := some (if mZ p = 0 then oR p else [], mZ p)
noncomputable def Nq (p : IR) : Option (List Span × Int) := some (if mZ p = 0 then oR p else [], mZ p)
noncomputable def Nr (p : IR) : Option (List Int × Int × Int) := some (if mZ p = 0 then A3 (oR p) else [], if mZ p = 0 then EK (oR p) else 0, mZ p)
noncomputable def Te (p : IR) : Option (List Int × Int × Int) := some (if mZ p = 0 then A3 (oR p) else [], if mZ p = 0 then EK (oR p) else 0, mZ p)
theorem PH {p : IR} : ∀ s ∈ oR p, 0 ≤ s.first → s.first ≤ s.last := by
 intro s hs _
 unfold oR LS at hs
 obtain ⟨t, _, rfl⟩ := List.mem_map.1 hs
 exact (DU _).1
theorem q43 (p : IR) (h : kT) : KK 43 [.agg [.int .i64 p.temps, .slice (Rw mK.cells p.arrays) .no, .slice (Rw lX.cells p.blocks) .no, .int .i64 p.inn, .int .i64 p.out]] h = tm (Ob p) fun r => (.ret (.bool r), h) := (Classical.choose_spec (c43 p)).2 h
theorem q44 (h : kT) : KK 44 [] h = tm Wq fun r => (.ret (.bool r), h) := c44 h
theorem q45 (p : IR) (h : kT) : KK 45 [.agg [.int .i64 p.temps, .slice (Rw mK.cells p.arrays) .no, .slice (Rw lX.cells p.blocks) .no, .int .i64 p.inn, .int .i64 p.out]] h = tm (u45 p) fun r => (.ret (.tuple [.slice (Rw Span.cells r.1) .no, .int .i64 r.2]), h) := c45 p h
theorem q46 (p : IR) (h : kT) : KK 46 [.agg [.int .i64 p.temps, .slice (Rw mK.cells p.arrays) .no, .slice (Rw lX.cells p.blocks) .no, .int .i64 p.inn, .int .i64 p.out]] h = tm (Nq p) fun r => (.ret (.tuple [.slice (Rw Span.cells r.1) .no, .int .i64 r.2]), h) := c46 p h
theorem q47 (p : IR) (hf : p.temps ≤ 60) (h : kT) : KK 47 [.agg [.int .i64 p.temps, .slice (Rw mK.cells p.arrays) .no, .slice (Rw lX.cells p.blocks) .no, .int .i64 p.inn, .int .i64 p.out]] h = tm (Nr p) fun r => (.ret (.tuple [.slice (Rw (ci .i64) r.1) .no, .int .i64 r.2.1, .int .i64 r.2.2]), h) := by
 unfold Nr
 by_cases h0 : mZ p = 0
 ·rw [if_pos h0, if_pos h0]
  have hl : (oR p).length = p.temps.toNat := uL
  refine (c47 (p := p) (sp := oR p) rfl (by omega) PH (fun h => ?_) h).trans (by rw [h0]; rfl)
  have := c45 p h
  rw [if_pos h0, h0] at this
  exact this
 ·rw [if_neg h0, if_neg h0]; exact TN h0 h
theorem q48 (p : IR) (hf : p.temps ≤ 60) (h : kT) : KK 48 [.agg [.int .i64 p.temps, .slice (Rw mK.cells p.arrays) .no, .slice (Rw lX.cells p.blocks) .no, .int .i64 p.inn, .int .i64 p.out]] h = tm (Te p) fun r => (.ret (.tuple [.slice (Rw (ci .i64) r.1) .no, .int .i64 r.2.1, .int .i64 r.2.2]), h) := c48 p (by omega) h
noncomputable def AQ (mm : Nat) (aA : R) : Option (n_ × kT) :=
 (fun aB aC => Ex.nV aA.1 (nE mm aB aC)) (gd aA.2.1 0) aA.2.2
noncomputable def MT (K : k9) (m : Nat) (aH : kR) (aC : kR) (aD : kR) (aE : kR) (aA : kR) (aB : kR) (aG : kT) (aF : kR) : Option R :=
 lG aH (lC m .ret [(.bool false), aC, aD, aE, aA, aB] aG) (bo .add aB (.int .i64 1) fun aI => lC m .normal [aF, aC, aD, aE, aA, aI] aG)
noncomputable def GF (aB : Bool) (aA : Int) : Option (Ey × Int) :=
 tc aB (some (.r, aA)) (some (.n, (IntKind.wrap .i64 (aA + 1))))
theorem YY (w167 : Bool) (w76 : (List Span)) (w78 : (List Span)) (w80 : (List Int)) (w83 : (List Int)) (s122 : Int) (p0 : IR) : (MT KK 1 (.bool w167) (.slice (Rw Span.cells w76) .no) (.slice (Rw Span.cells w78) .no) (.slice (Rw (ci .i64) w80) .no) (.slice (Rw (ci .i64) w83) .no) (.int .i64 s122) ([.cells [(.int .i64 p0.temps), (.slice (Rw mK.cells p0.arrays) .no), (.slice (Rw lX.cells p0.blocks) .no), (.int .i64 p0.inn), (.int .i64 p0.out)]] : kT) (.bool false)) = tm (GF w167 s122) fun r => (r.1.ex, [(.bool false), (.slice (Rw Span.cells w76) .no), (.slice (Rw Span.cells w78) .no), (.slice (Rw (ci .i64) w80) .no), (.slice (Rw (ci .i64) w83) .no), (.int .i64 r.2)], ([.cells [(.int .i64 p0.temps), (.slice (Rw mK.cells p0.arrays) .no), (.slice (Rw lX.cells p0.blocks) .no), (.int .i64 p0.inn), (.int .i64 p0.out)]] : kT)) := by
 simp +contextual -implicitDefEqProofs (maxSteps := 2000000) [-lS, -lK, -lD, -lF, -lL, -lQ, -lJ, MT, GF]
noncomputable def Ju (K : k9) (m : Nat) (s : List kR × kT) : Option R :=
 (fun aH aD aE aF aC aA aG => ln aD fun aR => bo .lss aA aR fun aS => lG aS (ix 2 aD aA fun aT => ld true 2 aG aT fun aU => ix 2 aE aA fun aV => ld true 2 aG aV fun aW => (o_ [.i, .i] aU aW).bind fun aB => gS false (.bool (!aB)) (kW aF aG) aG fun aX aK => gS false (.bool (!aB)) (kW aA aK) aK fun aY aL => gS false (.bool (!aB)) (ix 1 aX aY fun aZ => kW aZ aL) aL fun a6 aI => gS false (.bool (!aB)) (ld false 1 aI a6 fun a7 => kW a7 aI) aI fun a8 aM => gS false (.bool (!aB)) (kW aC aM) aM fun a_ aN => gS false (.bool (!aB)) (kW aA aN) aN fun bA aO => gS false (.bool (!aB)) (ix 1 a_ bA fun bB => kW bB aO) aO fun bC aJ => gS false (.bool (!aB)) (ld false 1 aJ bC fun bD => kW bD aJ) aJ fun bE aP => gS false (.bool (!aB)) (bo .neq a8 bE fun bF => kW bF aP) aP fun bG aQ => (lV (.bool (!aB)) (.bool true) bG).bind fun bH => MT K m bH aD aE aF aC aA aQ aH) (lC m (.exit 0) [aH, aD, aE, aF, aC, aA] aG)) (gd s.1 0) (gd s.1 1) (gd s.1 2) (gd s.1 3) (gd s.1 4) (gd s.1 5) s.2
noncomputable def Cv (aF : (List Span)) (aG : (List Span)) (aH : (List Int)) (aI : (List Int)) (aA : Int) : Option (Ey × Int) :=
 tc (decide (aA < ((List.length aF : Nat) : Int))) (tb ((oO aF aA)) fun aB => tb ((oO aG aA)) fun aC => tc (UY aB.first aB.last aC.first aC.last) (GF true aA) (tb ((oO aH aA)) fun aD => tb ((oO aI aA)) fun aE => GF (!decide (aD = aE)) aA)) (some ((.x 0), aA))
theorem W0 (w76 : (List Span)) (w78 : (List Span)) (w80 : (List Int)) (w83 : (List Int)) (p0 : IR) (s122 : Int) : Ju KK 1 ([(.bool false), (.slice (Rw Span.cells w76) .no), (.slice (Rw Span.cells w78) .no), (.slice (Rw (ci .i64) w80) .no), (.slice (Rw (ci .i64) w83) .no), (.int .i64 s122)], ([.cells [(.int .i64 p0.temps), (.slice (Rw mK.cells p0.arrays) .no), (.slice (Rw lX.cells p0.blocks) .no), (.int .i64 p0.inn), (.int .i64 p0.out)]] : kT)) = tm (Cv w76 w78 w80 w83 s122) fun r => (r.1.ex, [(.bool false), (.slice (Rw Span.cells w76) .no), (.slice (Rw Span.cells w78) .no), (.slice (Rw (ci .i64) w80) .no), (.slice (Rw (ci .i64) w83) .no), (.int .i64 r.2)], ([.cells [(.int .i64 p0.temps), (.slice (Rw mK.cells p0.arrays) .no), (.slice (Rw lX.cells p0.blocks) .no), (.int .i64 p0.inn), (.int .i64 p0.out)]] : kT)) := by
 simp +contextual -implicitDefEqProofs (maxSteps := 2000000) [-lS, -lK, -lD, -lF, -lL, -lQ, -lJ, Ju, Cv, YY, Qz, UZ, -Bool.cond_not]
theorem Gp (w76 : (List Span)) (w78 : (List Span)) (w80 : (List Int)) (w83 : (List Int)) (p0 : IR) (i5 : Int) : mJ (Ju KK 1) ([(.bool false), (.slice (Rw Span.cells w76) .no), (.slice (Rw Span.cells w78) .no), (.slice (Rw (ci .i64) w80) .no), (.slice (Rw (ci .i64) w83) .no), (.int .i64 i5)], ([.cells [(.int .i64 p0.temps), (.slice (Rw mK.cells p0.arrays) .no), (.slice (Rw lX.cells p0.blocks) .no), (.int .i64 p0.inn), (.int .i64 p0.out)]] : kT)) = tm (v_ (Cv w76 w78 w80 w83) i5) fun r => (r.1.ex, [(.bool false), (.slice (Rw Span.cells w76) .no), (.slice (Rw Span.cells w78) .no), (.slice (Rw (ci .i64) w80) .no), (.slice (Rw (ci .i64) w83) .no), (.int .i64 r.2)], ([.cells [(.int .i64 p0.temps), (.slice (Rw mK.cells p0.arrays) .no), (.slice (Rw lX.cells p0.blocks) .no), (.int .i64 p0.inn), (.int .i64 p0.out)]] : kT)) := by
 exact w6 (enc := fun s122 => ([(.bool false), (.slice (Rw Span.cells w76) .no), (.slice (Rw Span.cells w78) .no), (.slice (Rw (ci .i64) w80) .no), (.slice (Rw (ci .i64) w83) .no), (.int .i64 s122)], ([.cells [(.int .i64 p0.temps), (.slice (Rw mK.cells p0.arrays) .no), (.slice (Rw lX.cells p0.blocks) .no), (.int .i64 p0.inn), (.int .i64 p0.out)]] : kT))) (fun s122 => W0 w76 w78 w80 w83 p0 s122) i5
noncomputable def MS (K : k9) (aJ : kR) (aB : kT) (aO : kR) (aP : kR) (Nq : kR) (aQ : kR) : Option R :=
 lG aJ (some (.ret, [(.bool false)], aB)) ((mJ (Ju K (List.length aB)) ([(.bool false), aO, aP, Nq, aQ, (.int .i64 0)], aB)).bind fun aA => (fun aC aL aM aN aE aF aD => Ex.lY aA.1 none (fun aG => Ex.inBlock 0 aG (ca (K 44 [] aD) fun aK aI => some (.ret, [aK], aI)) (fun aH => some (aH, [aC], aD)))) (gd aA.2.1 0) (gd aA.2.1 1) (gd aA.2.1 2) (gd aA.2.1 3) (gd aA.2.1 4) (gd aA.2.1 5) aA.2.2)
noncomputable def GD (aE : Bool) (aF : (List Span)) (aG : (List Span)) (aH : (List Int)) (aI : (List Int)) : Option (Bool) :=
 tc aE (some false) (tb (v_ (Cv aF aG aH aI) 0) fun aC => As aC.1 none fun aA => Bm 0 aA (tb ((Wq )) fun aD => some aD) fun aB => OD aB (some false))
theorem JG (w121 : Bool) (p0 : IR) (w76 : (List Span)) (w78 : (List Span)) (w80 : (List Int)) (w83 : (List Int)) : ((MS KK (.bool w121) ([.cells [(.int .i64 p0.temps), (.slice (Rw mK.cells p0.arrays) .no), (.slice (Rw lX.cells p0.blocks) .no), (.int .i64 p0.inn), (.int .i64 p0.out)]] : kT) (.slice (Rw Span.cells w76) .no) (.slice (Rw Span.cells w78) .no) (.slice (Rw (ci .i64) w80) .no) (.slice (Rw (ci .i64) w83) .no))).bind (AQ 0) = tm (GD w121 w76 w78 w80 w83) fun r => (.ret (.bool r), []) := by
 simp +contextual -implicitDefEqProofs (maxSteps := 2000000) [-lS, -lK, -lD, -lF, -lL, -lQ, -lJ, MS, GD, q44, Gp, AQ]
noncomputable def MR (K : k9) (aA : kR) (Nr : kR) (aB : kT) (aN : kR) (aK : kR) (aL : kR) (Nq : kR) (aM : kR) : Option R :=
 gS false aA (kW Nr aB) aB fun aF aC => gS false aA (kW aN aC) aC fun aG aD => gS false aA (bo .neq aF aG fun aH => kW aH aD) aD fun aI aE => (lV aA (.bool true) aI).bind fun aJ => MS K aJ aE aK aL Nq aM
noncomputable def GC (aA : Bool) (aF : Int) (aG : Int) (aB : (List Span)) (aC : (List Span)) (aD : (List Int)) (aE : (List Int)) : Option (Bool) :=
 tc aA (GD true aB aC aD aE) (GD (!decide (aF = aG)) aB aC aD aE)
theorem M_ (w110 : Bool) (w81 : Int) (p0 : IR) (w84 : Int) (w76 : (List Span)) (w78 : (List Span)) (w80 : (List Int)) (w83 : (List Int)) : ((MR KK (.bool w110) (.int .i64 w81) ([.cells [(.int .i64 p0.temps), (.slice (Rw mK.cells p0.arrays) .no), (.slice (Rw lX.cells p0.blocks) .no), (.int .i64 p0.inn), (.int .i64 p0.out)]] : kT) (.int .i64 w84) (.slice (Rw Span.cells w76) .no) (.slice (Rw Span.cells w78) .no) (.slice (Rw (ci .i64) w80) .no) (.slice (Rw (ci .i64) w83) .no))).bind (AQ 0) = tm (GC w110 w81 w84 w76 w78 w80 w83) fun r => (.ret (.bool r), []) := by
 simp +contextual -implicitDefEqProofs (maxSteps := 2000000) [-lS, -lK, -lD, -lF, -lL, -lQ, -lJ, MR, GC, q44, Gp, AQ, JG]
noncomputable def MQ (K : k9) (t96 : kR) (Te : kR) (aH : kT) (aM : kR) (Nr : kR) (aL : kR) (aI : kR) (aJ : kR) (Nq : kR) (aK : kR) : Option R :=
 gS false t96 (kW Te aH) aH fun t100 aA => gS false t96 (kW aM aA) aA fun aD aB => gS false t96 (bo .neq t100 aD fun aE => kW aE aB) aB fun aF aC => (lV t96 (.bool true) aF).bind fun aG => MR K aG Nr aC aL aI aJ Nq aK
noncomputable def GB (aI : Bool) (aG : Int) (aH : Int) (aD : Int) (aF : Int) (aA : (List Span)) (aB : (List Span)) (aC : (List Int)) (aE : (List Int)) : Option (Bool) :=
 tc aI (GC true aD aF aA aB aC aE) (GC (!decide (aG = aH)) aD aF aA aB aC aE)
theorem RV (w99 : Bool) (w82 : Int) (p0 : IR) (w85 : Int) (w81 : Int) (w84 : Int) (w76 : (List Span)) (w78 : (List Span)) (w80 : (List Int)) (w83 : (List Int)) : ((MQ KK (.bool w99) (.int .i64 w82) ([.cells [(.int .i64 p0.temps), (.slice (Rw mK.cells p0.arrays) .no), (.slice (Rw lX.cells p0.blocks) .no), (.int .i64 p0.inn), (.int .i64 p0.out)]] : kT) (.int .i64 w85) (.int .i64 w81) (.int .i64 w84) (.slice (Rw Span.cells w76) .no) (.slice (Rw Span.cells w78) .no) (.slice (Rw (ci .i64) w80) .no) (.slice (Rw (ci .i64) w83) .no))).bind (AQ 0) = tm (GB w99 w82 w85 w81 w84 w76 w78 w80 w83) fun r => (.ret (.bool r), []) := by
 simp +contextual -implicitDefEqProofs (maxSteps := 2000000) [-lS, -lK, -lD, -lF, -lL, -lQ, -lJ, MQ, GB, q44, Gp, AQ, JG, M_]
noncomputable def MP (K : k9) (aA : kR) (aG : kR) (aB : kT) (aI : kR) (Te : kR) (aL : kR) (Nr : kR) (aK : kR) (aF : kR) (aH : kR) (Nq : kR) (aJ : kR) : Option R :=
 gS false aA (kW aG aB) aB fun aM aC => gS false aA (kW aI aC) aC fun aN aD => gS false aA (bo .neq aM aN fun aO => kW aO aD) aD fun aP aE => (lV aA (.bool true) aP).bind fun t96 => MQ K t96 Te aE aL Nr aK aF aH Nq aJ
noncomputable def DV (aI : Bool) (aJ : Int) (aK : Int) (aE : Int) (aH : Int) (aD : Int) (aG : Int) (aA : (List Span)) (aB : (List Span)) (aC : (List Int)) (aF : (List Int)) : Option (Bool) :=
 tc aI (GB true aE aH aD aG aA aB aC aF) (GB (!decide (aJ = aK)) aE aH aD aG aA aB aC aF)
theorem YX (w75 : Bool) (w77 : Int) (p0 : IR) (w79 : Int) (w82 : Int) (w85 : Int) (w81 : Int) (w84 : Int) (w76 : (List Span)) (w78 : (List Span)) (w80 : (List Int)) (w83 : (List Int)) : ((MP KK (.bool w75) (.int .i64 w77) ([.cells [(.int .i64 p0.temps), (.slice (Rw mK.cells p0.arrays) .no), (.slice (Rw lX.cells p0.blocks) .no), (.int .i64 p0.inn), (.int .i64 p0.out)]] : kT) (.int .i64 w79) (.int .i64 w82) (.int .i64 w85) (.int .i64 w81) (.int .i64 w84) (.slice (Rw Span.cells w76) .no) (.slice (Rw Span.cells w78) .no) (.slice (Rw (ci .i64) w80) .no) (.slice (Rw (ci .i64) w83) .no))).bind (AQ 0) = tm (DV w75 w77 w79 w82 w85 w81 w84 w76 w78 w80 w83) fun r => (.ret (.bool r), []) := by
 simp +contextual -implicitDefEqProofs (maxSteps := 2000000) [-lS, -lK, -lD, -lF, -lL, -lQ, -lJ, MP, DV, q44, Gp, AQ, JG, M_, RV]
noncomputable def n14 (K : k9) (a0 : kR) (h0 : kT) : Option (n_ × kT) :=
 (lE (nG 5 h0 a0) fun aB aE => ld true 5 aE aB fun aU => ca (K 43 [(kR.k8 aU)] aE) fun aV aC => (yF .not aV).bind fun aW => lG aW (ca (K 44 [] aC) fun t27 aS => some (.ret, [t27], aS)) (ld true 5 aC aB fun t30 => ca (K 45 [(kR.k8 t30)] aC) fun aN aF => (mF 0 aN).bind fun aO => (mF 1 aN).bind fun aX => ld true 5 aF aB fun aY => ca (K 46 [(kR.k8 aY)] aF) fun aP aG => (mF 0 aP).bind fun aQ => (mF 1 aP).bind fun aZ => ld true 5 aG aB fun a6 => ca (K 47 [(kR.k8 a6)] aG) fun Ob aH => (mF 0 Ob).bind fun Nq => (mF 1 Ob).bind fun Nr => (mF 2 Ob).bind fun Te => ld true 5 aH aB fun t49 => ca (K 48 [(kR.k8 t49)] aH) fun aD aI => (mF 0 aD).bind fun aR => (mF 1 aD).bind fun a7 => (mF 2 aD).bind fun a8 => ln aO fun a_ => ln aQ fun bA => bo .neq a_ bA fun aA => gS false aA (kW Nq aI) aI fun bB aJ => gS false aA (ln bB fun bC => kW bC aJ) aJ fun bD aK => gS false aA (kW aR aK) aK fun t64 aL => gS false aA (ln t64 fun bE => kW bE aL) aL fun bF aM => gS false aA (bo .neq bD bF fun bG => kW bG aM) aM fun bH aT => (lV aA (.bool true) bH).bind fun bI => MP K bI aX aT aZ Te a8 Nr a7 aO aQ Nq aR)).bind (AQ (List.length h0))
theorem YR (K : k9) (a0 : kR) (h0 : kT) : qQ Tryd.prog nC mJ K 14 [a0] h0 = n14 (mI nC K) a0 h0 := by kernel_rfl
noncomputable def t14 (p0 : IR) : Option (Bool) :=
 tb ((Ob p0)) fun aE => tc (!aE) (tb ((Wq )) fun aF => some aF) (tb ((u45 p0)) fun aC => tb ((Nq p0)) fun aD => tb ((Nr p0)) fun aA => tb ((Te p0)) fun aB => tc (!decide (((List.length aC.1 : Nat) : Int) = ((List.length aD.1 : Nat) : Int))) (DV true aC.2 aD.2 aA.2.2 aB.2.2 aA.2.1 aB.2.1 aC.1 aD.1 aA.1 aB.1) (DV (!decide (((List.length aA.1 : Nat) : Int) = ((List.length aB.1 : Nat) : Int))) aC.2 aD.2 aA.2.2 aB.2.2 aA.2.1 aB.2.1 aC.1 aD.1 aA.1 aB.1))
theorem b14 (p0 : IR) : n14 KK (.agg [(.int .i64 p0.temps), (.slice (Rw mK.cells p0.arrays) .no), (.slice (Rw lX.cells p0.blocks) .no), (.int .i64 p0.inn), (.int .i64 p0.out)]) [] = tm (t14 p0) fun r => (.ret (.bool r), []) := by
 cases hb : QX p0 with
 | false => simp -implicitDefEqProofs (maxSteps := 2000000) [-lS, -lK, -lD, -lF, -lL, -lQ, -lJ, n14, t14, q43, q44, Ob, Wq, hb, AQ]
 | true =>
  have hf := I1 hb
  have k47 := q47 p0 hf
  have k48 := q48 p0 hf
  simp +contextual -implicitDefEqProofs (maxSteps := 2000000) [-lS, -lK, -lD, -lF, -lL, -lQ, -lJ, n14, t14, -Bool.cond_not, q43, Ob, hb, q44, q45, q46, k47, k48, Gp, AQ, JG, M_, RV, YX]
end Go.Proofs.YtkeoalhglkfbkaaDoor


namespace Go.Proofs.YtkeoalhglkfbkaaDoor
open Go Hk
theorem E0 {sp : List Span} : (A3 sp).length = sp.length := sY
theorem Si {sp : List Span} {sl : List Int} (hl : sl.length = sp.length) (hs : sp.length ≤ 1000000) : ∀ (d i : Nat), sp.length = i + d → v_ (Cv sp sp sl sl) (i : Int) = some (.x 0, ((sp.length : Nat) : Int)) := by
 intro d
 induction d with
 | zero =>
  intro i hi
  obtain rfl : i = sp.length := by omega
  exact qX (by simp [Cv]) (by simp)
 | succ d ih =>
  intro i hi
  rw [← ih (i + 1) (by omega)]
  refine rD ?_
  have hii : (i : Int) < (sp.length : Int) := by omega
  have w1 : IntKind.i64.wrap ((i : Int) + 1) = ((i + 1 : Nat) : Int) := by rw [wrap64 (by omega) (by omega), Int.natCast_add]; rfl
  have e1 : oO sp (i : Int) = some sp[i] := by rw [nZ, List.getElem?_eq_getElem (by omega)]
  have e2 : oO sl (i : Int) = some sl[i] := by rw [nZ, List.getElem?_eq_getElem (by omega)]
  have e3 : UY sp[i].first sp[i].last sp[i].first sp[i].last = false := by unfold UY; rw [PF]; rfl
  simp only [Cv, hii, decide_true, oN, e1, e2, mH, e3, qB, GF, Bool.not_true, w1]
theorem aeL {p : IR} : t14 p = some true := by
 unfold t14
 cases hb : QX p with
 | false => simp [Ob, Wq, hb]
 | true =>
  have hf := I1 hb
  have key : ∀ (sp : List Span) (sl : List Int) (n e : Int), sl.length = sp.length → sp.length ≤ 1000000 → DV false e e e e n n sp sp sl sl = some true := by
   intro sp sl n e hl hs
   have h5 := Si hl hs sp.length 0 (by omega)
   have n0 : ((0 : Nat) : Int) = 0 := rfl
   rw [n0] at h5
   simp [DV, GB, GC, GD, h5, Wq]
  by_cases h0 : mZ p = 0
  ·have k := key (oR p) (A3 (oR p)) (EK (oR p)) (mZ p) E0 (by
    have : (oR p).length = p.temps.toNat := uL
    omega)
   simp [Ob, u45, Nq, Nr, Te, hb, h0] at k ⊢
   exact k
  ·have k := key [] [] 0 (mZ p) rfl (by simp)
   simp [Ob, u45, Nq, Nr, Te, hb, h0]
   exact k
theorem c14 (p : IR) (h : kT) : KK 14 [.agg p.cells] h = some (.ret (.bool true), h) := (L0 rfl rfl (YR ..) (b14 p)).trans (by rw [aeL]; rfl)
end Go.Proofs.YtkeoalhglkfbkaaDoor


namespace Go.Proofs.YtkeoalhglkfbkaaDoor
open Go Hk
theorem adI (p : IR) : EP Tryd.prog nC 14 [.agg p.cells] [] = some (.ret (.bool true), []) := Wc rfl (c14 p [])
end Go.Proofs.YtkeoalhglkfbkaaDoor
